/- zQ law of the number packages: loops in general; digits of the reference. -/
/- zQ law of the number packages: products, quotients, divisors; fractions of the reference. -/
/- zQ law of the number packages: divisors and fractions of the reference. -/
/- zQ law of the number packages: whole numbers of the program. -/
import Derived.Test.YtocnbjjmmgolfaaGreatA35
import Derived.Test.YtocnbjjmmgolfaaGreatA13
namespace Go.Proofs.YtocnbjjmmgolfaaGreat
open Go Go.M Go.Proofs.C14
set_option linter.unusedSimpArgs false
theorem za{σ ρ:Type}(B:(σ→Option ρ)→σ→Option ρ)(k:Nat)(x:σ):zd B (k+1) x=B (zd B k) x:=rfl
theorem loop_run{σ ρ:Type}{B:(σ→Option ρ)→σ→Option ρ}{n:Nat}(I:Nat→σ→Prop)(Q:Option ρ→Prop)
  (hs:∀i x g,i<n→I i x→(∀y,I (i+1) y→Q (g y))→Q (B g x)) (he:∀x g,I n x→Q (B g x)) :
  ∀(m i k:Nat) (x:σ),i+m=n→m<k→I i x→Q (zd B k x)
 |0,i,k+1,x,h,_,hI=>by rw[za];exact he x _ (by obtain rfl:i=n:=h;exact hI)
 |m+1,i,k+1,x,h,hk,hI=>by rw[za];exact hs i x _ Oz hI fun y hy=>loop_run I Q hs he m (i+1) k y Oz Oz hy
theorem zi{σ ρ:Type}{B:(σ→Option ρ)→σ→Option ρ}(n:Nat)(I:Nat→σ→Prop)(Q:Option ρ→Prop){k:Nat}{x:σ}(hk:n<k)(h0:I 0 x)
  (hs:∀i x g,i<n→I i x→(∀y,I (i+1) y→Q (g y))→Q (B g x)) (he:∀x g,I n x→Q (B g x)):Q (zd B (zb k) x):=by
 rw[zm]
 exact loop_run I Q hs he n 0 k x Oz hk h0
theorem yF{x:Int}(h:x.natAbs<9000000000000000000):i64 x=some x:=by
 unfold i64
 rw[if_pos]
 unfold xG
 omega
theorem yg{x:Int}(h:x.natAbs<1000000000):i64 x=some x:=yF Oz
theorem zn{α:Type}{l:List α}{i:Nat}(h:i<l.length):idx l (i:Int)=some l[i]:=by
 unfold idx
 rw[if_pos Oz,Int.toNat_natCast,List.getElem?_eq_getElem h]
theorem zr{i n:Nat}(h:i<n):decide ((i:Int)<(n:Int))=true:=decide_eq_true Oz
theorem zl{i:Nat}(h:i<100000):i64 ((i:Int)+1)=some ((i+1:Nat):Int):=by rw[yg Oz];rfl
theorem zN{α:Type}{l m:List α}(h:l.length+m.length≤60000):app l m=some (l++m):=if_pos Oz
theorem yx{l:List Int}{i:Nat}(h:i<l.length):idx l (i:Int)=some (l.getD i 0):=by
 rw[zn h,List.getD_eq_getElem?_getD,List.getElem?_eq_getElem h];rfl
def sg(s:Bool)(n:Nat):Int:=if s=true then -(n:Int)else n
abbrev NZ:=Bool×List Int
def zw(n:Int):NZ:=(decide (n<0),dg n.natAbs)
theorem xA:zw 0=(false,[]):=by show(_,dg 0)=_;rw[xb];rfl
theorem encZ_sg{s:Bool}{n:Nat}(h:n≠0):zw (sg s n)=(s,dg n):=by
 unfold zw sg
 cases s<;>simp<;>omega
theorem sg_0(s:Bool):sg s 0=0:=by unfold sg;cases s<;>rfl
theorem sg_abs(n:Int):sg (decide (n<0)) n.natAbs=n:=by
 unfold sg
 split
 ·next h=>have:=of_decide_eq_true h;omega
 ·next h=>have:¬n<0:=(fun g=>h (decide_eq_true g));omega
theorem sg_ff(n:Nat):sg false n=n:=rfl
theorem sg_val{a n:Int}{k:Nat}(h:True→(a<0∧n = -(k:Int))∨(0≤a∧n=k)):sg (decide (a<0)) k=n:=by
 unfold sg
 rcases h trivial with⟨h1,h2⟩|⟨h1,h2⟩
 ·rw[if_pos (decide_eq_true h1),h2]
 ·rw[if_neg (by simp;omega),h2]
theorem nrm_end{l:List Int}(h:Dig l)(s:Bool){m:Nat}(hm:nlen l l.length=m) :
  (if decide ((m:Int)=0)=true then some (false,[])else(xq l 0 (m:Int)).bind fun l5=>some (s,l5))=some (zw (sg s (zE l))):=by
 have e:=take_nlen h
 rw[hm]at e
 have h0:=nlen0 h
 rw[hm]at h0
 by_cases c:m=0
 ·rw[if_pos (by simp[c]),h0.mp c,sg_0,xA]
 ·have hl:=nlen_le l l.length
  rw[if_neg (by simp[c]),xq,if_pos Oz,Option.bind_some,encZ_sg (fun x=>c (h0.mpr x)),←e]
  simp
theorem nor_ok{l:List Int}(h:Dig l)(hl:l.length≤5)(s:Bool):z115 s l=some (zw (sg s (zE l))):=by
 unfold z115
 refine zi l.length (fun i (x:Int)=>∃m:Nat,x=m∧m+i=l.length∧nlen l l.length=nlen l m) (fun o=>o=some (zw (sg s (zE l)))) Oz ⟨_,rfl,rfl,rfl⟩ ?_ ?_
 ·rintro i x g hi ⟨m,rfl,hm,hn⟩ hg
  obtain⟨k,rfl⟩:∃k,m=k+1:=⟨m-1,by omega⟩
  have e1:((k+1:Nat):Int)-1=(k:Int):=by omega
  rw[if_pos Y8,e1,yF Oz,Option.bind_some,show max (k:Int) 0=k by omega,yx Oz,Option.bind_some]
  rw[nlen]at hn
  split
  ·next c=>rw[if_pos (by simpa using c)]at hn;exact hg _ ⟨k,rfl,by omega,hn⟩
  ·next c=>rw[if_neg (by simpa using c)]at hn;exact nrm_end h s hn
 ·rintro x g ⟨m,rfl,hm,hn⟩
  obtain rfl:m=0:=by omega
  rw[if_neg Y8]
  exact nrm_end h s (m:=0) hn
theorem digit_ok(l:List Int)(i:Nat):z230 l (i:Int)=some (l.getD i 0):=by
 unfold z230
 by_cases h:i<l.length
 ·rw[if_pos (zr h),yx h];rfl
 ·rw[if_neg (by simp;omega),List.getD_eq_getElem?_getD,List.getElem?_eq_none Oz];rfl
theorem tm9{w:Int}(h:0≤w):Int.tmod w 1000000000=w % 1000000000:=Int.tmod_eq_emod_of_nonneg h
theorem td9{w:Int}(h:0≤w):Int.tdiv w 1000000000=w / 1000000000:=Int.tdiv_eq_ediv_of_nonneg h
theorem dv_lim{l:List Int}{i:Nat}(h:Dig l)(g:l.length≤i):dv l<1000000000 ^ i:=by
 have h1:=dv_lt h
 have h2:(1000000000:Nat) ^ l.length≤1000000000 ^ i:=Nat.pow_le_pow_right Uz g
 have h3:((1000000000 ^ l.length:Nat):Int)≤((1000000000 ^ i:Nat):Int):=by omega
 rw[Int.natCast_pow,Int.natCast_pow]at h3
 exact Int.lt_of_lt_of_le h1 h3
theorem plus_ok{la lb:List Int}(ha:Dig la)(hb:Dig lb)(la3:la.length≤3)(lb3:lb.length≤3) :
  ∃l,z168 la lb=some l∧Dig l∧l.length≤4∧zE l=zE la+zE lb:=by
 unfold z168
 obtain⟨N,hN⟩:∃N,N=max la.length lb.length:=⟨_,rfl⟩
 have fin:∀l,Dig l→dv l=dv la+dv lb→zE l=zE la+zE lb:=by
  intro l h e
  rw[yW h,yW ha,yW hb]at e
  omega
 refine zi (N+1) (fun i (x:Int×Int×List Int)=>x.2.1=(i:Int)∧x.2.2.length=i∧Dig x.2.2∧0≤x.1∧x.1≤1∧(N<i→x.1=0)∧dv x.2.2+1000000000 ^ i*x.1=dv (la.take i)+dv (lb.take i)) (fun o=>∃l,o=some l∧Dig l∧l.length≤4∧zE l=zE la+zE lb) Oz ⟨rfl,rfl,Dig.nil,by decide,by decide,by omega,rfl⟩ ?_ ?_
 ·rintro i ⟨c,j,out⟩ g hi ⟨rfl,hl,hd,c0,c1,cN,hv⟩ hg
  dsimp only at hl hd c0 c1 cN hv ⊢
  have d1:=ha.at i
  have d2:=hb.at i
  obtain⟨w,hw⟩:∃w,w=la.getD i 0+lb.getD i 0+c:=⟨_,rfl⟩
  have hy:=hg (w / 1000000000,((i+1:Nat):Int),out++[w % 1000000000]) ⟨rfl,by simp[hl],hd.app (Dig.one Oz Oz),by dsimp only;omega,by dsimp only;omega,?_,?_⟩
  ·simp only[digit_ok,Option.bind_some,yF (show(la.getD i 0+lb.getD i 0).natAbs<_ by omega),←hw,yF (show w.natAbs<_ by omega),tm9 (show 0≤w by omega),td9 (show 0≤w by omega),zN (show out.length+[w % 1000000000].length≤60000 by simp;omega),yF (show(w / 1000000000).natAbs<_ by omega),zl (show i<100000 by omega),if_neg (show ¬(1000000000:Int)=0 by decide)]
   split
   ·exact hy
   ·split
    ·exact hy
    ·split
     ·exact hy
     ·next a b e=>
      have a:la.length≤i:=by simp at a;omega
      have b:lb.length≤i:=by simp at b;omega
      have e:c=0:=by simp at e;omega
      rw[y7 a,y7 b,e]at hv
      exact⟨out,rfl,hd,by omega,fin _ hd Oz⟩
  ·intro h
   dsimp only
   have z1:la.getD i 0=0:=by rw[List.getD_eq_getElem?_getD,List.getElem?_eq_none Oz];rfl
   have z2:lb.getD i 0=0:=by rw[List.getD_eq_getElem?_getD,List.getElem?_eq_none Oz];rfl
   omega
  ·dsimp only
   rw[dv_snoc,hl,zL,zL,Int.pow_succ]
   have:=step_sum hv hw
   rw[Int.mul_add]at this
   omega
 ·rintro⟨c,j,out⟩ g ⟨rfl,hl,hd,c0,c1,cN,hv⟩
  dsimp only at hl hd c0 c1 cN hv ⊢
  rw[if_neg (by simp;omega),if_neg (by simp;omega),if_neg (by simp;omega)]
  rw[y7 Oz,y7 Oz,cN Oz]at hv
  exact⟨out,rfl,hd,by omega,fin _ hd Oz⟩
theorem minus_ok{la lb:List Int}(ha:Dig la)(hb:Dig lb)(la3:la.length≤3)(hle:lb.length≤la.length)(hv:zE lb≤zE la) :
  ∃l,z170 la lb=some l∧Dig l∧l.length≤3∧zE l=zE la-zE lb:=by
 unfold z170
 have e1:=yW ha
 have e2:=yW hb
 refine zi la.length (fun i (x:Int×Int×List Int)=>x.2.1=(i:Int)∧x.2.2.length=i∧Dig x.2.2∧0≤x.1∧x.1≤1∧dv x.2.2-1000000000 ^ i*x.1=dv (la.take i)-dv (lb.take i)) (fun o=>∃l,o=some l∧Dig l∧l.length≤3∧zE l=zE la-zE lb) Oz ⟨rfl,rfl,Dig.nil,by decide,by decide,rfl⟩ ?_ ?_
 ·rintro i ⟨c,j,out⟩ g hi ⟨rfl,hl,hd,c0,c1,hv⟩ hg
  dsimp only at hl hd c0 c1 hv ⊢
  have d1:=ha.at i
  have d2:=hb.at i
  obtain⟨w,hw⟩:∃w,w=la.getD i 0-lb.getD i 0-c:=⟨_,rfl⟩
  rw[if_pos (zr hi)]
  simp only[yx hi,digit_ok,Option.bind_some,yF (show(la.getD i 0-lb.getD i 0).natAbs<_ by omega),←hw,yF (show w.natAbs<_ by omega),yF (show(w+1000000000).natAbs<_ by omega),zN (show out.length+[w+1000000000].length≤60000 by simp;omega),zN (show out.length+[w].length≤60000 by simp;omega),zl (show i<100000 by omega)]
  split
  ·next h=>
   have h:=of_decide_eq_true h
   refine hg _ ⟨rfl,by simp[hl],hd.app (Dig.one Oz Oz),by simp,by simp,?_⟩
   dsimp only
   rw[dv_snoc,hl,zL,zL,Int.pow_succ,hw]
   simp only[Int.mul_add,Int.mul_sub]
   omega
  ·next h=>
   have h:¬w<0:=fun x=>h (decide_eq_true x)
   refine hg _ ⟨rfl,by simp[hl],hd.app (Dig.one Oz Oz),by simp,by simp,?_⟩
   dsimp only
   rw[dv_snoc,hl,zL,zL,Int.pow_succ,hw]
   simp only[Int.mul_add,Int.mul_sub]
   omega
 ·rintro⟨c,j,out⟩ g ⟨rfl,hl,hd,c0,c1,hv'⟩
  dsimp only at hl hd c0 c1 hv' ⊢
  rw[if_neg Y8]
  rw[List.take_length,y7 Oz]at hv'
  have:=dv_lim hd (Nat.le_of_eq hl)
  have hc:c=0:=by
   rcases(show c=0∨c=1 by omega)with h|h
   ·exact h
   ·rw[h]at hv';omega
  rw[hc]at hv'
  have e3:=yW hd
  exact⟨out,rfl,hd,by omega,by omega⟩
theorem compared_ok{la lb:List Int}(la3:la.length≤3):z169 la lb=some (C14.cmpZ la lb):=by
 unfold z169 C14.cmpZ
 by_cases h1:la.length<lb.length
 ·rw[if_pos (zr h1),if_pos h1]
 rw[if_neg (by simp;omega),if_neg h1]
 by_cases h2:lb.length<la.length
 ·rw[if_pos (zr h2),if_pos h2]
 rw[if_neg (by simp;omega),if_neg h2,yF Oz,Option.bind_some]
 refine zi la.length (fun i (x:Int)=>∃m:Nat,x=(m:Int)-1∧m+i=la.length∧cmpD la lb la.length=cmpD la lb m) (fun o=>o=some (cmpD la lb la.length)) Oz ⟨_,rfl,rfl,rfl⟩ ?_ ?_
 ·rintro i x g hi ⟨m,rfl,hm,hn⟩ hg
  obtain⟨k,rfl⟩:∃k,m=k+1:=⟨m-1,by omega⟩
  have e1:((k+1:Nat):Int)-1=(k:Int):=by omega
  rw[e1,if_pos Y8,hn,cmpD]
  simp only[yx (show k<la.length by omega),yx (show k<lb.length by omega),Option.bind_some,decide_eq_true_eq,yF (show((k:Int)-1).natAbs<_ by omega)]
  split
  ·rfl
  ·split
   ·rfl
   ·next a b=>
    rw[cmpD,if_neg a,if_neg b]at hn
    have:=hg _ ⟨k,rfl,by omega,hn⟩
    rw[hn]at this
    exact this
 ·rintro x g ⟨m,rfl,hm,hn⟩
  obtain rfl:m=0:=by omega
  rw[if_neg Y8,hn]
  rfl
theorem len_le{m n:Nat}(h:m≤n):(dg m).length≤(dg n).length:=by
 apply Decidable.byContradiction
 intro c
 have:=dg_len_lt (m:=n) (n:=m) Oz
 omega
abbrev S18(n:Int):Prop:=n.natAbs<1000000000000000000
theorem add_ok{a b:Int}(ha:S18 a)(hb:S18 b):z96 (zw a) (zw b)=some (zw (a+b)):=by
 unfold z96
 have la:=yv ha
 have lb:=yv hb
 have da:=xV a.natAbs
 have db:=xV b.natAbs
 show(if (decide (a<0)==decide (b<0))=true then _ else _)=_
 by_cases h:a<0↔b<0
 ·rw[if_pos (by simpa using h)]
  show(z168 (dg a.natAbs) (dg b.natAbs)).bind _=_
  obtain⟨l,e,hd,hl,hv⟩:=plus_ok da db Oz Oz
  rw[e,Option.bind_some,nor_ok hd Oz,hv,zX,zX]
  refine congrArg (fun x=>some (zw x)) ?_
  exact sg_val fun _=>by omega
 ·rw[if_neg (by simpa using h)]
  show(z169 (dg a.natAbs) (dg b.natAbs)).bind _=_
  rw[compared_ok Oz,cmpZ_dg,Option.bind_some]
  have hc:decide (cmpN a.natAbs b.natAbs<0)=decide (a.natAbs<b.natAbs):=by
   unfold cmpN
   split
   ·next c=>simp[c]
   ·next c=>rw[decide_eq_false c];split<;>rfl
  rw[hc]
  by_cases c:a.natAbs<b.natAbs
  ·rw[if_pos (decide_eq_true c)]
   show(z170 (dg b.natAbs) (dg a.natAbs)).bind _=_
   obtain⟨l,e,hd,hl,hv⟩:=minus_ok db da Oz (len_le Oz) (by rw[zX,zX];omega)
   rw[e,Option.bind_some,nor_ok hd Oz,hv,zX,zX]
   refine congrArg (fun x=>some (zw x)) ?_
   exact sg_val fun _=>by omega
  ·rw[if_neg (by simpa using c)]
   show(z170 (dg a.natAbs) (dg b.natAbs)).bind _=_
   obtain⟨l,e,hd,hl,hv⟩:=minus_ok da db Oz (len_le Oz) (by rw[zX,zX];omega)
   rw[e,Option.bind_some,nor_ok hd Oz,hv,zX,zX]
   refine congrArg (fun x=>some (zw x)) ?_
   exact sg_val fun _=>by omega
end Go.Proofs.YtocnbjjmmgolfaaGreat
namespace Go.Proofs.YtocnbjjmmgolfaaGreat
open Go Go.M Go.Proofs.C14
set_option linter.unusedSimpArgs false
structure MI(la lb:List Int)(i k:Nat)(c:Int)(out:List Int):Prop where
 len:out.length=la.length+lb.length
 dig:Dig out
 c0:0≤c
 c1:c<1000000000
 val:dv out+1000000000 ^ (i+k)*c=dv (la.take i)*dv lb+1000000000 ^ i*(la.getD i 0*dv (lb.take k))
 zer:∀j,i+lb.length≤j→out.getD j 0=0
theorem qC{l:List Int}{k j:Nat}{x:Int}(h:k≠j):(l.set k x).getD j 0=l.getD j 0:=by
 rw[List.getD_eq_getElem?_getD,List.getD_eq_getElem?_getD,List.getElem?_set_ne h]
theorem getD_set'{l:List Int}{k:Nat}{x:Int}(h:k<l.length):(l.set k x).getD k 0=x:=by
 rw[List.getD_eq_getElem?_getD,List.getElem?_set_self h];rfl
theorem MI.start(la lb:List Int):MI la lb 0 0 0 (List.replicate (la.length+lb.length) 0):=
 ⟨List.length_replicate,dig_zeros _,by decide,by decide,by rw[dv_zeros];simp[dv],fun j _=>by rw[List.getD_eq_getElem?_getD,List.getElem?_replicate];split<;>rfl⟩
theorem MI.w{la lb:List Int}{i k:Nat}{c:Int}{out:List Int}(h:MI la lb i k c out)(ha:Dig la)(hb:Dig lb):0≤la.getD i 0*lb.getD k 0∧la.getD i 0*lb.getD k 0≤999999999*999999999∧0≤out.getD (i+k) 0∧out.getD (i+k) 0<1000000000:=by
 have d1:=ha.at i
 have d2:=hb.at k
 have d3:=h.dig.at (i+k)
 exact⟨Int.mul_nonneg d1.1 d2.1,Int.mul_le_mul Oz Oz d2.1 Uz,d3⟩
theorem MI.step{la lb:List Int}{i k:Nat}{c w:Int}{out:List Int}(h:MI la lb i k c out)(ha:Dig la)(hb:Dig lb)(hi:i<la.length)(hk:k<lb.length)(hw:w=out.getD (i+k) 0+la.getD i 0*lb.getD k 0+c) :
  MI la lb i (k+1) (w / 1000000000) (out.set (i+k) (w % 1000000000)):=by
 obtain⟨w0,w1,o0,o1⟩:=h.w ha hb (i:=i) (k:=k)
 have c0:=h.c0
 have c1:=h.c1
 refine⟨by rw[List.length_set];exact h.len,h.dig.set Oz Oz,by omega,by omega,?_,fun j hj=>by rw[qC Oz];exact h.zer j hj⟩
 rw[dv_set (by rw[h.len];omega),zL,←Nat.add_assoc,Int.pow_succ]
 have e:=step_sum (P:=1000000000 ^ (i+k)) (A:=dv out-1000000000 ^ (i+k)*out.getD (i+k) 0) (c:=c+out.getD (i+k) 0) (x:=la.getD i 0*lb.getD k 0) (w:=w) rfl Oz
 have hv:=h.val
 have e2:(1000000000:Int) ^ i*(la.getD i 0*(dv (lb.take k)+1000000000 ^ k*lb.getD k 0))=1000000000 ^ i*(la.getD i 0*dv (lb.take k))+1000000000 ^ (i+k)*(la.getD i 0*lb.getD k 0):=by
  rw[Int.mul_add,Int.mul_add,Int.pow_add]
  congr 1
  ac_rfl
 rw[e2]
 rw[Int.mul_add]at e
 rw[Int.mul_sub]
 omega
theorem MI.next{la lb:List Int}{i:Nat}{c:Int}{out:List Int}(h:MI la lb i lb.length c out)(hi:i<la.length):MI la lb (i+1) 0 0 (out.set (i+lb.length) c):=by
 have hv:=h.val
 have hl:=h.len
 refine⟨by rw[List.length_set];exact h.len,h.dig.set h.c0 h.c1,by decide,by decide,?_,fun j hj=>by rw[qC Oz];exact h.zer j Oz⟩
 rw[dv_set Oz,h.zer _ (Nat.le_refl _),List.take_zero,show dv []=0 from rfl,Int.mul_zero,Int.mul_zero,Int.mul_zero,zL,Int.add_mul,Int.mul_assoc,Int.sub_zero]
 rw[List.take_length]at hv
 omega
theorem MI.fin{la lb:List Int}{out:List Int}(h:MI la lb la.length 0 0 out)(ha:Dig la)(hb:Dig lb):zE out=zE la*zE lb:=by
 have hv:=h.val
 rw[List.take_length,List.take_zero,show dv []=0 from rfl,Int.mul_zero,Int.mul_zero,Int.mul_zero,Int.add_zero,Int.add_zero,yW h.dig,yW ha,yW hb,←Int.natCast_mul]at hv
 omega
theorem mul_ok{la lb:List Int}(ha:Dig la)(hb:Dig lb)(la2:la.length≤2)(lb2:lb.length≤2)(s t:Bool) :
  z94 (s,la) (t,lb)=some (zw (sg (!(s==t)) (zE la*zE lb))):=by
 unfold z94
 dsimp only
 have e0:(la.length:Int)+(lb.length:Int)=((la.length+lb.length:Nat):Int):=by omega
 rw[e0,yF Oz,Option.bind_some,if_pos Oz,Int.toNat_natCast]
 refine zi la.length (fun i (x:Int×List Int)=>x.1=(i:Int)∧MI la lb i 0 0 x.2) (fun o=>o=some (zw (sg (!(s==t)) (zE la*zE lb)))) Oz ⟨rfl,MI.start la lb⟩ ?_ ?_
 ·rintro i ⟨x,out⟩ g hi ⟨rfl,hM⟩ hg
  have hM:MI la lb i 0 0 out:=hM
  dsimp only
  rw[if_pos (zr hi)]
  refine zi lb.length (fun k (y:Int×Int×List Int)=>y.2.1=(k:Int)∧MI la lb i k y.1 y.2.2) (fun o=>o=some (zw (sg (!(s==t)) (zE la*zE lb)))) Oz ⟨rfl,hM⟩ ?_ ?_
  ·rintro k ⟨c,y,o⟩ g' hk ⟨rfl,hN⟩ hg'
   have hN:MI la lb i k c o:=hN
   obtain⟨w,hw⟩:∃w,w=o.getD (i+k) 0+la.getD i 0*lb.getD k 0+c:=⟨_,rfl⟩
   obtain⟨w0,w1,o0,o1⟩:=hN.w ha hb
   have c0:=hN.c0
   have c1:=hN.c1
   have hl:=hN.len
   have e1:(i:Int)+(k:Int)=((i+k:Nat):Int):=by omega
   have hy:=hg' (w / 1000000000,((k+1:Nat):Int),o.set (i+k) (w % 1000000000)) ⟨rfl,hN.step ha hb hi hk hw⟩
   dsimp only
   rw[if_pos (zr hk),e1]
   simp only[yF (show((i+k:Nat):Int).natAbs<_ by omega),Option.bind_some,yx (show i+k<o.length by omega),yx hi,yx hk,yF (show(la.getD i 0*lb.getD k 0).natAbs<_ by omega),yF (show(o.getD (i+k) 0+la.getD i 0*lb.getD k 0).natAbs<_ by omega),←hw,yF (show w.natAbs<_ by omega),if_neg (show ¬(1000000000:Int)=0 by decide),tm9 (show 0≤w by omega),td9 (show 0≤w by omega),yF (show(w / 1000000000).natAbs<_ by omega),zl (show k<100000 by omega),yE,Int.toNat_natCast]
   exact hy
  ·rintro⟨c,y,o⟩ g' ⟨rfl,hN⟩
   have hN:MI la lb i lb.length c o:=hN
   have hl:=hN.len
   have e1:(i:Int)+(lb.length:Int)=((i+lb.length:Nat):Int):=by omega
   dsimp only
   rw[if_neg Y8,e1]
   simp only[yF (show((i+lb.length:Nat):Int).natAbs<_ by omega),Option.bind_some,yx (show i+lb.length<o.length by omega),zl (show i<100000 by omega),yE,Int.toNat_natCast]
   exact hg _ ⟨rfl,hN.next hi⟩
 ·rintro⟨x,out⟩ g ⟨rfl,hM⟩
  have hM:MI la lb la.length 0 0 out:=hM
  have hl:=hM.len
  dsimp only
  rw[if_neg Y8,nor_ok hM.dig Oz,hM.fin ha hb]
  rfl
theorem sg_mul(a b:Int):sg (!(decide (a<0)==decide (b<0))) (a.natAbs*b.natAbs)=a*b:=by
 have e:((a.natAbs*b.natAbs:Nat):Int)=(a.natAbs:Int)*(b.natAbs:Int):=Int.natCast_mul ..
 unfold sg
 rw[e]
 by_cases ha:a<0<;>by_cases hb:b<0<;>simp only[ha,hb,decide_true,decide_false,Bool.not_true,Bool.not_false,beq_self_eq_true,if_true,if_false,show(true==false)=false from rfl,show(false==true)=false from rfl,Bool.false_eq_true]
 ·rw[Int.ofNat_natAbs_of_nonpos Oz,Int.ofNat_natAbs_of_nonpos Oz,Int.neg_mul_neg]
 ·rw[Int.ofNat_natAbs_of_nonpos Oz,Int.natAbs_of_nonneg Oz,Int.neg_mul,Int.neg_neg]
 ·rw[Int.natAbs_of_nonneg Oz,Int.ofNat_natAbs_of_nonpos Oz,Int.mul_neg,Int.neg_neg]
 ·rw[Int.natAbs_of_nonneg Oz,Int.natAbs_of_nonneg Oz]
theorem mulZ_ok{a b:Int}(ha:S18 a)(hb:S18 b):z94 (zw a) (zw b)=some (zw (a*b)):=by
 have:=mul_ok (xV a.natAbs) (xV b.natAbs) (yv ha) (yv hb) (decide (a<0)) (decide (b<0))
 rw[zX,zX,sg_mul]at this
 exact this
theorem ofZ_ok{n:Int}(hn:S18 n):z59 n=some (zw n):=by
 unfold z59
 refine zi 2 (fun i (x:Int×List Int)=>x.2.length=i∧Dig x.2∧x.1.natAbs<1000000000 ^ (2-i)∧zE x.2+1000000000 ^ i*x.1.natAbs=n.natAbs) (fun o=>o=some (zw n)) Uz ⟨rfl,Dig.nil,hn,by simp[zE]⟩ ?_ ?_
 ·rintro i ⟨x,out⟩ g hi ⟨hl,hd,hx,hv⟩ hg
  dsimp only at hl hd hx hv ⊢
  have hx2:x.natAbs<1000000000000000000:=Nat.lt_of_lt_of_le hx (by rcases(show i=0∨i=1 by omega)with rfl|rfl<;>decide)
  by_cases h0:x=0
  ·rw[if_neg (by simp[h0]),nor_ok hd Oz]
   rw[h0,Int.natAbs_zero,Nat.mul_zero,Nat.add_zero]at hv
   rw[hv,sg_abs]
   rfl
  ·rw[if_pos (by simp[h0])]
   have m1:=Int.natAbs_tmod x 1000000000
   have d1:(Int.tdiv x 1000000000).natAbs=x.natAbs / 1000000000:=Int.natAbs_tdiv x 1000000000
   have m1:(Int.tmod x 1000000000).natAbs=x.natAbs % 1000000000:=m1
   have hg':∀k:Int,k=((x.natAbs % 1000000000:Nat):Int)→g (Int.tdiv x 1000000000,out++[k])=some (zw n):=by
    rintro k rfl
    refine hg _ ⟨by simp[hl],hd.app (Dig.one Oz Oz),?_,?_⟩
    ·show(Int.tdiv x 1000000000).natAbs<_
     rw[d1]
     rcases(show i=0∨i=1 by omega)with rfl|rfl
     ·have:x.natAbs<1000000000 ^ 2:=hx
      show _<1000000000 ^ 1
      omega
     ·have:x.natAbs<1000000000 ^ 1:=hx
      show _<1000000000 ^ 0
      omega
    ·show zE (out++[_])+1000000000 ^ (i+1)*(Int.tdiv x 1000000000).natAbs=_
     rw[d1,dval_app,hl,Nat.pow_succ,show zE [((x.natAbs % 1000000000:Nat):Int)]=x.natAbs % 1000000000 from(show(((x.natAbs % 1000000000:Nat):Int)).toNat+1000000000*0=_ by omega),Nat.mul_assoc,Nat.add_assoc,←Nat.mul_add,Nat.mod_add_div]
     exact hv
   have i64a:i64 (Int.tdiv x 1000000000)=some (Int.tdiv x 1000000000):=yF Oz
   have i64b:i64 (0-Int.tmod x 1000000000)=some (0-Int.tmod x 1000000000):=yF Oz
   rw[if_neg Uz]
   by_cases h:Int.tmod x 1000000000<0
   ·rw[if_pos (decide_eq_true h),i64b,Option.bind_some,zN (by simp;omega),Option.bind_some,if_neg Uz,i64a,Option.bind_some]
    exact hg' _ Oz
   ·rw[if_neg (by simpa using h),zN (by simp;omega),Option.bind_some,if_neg Uz,i64a,Option.bind_some]
    exact hg' _ Oz
 ·rintro⟨x,out⟩ g ⟨hl,hd,hx,hv⟩
  dsimp only at hl hd hx hv ⊢
  have h0:x=0:=by
   have:x.natAbs<1000000000 ^ 0:=hx
   omega
  rw[if_neg (by simp[h0]),nor_ok hd Oz]
  rw[h0,Int.natAbs_zero,Nat.mul_zero,Nat.add_zero]at hv
  rw[hv,sg_abs]
  rfl
theorem dg_two{m:Nat}(h:m<1000000000000000000):(m=0∧dg m=[])∨(m≠0∧m / 1000000000=0∧dg m=[((m % 1000000000:Nat):Int)])∨(m / 1000000000≠0∧dg m=[((m % 1000000000:Nat):Int),((m / 1000000000:Nat):Int)]):=by
 by_cases h0:m=0
 ·exact .inl ⟨h0,dg_nil.mpr h0⟩
 ·by_cases h1:m / 1000000000=0
  ·exact .inr (.inl ⟨h0,h1,by rw[dg_pos h0,dg_nil.mpr h1]⟩)
  ·refine .inr (.inr ⟨h1,?_⟩)
   rw[dg_pos h0,dg_small h1 Oz]
theorem dg_getD{m:Nat}(h:m<1000000000000000000):(dg m).getD 0 0=((m % 1000000000:Nat):Int)∧(dg m).getD 1 0=((m / 1000000000:Nat):Int):=by
 rcases dg_two h with⟨h0,e⟩|⟨h0,h1,e⟩|⟨h1,e⟩
 ·rw[e,h0];exact⟨rfl,rfl⟩
 ·rw[e,h1];exact⟨rfl,rfl⟩
 ·rw[e];exact⟨rfl,rfl⟩
theorem tiny_ok{m:Nat}(h:m<1000000000000000000):z189 (dg m)=some (m:Int):=by
 unfold z189
 obtain⟨e0,e1⟩:=dg_getD h
 have h0:=digit_ok (dg m) 0
 have h1:=digit_ok (dg m) 1
 rw[e0]at h0
 rw[e1]at h1
 have h2:((m % 1000000000:Nat):Int)+1000000000*((m / 1000000000:Nat):Int)=m:=by omega
 have h3:((m / 1000000000:Nat):Int).natAbs<1000000000:=by omega
 have h4:((m % 1000000000:Nat):Int).natAbs<1000000000:=by omega
 generalize ((m % 1000000000:Nat):Int)=a at *
 generalize ((m / 1000000000:Nat):Int)=b at *
 have h0:z230 (dg m) 0=some a:=h0
 have h1:z230 (dg m) 1=some b:=h1
 rw[h1,Option.bind_some,yF (x:=b*1000000000) Oz,Option.bind_some,h0,Option.bind_some,yF (x:=b*1000000000+a) Oz,Option.bind_some,←h2]
 congr 1
 omega
theorem s18{n:Nat}(h:n<1000000000000000000):S18 (n:Int):=by show Int.natAbs n<_;rw[Int.natAbs_natCast];exact h
theorem i64N18{n:Nat}(h:n<1000000000000000000):i64 (n:Int)=some (n:Int):=yF (by rw[Int.natAbs_natCast];omega)
theorem yQ(n:Nat):zw (n:Int)=(false,dg n):=by
 unfold zw
 rw[Int.natAbs_natCast,decide_eq_false Oz]
theorem divided_ok{m n:Nat}(hm:m<1000000000000000000)(hn:n<1000000000000000000)(h0:n≠0):z190 (dg m) (dg n)=some (dg (m / n),dg (m % n)):=by
 unfold z190
 have l1:=yv hm
 have l2:=yv hn
 have hq:m / n<1000000000000000000:=Nat.lt_of_le_of_lt (Nat.div_le_self m n) hm
 have hr:m % n<1000000000000000000:=Nat.lt_of_le_of_lt (Nat.mod_le m n) hm
 have eq:Int.tdiv (m:Int) (n:Int)=((m / n:Nat):Int):=rfl
 have er:Int.tmod (m:Int) (n:Int)=((m % n:Nat):Int):=rfl
 rw[if_pos (by simp;omega),if_pos (by simp;omega),tiny_ok hm,Option.bind_some,tiny_ok hn,Option.bind_some,if_neg Oz,eq,i64N18 hq,Option.bind_some,ofZ_ok (s18 hq),Option.bind_some,Option.bind_some,Option.bind_some,if_neg Oz,er,ofZ_ok (s18 hr),Option.bind_some,yQ,yQ]
theorem nor_dg(m:Nat)(h:m<1000000000000000000)(s:Bool):z115 s (dg m)=some (zw (sg s m)):=by
 rw[nor_ok (xV m) (by have:=yv h;omega),zX]
theorem sg_div{a g:Int}(hg:0<g)(hd:g∣a):sg (!(decide (a<0)==decide (g<0))) (a.natAbs / g.natAbs)=a / g:=by
 obtain⟨k,rfl⟩:=hd
 rw[Int.natAbs_mul,Nat.mul_div_cancel_left _ Oz,Int.mul_ediv_cancel_left _ Oz]
 have e:decide (g<0)=false:=by simp;omega
 have e2:decide (g*k<0)=decide (k<0):=by
  rw[decide_eq_decide]
  refine⟨fun h=>?_,fun h=>Int.mul_neg_of_pos_of_neg hg h⟩
  apply Decidable.byContradiction
  intro c
  have:=Int.mul_nonneg (Int.le_of_lt hg) (show 0≤k by omega)
  omega
 rw[e,e2,show(!(decide (k<0)==false))=decide (k<0)by cases decide (k<0)<;>rfl]
 exact sg_abs k
theorem div_ok{a g:Int}(ha:S18 a)(hg:0<g)(hg2:S18 g)(hd:g∣a):z113 (zw a) (zw g)=some (zw (a / g),zw 0):=by
 unfold z113
 have hm:a.natAbs % g.natAbs=0:=Nat.mod_eq_zero_of_dvd (Int.natAbs_dvd_natAbs.mpr hd)
 have hq:a.natAbs / g.natAbs≤a.natAbs:=Nat.div_le_self ..
 have hz:¬(decide (((zw g).2.length:Int)=0))=true:=by
  have:(zw g).2.length≠0:=fun h=>by have:=dg_len0.mp h;omega
  rw[decide_eq_true_eq];omega
 rw[if_neg hz,show z190 (zw a).2 (zw g).2=_ from divided_ok ha hg2 Oz,Option.bind_some,hm,nor_dg _ Oz,Option.bind_some,nor_dg 0 Uz,Option.bind_some,sg_0]
 show(if decide (a<0)=true then _ else _)=_
 have hs:sg (!((zw a).1==(zw g).1)) (a.natAbs / g.natAbs)=a / g:=sg_div hg hd
 rw[hs]
 have:¬decide (0<((zw 0).2.length:Int))=true:=by rw[xA];decide
 rw[if_neg this]
 split<;>rfl
end Go.Proofs.YtocnbjjmmgolfaaGreat
namespace Go.Proofs.YtocnbjjmmgolfaaGreat
open Go Go.M Go.Proofs.C14
set_option linter.unusedSimpArgs false
theorem gcd_step(m n:Nat):Nat.gcd m n=Nat.gcd n (m % n):=by rw[Nat.gcd_comm m n,Nat.gcd_rec n m,Nat.gcd_comm]
theorem euclid{ρ:Type}{B:(Int×Int→Option ρ)→Int×Int→Option ρ}(E:Int→Option ρ)(h0:∀g m,B g (m,0)=E m)(h1:∀g (m n:Nat),n≠0→B g ((m:Int),(n:Int))=g ((n:Int),((m % n:Nat):Int))) :
  ∀(j m n k:Nat),n<2 ^ j→2*j<k→zd B k ((m:Int),(n:Int))=E (Nat.gcd m n:Nat)
 |0,m,n,k+1,hn,_=>by
  obtain rfl:n=0:=by have:n<1:=hn;omega
  rw[za,Nat.gcd_zero_right]
  exact h0 _ _
 |j+1,m,n,k+2,hn,hk=>by
  by_cases hn0:n=0
  ·subst hn0
   rw[za,Nat.gcd_zero_right]
   exact h0 _ _
  rw[za,h1 _ _ _ hn0,za,gcd_step m n]
  have hr:=Nat.mod_lt m (show 0<n by omega)
  generalize m % n=r at hr
  by_cases hr0:r=0
  ·subst hr0
   rw[Nat.gcd_zero_right]
   exact h0 _ _
  rw[h1 _ _ _ hr0,gcd_step n r]
  refine euclid E h0 h1 j r (n % r) k ?_ Oz
  have h2:=Nat.mod_lt n (show 0<r by omega)
  have h3:=Nat.div_add_mod n r
  have h4:1≤n / r:=Nat.div_pos Oz Oz
  have h5:r*1≤r*(n / r):=Nat.mul_le_mul_left r h4
  rw[Nat.pow_succ]at hn
  omega
 |0,_,_,0,_,h=>by omega
 |j+1,_,_,0,_,h=>by omega
 |j+1,_,_,1,_,h=>by omega
theorem gcd_lim{m n:Nat}(hn:n<1000000000000000000)(h:n≠0):Nat.gcd m n<1000000000000000000:=Nat.lt_of_le_of_lt (Nat.gcd_le_right m Oz) hn
theorem gcd_ok{a b:Int}(ha:S18 a)(hb:S18 b)(h0:b≠0):z112 (zw a) (zw b)=some (zw (Nat.gcd a.natAbs b.natAbs:Nat)):=by
 unfold z112
 rw[show z115 false (zw a).2=_ from nor_dg a.natAbs ha false,show z115 false (zw b).2=_ from nor_dg b.natAbs hb false,Option.bind_some,Option.bind_some,sg_ff,sg_ff,yQ,yQ,zm 2,za]
 have l1:=yv ha
 have l2:=yv hb
 have l0:(dg b.natAbs).length≠0:=fun h=>by have:=dg_len0.mp h;omega
 have hg:=gcd_lim (m:=a.natAbs) hb Oz
 dsimp only
 rw[if_pos (by rw[decide_eq_true_eq];omega),if_pos (by rw[decide_eq_true_eq];omega),if_pos (by rw[decide_eq_true_eq];omega),tiny_ok ha,Option.bind_some,tiny_ok hb,Option.bind_some,zm 130]
 rw[euclid (fun x=>(z59 x).bind fun r7=>some r7) (fun g m=>if_neg Y8) (fun g m n hn=>by rw[if_pos (by rw[decide_eq_true_eq];show(0:Int)<n;omega),if_neg (by show ¬(n:Int)=0;omega)];rfl) 60 a.natAbs b.natAbs 130 (Nat.lt_trans hb Uz) Uz]
 rw[ofZ_ok (s18 hg)]
 rfl
theorem one_ok{n:Int}(hn:S18 n):z114 (zw n)=some (decide (n=1)):=by
 unfold z114
 show(if decide (n<0)=true then _ else(if decide (((dg n.natAbs).length:Int)≠1)=true then _ else(idx (dg n.natAbs) 0).bind _))=_
 by_cases h:n<0
 ·rw[if_pos (decide_eq_true h),decide_eq_false Oz]
 rw[if_neg (by rw[decide_eq_true_eq];exact h)]
 rcases dg_two hn with⟨h0,e⟩|⟨h0,h1,e⟩|⟨h1,e⟩<;>rw[e]
 ·rw[if_pos Uz,decide_eq_false Oz]
 ·rw[if_neg Y8,show idx [((n.natAbs % 1000000000:Nat):Int)] 0=some ((n.natAbs % 1000000000:Nat):Int)from rfl,Option.bind_some]
  congr 1
  rw[decide_eq_decide]
  omega
 ·rw[if_pos Y8,decide_eq_false Oz]
theorem neg_ok{n:Int}(hn:S18 n):z97 (zw n)=some (zw (-n)):=by
 unfold z97
 rw[show z115 (!(zw n).1) (zw n).2=_ from nor_dg n.natAbs hn (!decide (n<0)),Option.bind_some]
 congr 2
 unfold sg
 by_cases h:n<0
 ·rw[decide_eq_true h]
  show((n.natAbs:Nat):Int) = -n
  omega
 ·rw[decide_eq_false h]
  show -((n.natAbs:Nat):Int) = -n
  omega
theorem xL(q:Rat):zO q=(zw q.num,if q.den=1 then(false,[])else zw (q.den:Int)):=by
 unfold zO
 rw[yQ]
 split<;>rfl
theorem s18_ediv{a:Int}{g:Nat}(ha:S18 a)(hd:(g:Int)∣a):S18 (a / (g:Int)):=by
 obtain⟨k,rfl⟩:=hd
 unfold S18 at *
 by_cases h0:g=0
 ·subst h0;rw[Int.natCast_zero,Int.ediv_zero];decide
 ·rw[Int.mul_ediv_cancel_left _ Oz]
  rw[Int.natAbs_mul,Int.natAbs_natCast]at ha
  exact Nat.lt_of_le_of_lt (Nat.le_mul_of_pos_left _ Oz) ha
theorem s18_neg{a:Int}(h:S18 a):S18 (-a):=by unfold S18 at *;rw[Int.natAbs_neg];exact h
theorem make_ok{p q:Int}(hp:S18 p)(hq:S18 q)(h0:q≠0):z58 (zw p) (zw q)=some (zO (Rat.divInt p q)):=by
 unfold z58
 have lq:(zw q).2.length≠0:=fun h=>by have:=dg_len0.mp h;omega
 rw[if_neg (by rw[decide_eq_true_eq];omega)]
 by_cases p0:p=0
 ·subst p0
  rw[if_pos (by rw[xA];rfl),Rat.zero_divInt,xL,if_pos (show(0:Rat).den=1 from rfl),show(0:Rat).num=0 from rfl,xA]
 have lp:(zw p).2.length≠0:=fun h=>by have:=dg_len0.mp h;omega
 rw[if_neg (by rw[decide_eq_true_eq];omega),gcd_ok hp hq h0,Option.bind_some]
 have hg:=gcd_lim (m:=p.natAbs) hq Oz
 have hgp:=gcd_pos (p:=p) h0
 have e1:=sign_mul_ediv (p:=p) h0
 have e2:=den_ediv (p:=p) h0
 have e3:=ediv_neg_iff (p:=p) h0
 have d1:((Nat.gcd p.natAbs q.natAbs:Nat):Int)∣p:=Int.ofNat_dvd_left.mpr (Nat.gcd_dvd_left _ _)
 have d2:((Nat.gcd p.natAbs q.natAbs:Nat):Int)∣q:=Int.ofNat_dvd_left.mpr (Nat.gcd_dvd_right _ _)
 generalize Nat.gcd p.natAbs q.natAbs=G at *
 rw[div_ok hp Oz (s18 hg) d1,div_ok hq Oz (s18 hg) d2,Option.bind_some,Option.bind_some]
 have s1:=s18_ediv hp d1
 have s2:=s18_ediv hq d2
 rw[xL,e1]
 generalize p / (G:Int)=P at *
 generalize q / (G:Int)=U at *
 have hd:∀z:Int,((Rat.divInt p q).den:Int)=z→(if (Rat.divInt p q).den=1 then(false,([]:List Int))else zw ((Rat.divInt p q).den:Int))=if decide (z=1)=true then(false,[])else zw z:=by
  rintro z rfl
  by_cases h:(Rat.divInt p q).den=1
  ·rw[if_pos h,if_pos (decide_eq_true Oz)]
  ·rw[if_neg h,if_neg (by rw[decide_eq_true_eq];omega)]
 rw[hd _ e2]
 show(if decide (U<0)=true then _ else _)=_
 by_cases hU:U<0
 ·rw[if_pos (decide_eq_true hU),if_pos (e3.mp hU),if_pos (e3.mp hU),neg_ok s1,neg_ok s2,Option.bind_some,Option.bind_some,one_ok (s18_neg s2),Option.bind_some]
  split<;>rfl
 ·have hq':¬q<0:=fun h=>hU (e3.mpr h)
  rw[if_neg (by rw[decide_eq_true_eq];exact hU),if_neg hq',if_neg hq',one_ok s2,Option.bind_some]
  split<;>rfl
def Sm(q:Rat):Prop:=q.num.natAbs<500000000∧q.den<500000000
instance {q:Rat}:Decidable (Sm q):=inferInstanceAs (Decidable (_∧_))
theorem Sm.n{q:Rat}(h:Sm q):S18 q.num:=by have:=h.1;show q.num.natAbs<_;omega
theorem Sm.d{q:Rat}(h:Sm q):S18 (q.den:Int):=s18 (by have:=h.2;omega)
theorem Sm.neg{q:Rat}(h:Sm q):Sm (-q):=⟨by rw[Rat.neg_num,Int.natAbs_neg];exact h.1,by rw[Rat.neg_den];exact h.2⟩
theorem sm_mul{a b:Nat}(h:a<500000000)(g:b<500000000):a*b<250000000000000000:=Nat.lt_of_lt_of_le (Nat.mul_lt_mul_of_lt_of_le h (Nat.le_of_lt g) Oz) Uz
theorem Sm.nd{a b:Rat}(ha:Sm a)(hb:Sm b):(a.num*(b.den:Int)).natAbs<250000000000000000:=by
 rw[Int.natAbs_mul,Int.natAbs_natCast];exact sm_mul ha.1 hb.2
theorem Sm.dd{a b:Rat}(ha:Sm a)(hb:Sm b):a.den*b.den<250000000000000000:=sm_mul ha.2 hb.2
theorem encQ_d{q:Rat}(h:Sm q):(q.den=1∧(zO q).2=(false,[]))∨(q.den≠1∧(zO q).2=zw (q.den:Int)∧(zw (q.den:Int)).2.length≠0):=by
 rw[xL]
 by_cases hd:q.den=1
 ·exact .inl ⟨hd,if_pos hd⟩
 ·refine .inr ⟨hd,if_neg hd,?_⟩
  intro g
  rw[yQ]at g
  exact q.den_nz (dg_len0.mp g)
theorem xB(q:Rat):(zO q).1=zw q.num:=rfl
theorem ofZ_1:z59 1=some (zw 1):=ofZ_ok Uz
theorem den_ok{q:Rat}(h:Sm q):z95 (zO q)=some (zw (q.den:Int)):=by
 unfold z95
 rcases encQ_d h with⟨hd,e⟩|⟨hd,e,hl⟩<;>rw[e]
 ·rw[if_pos (by rfl),ofZ_1,hd];rfl
 ·rw[if_neg (by rw[decide_eq_true_eq];omega)]
theorem add_def{a b:Rat}:Rat.divInt (a.num*(b.den:Int)+b.num*(a.den:Int)) ((a.den:Int)*(b.den:Int))=a+b:=by
 rw[Rat.add_def',←Rat.divInt_ofNat,Int.natCast_mul]
theorem mul_def{a b:Rat}:Rat.divInt (a.num*b.num) ((a.den:Int)*(b.den:Int))=a*b:=by
 rw[Rat.mul_def',←Rat.divInt_ofNat,Int.natCast_mul]
theorem dd_ne(a b:Rat):(a.den:Int)*(b.den:Int)≠0:=by
 have h1:=a.den_nz
 have h2:=b.den_nz
 exact Int.mul_ne_zero Oz Oz
theorem addR_ok{a b:Rat}(ha:Sm a)(hb:Sm b):z36 (zO a) (zO b)=some (zO (a+b)):=by
 unfold z36
 have h1:=ha.nd hb
 have h2:=hb.nd ha
 have h3:=ha.dd hb
 have e:((a.den:Int)*(b.den:Int))=((a.den*b.den:Nat):Int):=(Int.natCast_mul ..).symm
 simp only[xB,den_ok ha,den_ok hb,Option.bind_some]
 rw[mulZ_ok ha.n hb.d,Option.bind_some,mulZ_ok hb.n ha.d,Option.bind_some,add_ok (by unfold S18;omega) (by unfold S18;omega),Option.bind_some,mulZ_ok ha.d hb.d,Option.bind_some,make_ok (by unfold S18;omega) (by rw[e];exact s18 Oz) (dd_ne a b),Option.bind_some,add_def]
theorem negR_ok{a:Rat}(ha:Sm a):z38 (zO a)=some (zO (-a)):=by
 unfold z38
 rw[xB,neg_ok ha.n,Option.bind_some,xL (-a),xL a,Rat.neg_num,Rat.neg_den]
theorem subR_ok{a b:Rat}(ha:Sm a)(hb:Sm b):z98 (zO a) (zO b)=some (zO (a-b)):=by
 unfold z98
 rw[negR_ok hb,Option.bind_some,addR_ok ha hb.neg,Option.bind_some,Rat.sub_eq_add_neg]
theorem Sm.nn{a b:Rat}(ha:Sm a)(hb:Sm b):(a.num*b.num).natAbs<250000000000000000:=by
 rw[Int.natAbs_mul];exact sm_mul ha.1 hb.1
theorem mulR_ok{a b:Rat}(ha:Sm a)(hb:Sm b):z99 (zO a) (zO b)=some (zO (a*b)):=by
 unfold z99
 have h1:=ha.nn hb
 have h3:=ha.dd hb
 have e:((a.den:Int)*(b.den:Int))=((a.den*b.den:Nat):Int):=(Int.natCast_mul ..).symm
 simp only[xB,den_ok ha,den_ok hb,Option.bind_some]
 rw[mulZ_ok ha.n hb.n,Option.bind_some,mulZ_ok ha.d hb.d,Option.bind_some,make_ok (by unfold S18;omega) (by rw[e];exact s18 Oz) (dd_ne a b),Option.bind_some,mul_def]
theorem ncmp_ok{m n:Int}(hm:S18 m)(hn:S18 n):z207 (zw m) (zw n)=some (zV m n):=by
 unfold z207
 have l1:=yv hm
 have l2:=yv hn
 show(if (!(decide (m<0)==decide (n<0)))=true then(if decide (m<0)=true then _ else _)else(if decide (m<0)=true then(z169 (dg n.natAbs) (dg m.natAbs)).bind _ else(z169 (dg m.natAbs) (dg n.natAbs)).bind _))=_
 rw[compared_ok Oz,compared_ok Oz,cmpZ_dg,cmpZ_dg,Option.bind_some,Option.bind_some]
 by_cases h1:m<0<;>by_cases h2:n<0
 ·rw[decide_eq_true h1,decide_eq_true h2,if_neg Uz,if_pos rfl]
  congr 1
  unfold cmpN zV
  split<;>split<;>(try split)<;>(try split)<;>first|rfl|omega
 ·rw[decide_eq_true h1,decide_eq_false h2,if_pos Uz,if_pos rfl,zV,if_pos Oz]
 ·rw[decide_eq_false h1,decide_eq_true h2,if_pos Uz,if_neg Uz,zV,if_neg Oz,if_pos Oz]
 ·rw[decide_eq_false h1,decide_eq_false h2,if_neg Uz,if_neg Uz]
  congr 1
  unfold cmpN zV
  split<;>split<;>(try split)<;>(try split)<;>first|rfl|omega
theorem cmpR_ok{a b:Rat}(ha:Sm a)(hb:Sm b):z135 (zO a) (zO b)=some (cmpQ a b):=by
 unfold z135
 have h1:=ha.nd hb
 have h2:=hb.nd ha
 simp only[xB,den_ok ha,den_ok hb,Option.bind_some]
 rw[mulZ_ok ha.n hb.d,Option.bind_some,mulZ_ok hb.n ha.d,Option.bind_some,ncmp_ok (by unfold S18;omega) (by unfold S18;omega),Option.bind_some,cmpQ_eq]
theorem signR_ok{a:Rat}(ha:Sm a):z80 (zO a)=some (zV a.num 0):=by
 unfold z80 z140
 rw[xB,←xA,ncmp_ok ha.n Uz]
 rfl
theorem ofR_ok{p q:Int}(hp:p.natAbs<1000000000)(hq:q.natAbs<1000000000)(h0:0<q):z20 p q=some (zO (Rat.divInt p q)):=by
 unfold z20
 rw[ofZ_ok (by unfold S18;omega),Option.bind_some,ofZ_ok (by unfold S18;omega),Option.bind_some,make_ok (by unfold S18;omega) (by unfold S18;omega) Oz]
 rfl
theorem take_getD{l:List Int}{i:Nat}(h:i<l.length):l.take (i+1)=l.take i++[l.getD i 0]:=by
 rw[List.take_succ_eq_append_getElem h,List.getD_eq_getElem?_getD,List.getElem?_eq_getElem h];rfl
theorem sameL{la lb:List Int}(hl:la.length=lb.length)(h3:la.length≤2){k:Nat}(hk:2<k) :
  zd (fun g1 (x1:Int)=>(if (decide (x1<(la.length:Int)))=true then((idx la x1).bind fun x2=>((idx lb x1).bind fun x3=>(if (decide (x2≠x3))=true then some false else((i64 (x1+1)).bind fun n4=>g1 n4))))else some true)) (zb k) 0=some (decide (la=lb)):=by
 refine zi la.length (fun i (x:Int)=>x=(i:Int)∧la.take i=lb.take i) (fun o=>o=some (decide (la=lb))) Oz ⟨rfl,rfl⟩ ?_ ?_
 ·rintro i x g hi ⟨rfl,ht⟩ hg
  rw[if_pos (zr hi),yx hi,yx (show i<lb.length by omega),Option.bind_some,Option.bind_some]
  by_cases h:la.getD i 0=lb.getD i 0
  ·rw[if_neg (by rw[decide_eq_true_eq];exact fun c=>c h),zl Oz,Option.bind_some]
   exact hg _ ⟨rfl,by rw[take_getD hi,take_getD Oz,ht,h]⟩
  ·rw[if_pos (by rw[decide_eq_true_eq];exact h),decide_eq_false]
   rintro rfl
   exact h rfl
 ·rintro x g ⟨rfl,ht⟩
  rw[List.take_length,hl,List.take_length]at ht
  rw[if_neg Y8,decide_eq_true ht]
theorem same03_ok{s t:Bool}{la lb:List Int}(h3:la.length≤2):z187 (s,la) (t,lb)=some (decide ((s,la)=(t,lb))):=by
 unfold z187
 show(if (!(s==t))=true then _ else(if decide ((la.length:Int)≠(lb.length:Int))=true then _ else _))=_
 by_cases h:s=t
 ·subst h
  rw[if_neg Y8]
  by_cases hl:la.length=lb.length
  ·rw[if_neg (by simp[hl]),sameL hl h3 Uz]
   congr 1
   rw[decide_eq_decide,Prod.mk.injEq]
   simp
  ·rw[if_pos (by rw[decide_eq_true_eq];omega),decide_eq_false]
   rintro h
   exact hl (congrArg (fun x=>x.2.length) h)
 ·rw[if_pos (by simpa using h),decide_eq_false]
  rintro g
  exact h (congrArg Prod.fst g)
theorem encZ_inj{m n:Int}(h:zw m=zw n):m=n:=by
 have h1:=congrArg Prod.fst h
 have h2:=dg_inj (congrArg Prod.snd h)
 have h1:(m<0)=(n<0):=by simpa[zw]using h1
 by_cases c:m<0
 ·have:n<0:=h1▸c
  omega
 ·have:¬n<0:=h1▸c
  omega
theorem encQ_inj{a b:Rat}(h:zO a=zO b):a=b:=by
 have h1:=encZ_inj (congrArg Prod.fst h)
 have h2:=congrArg (fun x=>x.2.2) h
 have h2:(if a.den=1 then []else dg a.den)=(if b.den=1 then []else dg b.den):=h2
 refine Rat.ext h1 ?_
 split at h2
 ·split at h2
  ·omega
  ·exact absurd (dg_nil.mp h2.symm) b.den_nz
 ·split at h2
  ·exact absurd (dg_nil.mp h2) a.den_nz
  ·exact dg_inj h2
theorem encQ_len{a:Rat}(ha:Sm a):(zO a).1.2.length≤2∧(zO a).2.2.length≤2:=by
 refine⟨yv ha.n,?_⟩
 show(if a.den=1 then []else dg a.den).length≤2
 split
 ·simp
 ·exact yv (by have:=ha.2;omega)
theorem same_dec{a b:Rat}{r1 r2:Bool}(h1:r1=decide ((zO a).1=(zO b).1))(h2:r2=decide ((zO a).2=(zO b).2)):(if r1=true then some r2 else some false)=some (decide (a=b)):=by
 subst h1 h2
 by_cases c1:(zO a).1=(zO b).1
 ·rw[if_pos (decide_eq_true c1)]
  congr 1
  rw[decide_eq_decide]
  exact⟨fun c2=>encQ_inj (Prod.ext c1 c2),fun e=>by rw[e]⟩
 ·rw[if_neg (by rw[decide_eq_true_eq];exact c1),decide_eq_false]
  rintro rfl
  exact c1 rfl
theorem sameR_ok{a b:Rat}(ha:Sm a):z109 (zO a) (zO b)=some (decide (a=b)):=by
 unfold z109
 obtain⟨l1,l2⟩:=encQ_len ha
 rw[show z187 (zO a).1 (zO b).1=_ from same03_ok l1,show z187 (zO a).2 (zO b).2=_ from same03_ok l2,Option.bind_some]
 exact same_dec rfl rfl
theorem last_ne{m:Nat}(h:m<1000000000000000000)(h0:(dg m).length≠0):(dg m).getD ((dg m).length-1) 0≠0:=by
 rcases dg_two h with⟨h1,e⟩|⟨h1,h2,e⟩|⟨h1,e⟩
 ·rw[e]at h0;exact absurd rfl h0
 ·rw[e];show((m % 1000000000:Nat):Int)≠0;omega
 ·rw[e];show((m / 1000000000:Nat):Int)≠0;omega
theorem valid03_ok{n:Int}(hn:S18 n):z188 (zw n)=some true:=by
 unfold z188
 have hl:=yv hn
 have hd:=xV n.natAbs
 show zd (fun g1 (x1:Int)=>(if decide (x1<((dg n.natAbs).length:Int))=true then(idx (dg n.natAbs) x1).bind _ else(if decide (((dg n.natAbs).length:Int)=0)=true then some (!decide (n<0))else(i64 (((dg n.natAbs).length:Int)-1)).bind fun n5=>(idx (dg n.natAbs) n5).bind _))) _ _=_
 refine zi (dg n.natAbs).length (fun i (x:Int)=>x=(i:Int)) (fun o=>o=some true) Oz rfl ?_ ?_
 ·rintro i x g hi rfl hg
  have:=hd.at i
  rw[if_pos (zr hi),yx hi,Option.bind_some,if_neg (by rw[decide_eq_true_eq];omega)]
  show(idx (dg n.natAbs) (i:Int)).bind _=_
  rw[yx hi,Option.bind_some,if_neg (by rw[decide_eq_true_eq];omega),zl Oz,Option.bind_some]
  exact hg _ rfl
 ·rintro x g rfl
  rw[if_neg Y8]
  by_cases h0:(dg n.natAbs).length=0
  ·have:=dg_len0.mp h0
   rw[if_pos (by rw[h0];rfl),decide_eq_false Oz]
   rfl
  ·have e:((dg n.natAbs).length:Int)-1=(((dg n.natAbs).length-1:Nat):Int):=by omega
   have h:=last_ne hn h0
   rw[if_neg (by rw[decide_eq_true_eq];omega),e,yF Oz,Option.bind_some,yx Oz,Option.bind_some,decide_eq_true h]
theorem z114_nil:z114 (false,[])=some false:=rfl
theorem encQ_valid{a:Rat}(ha:Sm a):(a.den≠1→Nat.gcd a.num.natAbs (a.den:Int).natAbs=1):=fun _=>by
 rw[Int.natAbs_natCast];exact a.reduced
theorem validR_ok{a:Rat}(ha:Sm a):z110 (zO a)=some true:=by
 unfold z110
 have v0:z188 (false,[])=some true:=by rw[←xA];exact valid03_ok Uz
 have hd0:(a.den:Int)≠0:=by have:=a.den_nz;omega
 rw[xB,valid03_ok ha.n,Option.bind_some,if_neg Uz]
 rcases encQ_d ha with⟨hd,e⟩|⟨hd,e,hl⟩<;>rw[e]
 ·rw[v0,Option.bind_some,if_neg Uz,if_neg Uz,z114_nil,Option.bind_some,if_neg Uz,if_pos (by rfl)]
 ·have e1:(zw (a.den:Int)).1=false:=by rw[yQ]
  rw[valid03_ok ha.d,Option.bind_some,if_neg Uz,e1,if_neg Uz,one_ok ha.d,Option.bind_some,if_neg (by rw[decide_eq_true_eq];omega),if_neg (by rw[decide_eq_true_eq];omega),gcd_ok ha.n ha.d hd0,encQ_valid ha hd,Option.bind_some,one_ok Uz]
  rfl
end Go.Proofs.YtocnbjjmmgolfaaGreat
namespace Go.Proofs.YtocnbjjmmgolfaaGreat
open Go Go.M Go.Proofs.C14
set_option linter.unusedSimpArgs false
theorem if2{α:Type}{p q:Prop}[Decidable p][Decidable q]{F X:α}(h:¬(p∧q)):(if p then(if q then F else X)else X)=X:=by
 by_cases hp:p
 ·rw[if_pos hp,if_neg fun hq=>h ⟨hp,hq⟩]
 ·rw[if_neg hp]
theorem of_ok{l:List Int}(h:Dig l)(hl:l.length≤5)(s:Bool):z141 s l=some (zw (sg s (zE l))):=by
 unfold z141
 refine zi l.length (fun i (x:Int)=>∃m:Nat,x=m∧m+i=l.length∧nlen l l.length=nlen l m) (fun o=>o=some (zw (sg s (zE l)))) Oz ⟨_,rfl,rfl,rfl⟩ ?_ ?_
 ·rintro i x g hi ⟨m,rfl,hm,hn⟩ hg
  obtain⟨k,rfl⟩:∃k,m=k+1:=⟨m-1,by omega⟩
  have e1:((k+1:Nat):Int)-1=(k:Int):=by omega
  rw[if_pos Y8,e1,yF Oz,Option.bind_some,yx Oz,Option.bind_some,if_pos rfl]
  rw[nlen]at hn
  split
  ·next c=>rw[if_pos (by simpa using c)]at hn;exact hg _ ⟨k,rfl,by omega,hn⟩
  ·next c=>rw[if_neg (by simpa using c)]at hn;exact nrm_end h s hn
 ·rintro x g ⟨m,rfl,hm,hn⟩
  obtain rfl:m=0:=by omega
  rw[if_neg Y8,if_pos rfl]
  exact nrm_end h s (m:=0) hn
theorem of_dg(m:Nat)(h:m<1000000000000000000)(s:Bool):z141 s (dg m)=some (zw (sg s m)):=by
 rw[of_ok (xV m) (by have:=yv h;omega),zX]
theorem dv_take_set{l:List Int}{i:Nat}{x:Int}:dv ((l.set i x).take i)=dv (l.take i):=by
 rw[List.take_set,List.set_eq_of_length_le (by rw[List.length_take];omega)]
theorem getD_out{l:List Int}{i:Nat}(h:l.length≤i):l.getD i 0=0:=by
 rw[List.getD_eq_getElem?_getD,List.getElem?_eq_none h];rfl
theorem plusP_ok{la lb:List Int}(ha:Dig la)(hb:Dig lb)(la2:la.length≤2)(hle:lb.length≤la.length) :
  ∃l,z142 la lb=some l∧Dig l∧l.length≤3∧zE l=zE la+zE lb:=by
 unfold z142
 have e0:(la.length:Int)+1=((la.length+1:Nat):Int):=by omega
 rw[if_neg (by rw[decide_eq_true_eq];omega),e0,yF Oz,Option.bind_some,if_pos Oz,Int.toNat_natCast]
 refine zi la.length (fun i (x:Int×Int×List Int)=>x.2.1=(i:Int)∧x.2.2.length=la.length+1∧Dig x.2.2∧0≤x.1∧x.1≤1∧dv (x.2.2.take i)+1000000000 ^ i*x.1=dv (la.take i)+dv (lb.take i)) (fun o=>∃l,o=some l∧Dig l∧l.length≤3∧zE l=zE la+zE lb) Oz ⟨rfl,List.length_replicate,dig_zeros _,by simp,by simp,by simp[dv]⟩ ?_ ?_
 ·rintro i ⟨c,j,out⟩ g hi ⟨rfl,hl,hd,c0,c1,hv⟩ hg
  dsimp only at hl hd c0 c1 hv ⊢
  have d1:=ha.at i
  have d2:=hb.at i
  have fin:∀w:Int,w=la.getD i 0+c+lb.getD i 0→∃l,(if (decide (1000000000≤w))=true then((i64 (w-1000000000)).bind fun n7=>((idx out (i:Int)).bind fun x8=>((idx out (i:Int)).bind fun x9=>((i64 ((i:Int)+1)).bind fun n10=>g (1,n10,(zt out (Int.toNat (i:Int)) n7))))))else((idx out (i:Int)).bind fun x11=>((idx out (i:Int)).bind fun x12=>((i64 ((i:Int)+1)).bind fun n13=>g (0,n13,(zt out (Int.toNat (i:Int)) w))))))=some l∧Dig l∧l.length≤3∧zE l=zE la+zE lb:=by
   intro w hw
   have key:∀(c' v:Int),0≤c'→c'≤1→0≤v→v<1000000000→w=v+1000000000*c'→∃l,g (c',((i+1:Nat):Int),out.set i v)=some l∧Dig l∧l.length≤3∧zE l=zE la+zE lb:=by
    intro c' v a1 a2 a3 a4 e
    refine hg _ ⟨rfl,by rw[List.length_set];exact hl,hd.set a3 a4,a1,a2,?_⟩
    dsimp only
    rw[zL,zL,zL,dv_take_set,getD_set' Oz,Int.pow_succ]
    have e2:(1000000000:Int) ^ i*v+1000000000 ^ i*1000000000*c'=1000000000 ^ i*w:=by rw[e,Int.mul_add,Int.mul_assoc]
    rw[hw,Int.mul_add,Int.mul_add]at e2
    omega
   by_cases h:1000000000≤w
   ·rw[if_pos (decide_eq_true h),yF Oz,Option.bind_some,yx Oz,Option.bind_some,Option.bind_some,zl Oz,Option.bind_some,yE,Int.toNat_natCast]
    exact key 1 _ Uz Uz Oz Oz Oz
   ·rw[if_neg (by rw[decide_eq_true_eq];exact h),yx Oz,Option.bind_some,Option.bind_some,zl Oz,Option.bind_some,yE,Int.toNat_natCast]
    exact key 0 _ Uz Uz Oz Oz Oz
  rw[if_pos (zr hi),yx hi,Option.bind_some,yF Oz,Option.bind_some]
  by_cases h:i<lb.length
  ·rw[if_pos (zr h),yx h,Option.bind_some,yF Oz,Option.bind_some]
   exact fin _ rfl
  ·rw[if_neg (by rw[decide_eq_true_eq];omega)]
   exact fin _ (by rw[getD_out (l:=lb) Oz];omega)
 ·rintro⟨c,j,out⟩ g ⟨rfl,hl,hd,c0,c1,hv⟩
  dsimp only at hl hd c0 c1 hv ⊢
  rw[if_neg Y8,yx Oz,Option.bind_some,Option.bind_some,yE]
  have hd2:=hd.set (k:=la.length) (x:=c) c0 Oz
  refine⟨_,rfl,hd2,by rw[List.length_set];omega,?_⟩
  have e1:dv (out.set la.length c)=dv ((out.set la.length c).take (la.length+1)):=(y7 (by rw[List.length_set];omega)).symm
  rw[zL,dv_take_set,getD_set' Oz]at e1
  rw[List.take_length,y7 hle]at hv
  rw[yW hd2]at e1
  rw[yW ha,yW hb]at hv
  omega
theorem plusP_swap(la lb:List Int)(h:la.length<lb.length):z142 la lb=z142 lb la:=by
 unfold z142
 rw[if_pos (zr h),if_neg (by rw[decide_eq_true_eq];omega)]
theorem plusP{la lb:List Int}(ha:Dig la)(hb:Dig lb)(la2:la.length≤2)(lb2:lb.length≤2) :
  ∃l,z142 la lb=some l∧Dig l∧l.length≤3∧zE l=zE la+zE lb:=by
 by_cases h:la.length<lb.length
 ·obtain⟨l,e,h1,h2,h3⟩:=plusP_ok hb ha lb2 Oz
  exact⟨l,by rw[plusP_swap _ _ h];exact e,h1,h2,by omega⟩
 ·exact plusP_ok ha hb la2 Oz
structure NI(la lb:List Int)(i:Nat)(out:List Int):Prop where
 len:out.length=la.length
 dig:∀j,j≠i→0≤out.getD j 0∧out.getD j 0<1000000000
 mid : -1≤out.getD i 0∧out.getD i 0<1000000000
 val:dv out=dv la-dv (lb.take i)
theorem NI.stay{la lb:List Int}{i:Nat}{out:List Int}{w:Int}(h:NI la lb i out)(hb:Dig lb)(hi:i<la.length)(hw:w=out.getD i 0-lb.getD i 0)(h0:0≤w):NI la lb (i+1) (out.set i w):=by
 have d:=hb.at i
 have m:=h.mid
 have hl:=h.len
 refine⟨by rw[List.length_set];exact hl,fun j hj=>?_,?_,?_⟩
 ·by_cases c:i=j
  ·subst c;rw[getD_set' Oz];omega
  ·rw[qC c];exact h.dig j Oz
 ·rw[qC Oz];have:=h.dig (i+1) Oz;omega
 ·rw[dv_set Oz,h.val,zL,show w-out.getD i 0 = -lb.getD i 0 by omega,Int.mul_neg]
  omega
theorem NI.borrow{la lb:List Int}{i:Nat}{out:List Int}{w v:Int}(h:NI la lb i out)(hb:Dig lb)(hi:i+1<la.length)(hw:w=out.getD i 0-lb.getD i 0)(h0:w<0)(hv:v=out.getD (i+1) 0-1):NI la lb (i+1) ((out.set i (w+1000000000)).set (i+1) v):=by
 have d:=hb.at i
 have m:=h.mid
 have hl:=h.len
 have d1:=h.dig (i+1) Oz
 have l2:i+1<(out.set i (w+1000000000)).length:=by rw[List.length_set];omega
 refine⟨by rw[List.length_set,List.length_set];exact hl,fun j hj=>?_,?_,?_⟩
 ·rw[qC Oz]
  by_cases c:i=j
  ·subst c;rw[getD_set' Oz];omega
  ·rw[qC c];exact h.dig j Oz
 ·rw[getD_set' l2];omega
 ·rw[dv_set l2,qC Oz,dv_set Oz,h.val,zL,show w+1000000000-out.getD i 0=1000000000-lb.getD i 0 by omega,show v-out.getD (i+1) 0 = -1 by omega,Int.pow_succ,Int.mul_sub]
  omega
theorem NI.last{la lb:List Int}{i:Nat}{out:List Int}{w:Int}(h:NI la lb i out)(ha:Dig la)(hb:Dig lb)(hi:i<la.length)(hle:lb.length≤la.length)(hv:zE lb≤zE la)(hw:w=out.getD i 0-lb.getD i 0)(h0:w<0):i+1<la.length:=by
 apply Decidable.byContradiction
 intro c
 have hl:=h.len
 have e1:=zL out i
 have e2:=zL lb i
 rw[y7 Oz]at e1 e2
 have hd:Dig (out.take i):=fun x hx=>by
  obtain⟨j,hj,rfl⟩:=List.getElem_of_mem hx
  rw[List.length_take]at hj
  have:=h.dig j Oz
  rw[List.getD_eq_getElem?_getD,List.getElem?_eq_getElem Oz]at this
  rw[List.getElem_take]
  exact this
 have e3:=dv_lim hd (i:=i) (by rw[List.length_take];omega)
 have e4:=h.val
 have e5:=yW ha
 have e6:=yW hb
 have e7:(1000000000:Int) ^ i*out.getD i 0-1000000000 ^ i*lb.getD i 0=1000000000 ^ i*w:=by rw[hw,Int.mul_sub]
 have e8:(1000000000:Int) ^ i*w≤1000000000 ^ i*(-1):=Int.mul_le_mul_of_nonneg_left Oz (Int.le_of_lt (powB i))
 omega
theorem set_same{l:List Int}{i:Nat}(h:i<l.length):l.set i (l.getD i 0)=l:=by
 rw[List.getD_eq_getElem?_getD,List.getElem?_eq_getElem h]
 exact List.set_getElem_self h
theorem minusP{la lb:List Int}(ha:Dig la)(hb:Dig lb)(la2:la.length≤2)(h0:0<la.length)(hle:lb.length≤la.length)(hv:zE lb≤zE la) :
  ∃l,z144 la lb=some l∧Dig l∧l.length≤2∧zE l=zE la-zE lb:=by
 unfold z144
 rw[if_pos Oz,if_pos (by rw[List.length_replicate];omega)]
 refine zi la.length (fun i (x:Int×List Int)=>x.1=(i:Int)∧NI la lb i x.2) (fun o=>∃l,o=some l∧Dig l∧l.length≤2∧zE l=zE la-zE lb) Oz ⟨rfl,rfl,fun j _=>ha.at j,by have:=ha.at 0;dsimp only;omega,by simp[dv]⟩ ?_ ?_
 ·rintro i ⟨j,out⟩ g hi ⟨rfl,hN⟩ hg
  have hN:NI la lb i out:=hN
  have hl:=hN.len
  have m:=hN.mid
  have d2:=hb.at i
  have l1:∀x,i<(out.set i x).length:=fun x=>by rw[List.length_set];omega
  have si:i64 ((i:Int)+1)=some ((i+1:Nat):Int):=zl Oz
  dsimp only
  rw[if_pos (zr hi)]
  have go:∀w,w=out.getD i 0-lb.getD i 0→w<0→i+1<la.length:=fun w=>hN.last ha hb hi hle hv
  by_cases h:i<lb.length
  ·rw[if_pos (zr h)]
   obtain⟨w,hw⟩:∃w,w=out.getD i 0-lb.getD i 0:=⟨_,rfl⟩
   simp only[yx (show i<out.length by omega),yx h,Option.bind_some,←hw,yF (show w.natAbs<_ by omega),yE,Int.toNat_natCast,yx (l1 _),getD_set' (show i<out.length by omega),List.set_set]
   by_cases c:w<0
   ·have hi1:=go w hw c
    have l2:∀x,i+1<(out.set i x).length:=fun x=>by rw[List.length_set];omega
    have d3:=hN.dig (i+1) Oz
    rw[if_pos (decide_eq_true c),yF Oz,Option.bind_some]
    simp only[si,Option.bind_some,yx (l2 _),qC (show i≠i+1 by omega),yF (show(out.getD (i+1) 0-1).natAbs<_ by omega),Int.toNat_natCast]
    exact hg _ ⟨rfl,hN.borrow hb hi1 hw c rfl⟩
   ·rw[if_neg (by rw[decide_eq_true_eq];exact c),si,Option.bind_some]
    exact hg _ ⟨rfl,hN.stay hb hi hw Oz⟩
  ·rw[if_neg (by rw[decide_eq_true_eq];omega)]
   have hz:=getD_out (l:=lb) (i:=i) Oz
   simp only[yx (show i<out.length by omega),Option.bind_some,yE,Int.toNat_natCast,yx (l1 _),List.set_set]
   by_cases c:out.getD i 0<0
   ·have hi1:=go (out.getD i 0) Oz c
    have l2:∀x,i+1<(out.set i x).length:=fun x=>by rw[List.length_set];omega
    have d3:=hN.dig (i+1) Oz
    rw[if_pos (decide_eq_true c),yF Oz,Option.bind_some]
    simp only[si,Option.bind_some,yx (l2 _),qC (show i≠i+1 by omega),yF (show(out.getD (i+1) 0-1).natAbs<_ by omega),Int.toNat_natCast]
    exact hg _ ⟨rfl,hN.borrow hb hi1 Oz c rfl⟩
   ·rw[if_neg (by rw[decide_eq_true_eq];exact c),si,Option.bind_some]
    have hs:=hN.stay hb hi (w:=out.getD i 0) Oz Oz
    rw[set_same Oz]at hs
    exact hg _ ⟨rfl,hs⟩
 ·rintro⟨j,out⟩ g ⟨rfl,hN⟩
  have hN:NI la lb la.length out:=hN
  have hl:=hN.len
  dsimp only
  rw[if_neg Y8]
  have hd:Dig out:=fun x hx=>by
   obtain⟨j,hj,rfl⟩:=List.getElem_of_mem hx
   have:=hN.dig j Oz
   rw[List.getD_eq_getElem?_getD,List.getElem?_eq_getElem hj]at this
   exact this
  refine⟨out,rfl,hd,by omega,?_⟩
  have e:=hN.val
  rw[y7 hle,yW ha,yW hb,yW hd]at e
  omega
theorem compareP{la lb:List Int}(la3:la.length≤2):z143 la lb=some (C14.cmpZ la lb):=by
 unfold z143 C14.cmpZ
 by_cases h1:la.length<lb.length
 ·rw[if_pos (by rw[decide_eq_true_eq];omega),if_neg Y8,if_neg Y8,if_pos (zr h1),if_pos h1]
 by_cases h2:lb.length<la.length
 ·rw[if_pos (by rw[decide_eq_true_eq];omega),if_neg Y8,if_neg Y8,if_neg (by rw[decide_eq_true_eq];omega),if_pos (zr h2),if_neg h1,if_pos h2]
 rw[if_neg (by rw[decide_eq_true_eq];omega),if_neg h1,if_neg h2,yF Oz,Option.bind_some]
 refine zi la.length (fun i (x:Int)=>∃m:Nat,x=(m:Int)-1∧m+i=la.length∧cmpD la lb la.length=cmpD la lb m) (fun o=>o=some (cmpD la lb la.length)) Oz ⟨_,rfl,rfl,rfl⟩ ?_ ?_
 ·rintro i x g hi ⟨m,rfl,hm,hn⟩ hg
  obtain⟨k,rfl⟩:∃k,m=k+1:=⟨m-1,by omega⟩
  have e1:((k+1:Nat):Int)-1=(k:Int):=by omega
  rw[e1,if_pos Y8,hn,cmpD]
  simp only[yx (show k<la.length by omega),yx (show k<lb.length by omega),Option.bind_some,decide_eq_true_eq,yF (show((k:Int)-1).natAbs<_ by omega),ne_eq,not_true_eq_false,if_false]
  by_cases c:la.getD k 0=lb.getD k 0
  ·rw[if_neg (fun x=>x c),if_neg Oz,if_neg Oz]
   rw[cmpD,if_neg Oz,if_neg Oz]at hn
   have:=hg _ ⟨k,rfl,by omega,hn⟩
   rw[hn]at this
   exact this
  ·rw[if_pos c]
   split
   ·rfl
   ·rw[if_pos Oz,if_pos Oz]
 ·rintro x g ⟨m,rfl,hm,hn⟩
  obtain rfl:m=0:=by omega
  rw[if_neg Y8,hn]
  rfl
theorem addP_ok{a b:Int}(ha:S18 a)(hb:S18 b):z81 (zw a) (zw b)=some (zw (a+b)):=by
 unfold z81
 have la:=yv ha
 have lb:=yv hb
 have da:=xV a.natAbs
 have db:=xV b.natAbs
 have pos:∀n:Nat,n≠0→0<(dg n).length:=fun n h=>by
  have:(dg n).length≠0:=fun g=>h (dg_len0.mp g)
  omega
 show(if (decide (a<0)==decide (b<0))=true then _ else _)=_
 by_cases h:a<0↔b<0
 ·rw[if_pos (by simpa using h)]
  show(z142 (dg a.natAbs) (dg b.natAbs)).bind _=_
  obtain⟨l,e,hd,hl,hv⟩:=plusP da db Oz Oz
  rw[e,Option.bind_some,of_ok hd Oz,hv,zX,zX]
  refine congrArg (fun x=>some (zw x)) ?_
  exact sg_val fun _=>by omega
 ·rw[if_neg (by simpa using h)]
  show(z143 (dg a.natAbs) (dg b.natAbs)).bind _=_
  rw[compareP Oz,cmpZ_dg,Option.bind_some]
  have hc:decide (cmpN a.natAbs b.natAbs<0)=decide (a.natAbs<b.natAbs):=by
   unfold cmpN
   split
   ·next c=>simp[c]
   ·next c=>rw[decide_eq_false c];split<;>rfl
  rw[hc]
  by_cases c:a.natAbs<b.natAbs
  ·rw[if_pos (decide_eq_true c)]
   show(z144 (dg b.natAbs) (dg a.natAbs)).bind _=_
   obtain⟨l,e,hd,hl,hv⟩:=minusP db da Oz (pos _ Oz) (len_le Oz) (by rw[zX,zX];omega)
   rw[e,Option.bind_some,of_ok hd Oz,hv,zX,zX]
   refine congrArg (fun x=>some (zw x)) ?_
   exact sg_val fun _=>by omega
  ·rw[if_neg (by simpa using c)]
   show(z144 (dg a.natAbs) (dg b.natAbs)).bind _=_
   obtain⟨l,e,hd,hl,hv⟩:=minusP da db Oz (pos _ Oz) (len_le Oz) (by rw[zX,zX];omega)
   rw[e,Option.bind_some,of_ok hd Oz,hv,zX,zX]
   refine congrArg (fun x=>some (zw x)) ?_
   exact sg_val fun _=>by omega
theorem unsigned_ok{n:Nat}(h:n<1000000000000000000)(s:Bool):z150 s (n:Int)=some (zw (sg s n)):=by
 unfold z150
 by_cases h0:n=0
 ·subst h0
  rw[if_pos (by rfl),sg_0,xA]
 rw[if_neg (by rw[decide_eq_true_eq];omega),encZ_sg h0]
 by_cases h1:n<1000000000
 ·rw[if_pos (by rw[decide_eq_true_eq];omega),i64N18 h,dg_small h0 h1]
  rfl
 ·have hq:n / 1000000000<1000000000:=by omega
  have hq':n / 1000000000≠0:=by omega
  have hr:n % 1000000000<1000000000:=by omega
  have e1:Int.tmod (n:Int) 1000000000=((n % 1000000000:Nat):Int):=rfl
  have e2:Int.tdiv (n:Int) 1000000000=((n / 1000000000:Nat):Int):=rfl
  rw[if_neg (by rw[decide_eq_true_eq];omega),if_pos (by rw[decide_eq_true_eq];omega),if_neg Uz,dg_pos h0,dg_small hq' hq,e1,e2,i64N18 Oz,Option.bind_some,if_neg Uz]
  generalize n / 1000000000=q at *
  rw[uZ,if_pos Oz,Option.bind_some,i64N18 Oz,Option.bind_some]
theorem ofP_ok{n:Int}(hn:S18 n):z197 n=some (zw n):=by
 unfold z197
 unfold S18 at hn
 by_cases h:n<0
 ·have e:(0-n % 18446744073709551616) % 18446744073709551616=((n.natAbs:Nat):Int):=by omega
  rw[decide_eq_true h,if_pos rfl,e,unsigned_ok hn,Option.bind_some,←decide_eq_true h,sg_abs]
 ·have e:n % 18446744073709551616=((n.natAbs:Nat):Int):=by omega
  rw[decide_eq_false h,if_neg Uz,e,unsigned_ok hn,Option.bind_some,←decide_eq_false h,sg_abs]
end Go.Proofs.YtocnbjjmmgolfaaGreat
