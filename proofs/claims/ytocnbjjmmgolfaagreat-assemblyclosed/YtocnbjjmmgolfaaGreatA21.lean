/- zH law of the number packages: loops in general; digits of the reference. -/
import Derived.Test.YtocnbjjmmgolfaaGreatA20
import Derived.Test.YtocnbjjmmgolfaaGreatA12
set_option linter.unusedSimpArgs false
set_option linter.unusedVariables false
set_option linter.unusedSectionVars false
namespace Go.Proofs.YtocnbjjmmgolfaaGreat
open Go Go.M Go.Proofs.C14
theorem ze{σ ρ:Type}(B:(σ→Option ρ)→σ→Option ρ)(k:Nat)(x:σ):zj B (k+1) x=B (zj B k) x:=rfl
theorem zcr{σ ρ:Type}{B:(σ→Option ρ)→σ→Option ρ}{n:Nat}(I:Nat→σ→Prop)(Q:Option ρ→Prop)
 (hs:∀i x g,i<n→I i x→(∀y,I (i+1) y→Q (g y))→Q (B g x)) (he:∀x g,I n x→Q (B g x)) :
 ∀(m i k:Nat) (x:σ),i+m=n→m<k→I i x→Q (zj B k x)
 |0,i,k+1,x,h,_,a=>by rw[ze];exact he x _ (by obtain rfl:i=n:=h;exact a)
 |m+1,i,k+1,x,h,hk,a=>by rw[ze];exact hs i x _ Oz a fun y b=>zcr I Q hs he m (i+1) k y Oz Oz b
theorem zk{σ ρ:Type}{B:(σ→Option ρ)→σ→Option ρ}(n:Nat)(I:Nat→σ→Prop)(Q:Option ρ→Prop){k:Nat}{x:σ}(hk:n<k)(h0:I 0 x)
 (hs:∀i x g,i<n→I i x→(∀y,I (i+1) y→Q (g y))→Q (B g x)) (he:∀x g,I n x→Q (B g x)):Q (zj B (zi k) x):=by
 rw[zC]
 exact zcr I Q hs he n 0 k x Oz hk h0
theorem xZ{x:Int}(h:x.natAbs<9000000000000000000):i64 x=some x:=by
 unfold i64
 rw[aF]
 unfold yy
 omega
theorem xh{x:Int}(h:x.natAbs<1000000000):i64 x=some x:=xZ Oz
theorem zt{α:Type}{l:List α}{i:Nat}(h:i<l.length):idx l (i:Int)=some l[i]:=by
 unfold idx
 rw[aF Oz,Int.toNat_natCast,aE h]
theorem zM{i n:Nat}(h:i<n):decide ((i:Int)<(n:Int))=true:=aH Oz
theorem zp{i:Nat}(h:i<100000):i64 ((i:Int)+1)=some ((i+1:Nat):Int):=by rw[xh Oz];rfl
theorem yF{α:Type}{l m:List α}(h:l.length+m.length≤60000):app l m=some (l++m):=aF Oz
theorem xB{l:List Int}{i:Nat}(h:i<l.length):idx l (i:Int)=some (l.getD i 0):=by
 rw[zt h,aC,aE h];rfl
def sg(s:Bool)(n:Nat):Int:=if s=true then -(n:Int)else n
abbrev NZ:=Bool×List Int
def zG(n:Int):NZ:=(decide (n<0),dg n.natAbs)
theorem kC:zG 0=(false,[]):=by show(_,dg 0)=_;rw[qC];rfl
theorem zaG{s:Bool}{n:Nat}(h:n≠0):zG (sg s n)=(s,dg n):=by
 unfold zG sg
 cases s<;>simp<;>omega
theorem sg_0(s:Bool):sg s 0=0:=by unfold sg;cases s<;>rfl
theorem Kv(n:Int):sg (decide (n<0)) n.natAbs=n:=by
 unfold sg
 split
 ·next h=>have:=dE h;omega
 ·next h=>have:¬n<0:=(fun g=>h (aH g));omega
theorem zbD(n:Nat):sg false n=n:=rfl
theorem Xd{a n:Int}{k:Nat}(h:True→(a<0∧n = -(k:Int))∨(0≤a∧n=k)):sg (decide (a<0)) k=n:=by
 unfold sg
 rcases h trivial with⟨h1,h2⟩|⟨h1,h2⟩
 ·rw[aF (aH h1),h2]
 ·rw[aD (by simp;omega),h2]
theorem nrm_end{l:List Int}(h:Dig l)(s:Bool){m:Nat}(a:j5 l l.length=m) :
 (if decide ((m:Int)=0)=true then some (false,[])else(xK l 0 (m:Int)).bind fun b=>some (s,b))=some (zG (sg s (zY l))):=by
 have e:=Wt h
 rw[a]at e
 have h0:=nlen0 h
 rw[a]at h0
 by_cases c:m=0
 ·rw[aF (by simp[c]),h0.mp c,sg_0,kC]
 ·have hl:=zaf l l.length
  rw[aD (by simp[c]),xK,aF Oz,aA,zaG (fun x=>c (h0.mpr x)),←e]
  simp
theorem ZJ{l:List Int}(h:Dig l)(hl:l.length≤5)(s:Bool):jp s l=some (zG (sg s (zY l))):=by
 unfold jp
 refine zk l.length (fun i (x:Int)=>∃m:Nat,x=m∧m+i=l.length∧j5 l l.length=j5 l m) (fun o=>o=some (zG (sg s (zY l)))) Oz ⟨_,rfl,rfl,rfl⟩ ?_ ?_
 ·rintro i x g hi ⟨m,rfl,a,hn⟩ hg
  obtain⟨k,rfl⟩:∃k,m=k+1:=⟨m-1,by omega⟩
  have e1:((k+1:Nat):Int)-1=(k:Int):=by omega
  rw[aF Y8,e1,xZ Oz,aA,show max (k:Int) 0=k by omega,xB Oz,aA]
  rw[j5]at hn
  split
  ·next c=>rw[aF (by simpa using c)]at hn;exact hg _ ⟨k,rfl,by omega,hn⟩
  ·next c=>rw[aD (by simpa using c)]at hn;exact nrm_end h s hn
 ·rintro x g ⟨m,rfl,a,hn⟩
  obtain rfl:m=0:=by omega
  rw[aD Y8]
  exact nrm_end h s (m:=0) hn
theorem YW(l:List Int)(i:Nat):Yj l (i:Int)=some (l.getD i 0):=by
 unfold Yj
 by_cases h:i<l.length
 ·rw[aF (zM h),xB h];rfl
 ·rw[aD (by simp;omega),aC,cV Oz];rfl
theorem tm9{w:Int}(h:0≤w):Int.tmod w 1000000000=w % 1000000000:=Int.tmod_eq_emod_of_nonneg h
theorem td9{w:Int}(h:0≤w):Int.tdiv w 1000000000=w / 1000000000:=dL h
theorem dv_lim{l:List Int}{i:Nat}(h:Dig l)(g:l.length≤i):dv l<1000000000 ^ i:=by
 have h1:=dv_lt h
 have h2:(1000000000:Nat) ^ l.length≤1000000000 ^ i:=Nat.pow_le_pow_right Uz g
 have a:((1000000000 ^ l.length:Nat):Int)≤((1000000000 ^ i:Nat):Int):=by omega
 rw[Int.natCast_pow,Int.natCast_pow]at a
 exact Int.lt_of_lt_of_le h1 a
theorem plus_ok{la lb:List Int}(ha:Dig la)(hb:Dig lb)(la3:la.length≤3)(lb3:lb.length≤3) :
 ∃l,z168 la lb=some l∧Dig l∧l.length≤4∧zY l=zY la+zY lb:=by
 unfold z168
 obtain⟨N,hN⟩:∃N,N=max la.length lb.length:=⟨_,rfl⟩
 have fin:∀l,Dig l→dv l=dv la+dv lb→zY l=zY la+zY lb:=by
  intro l h e
  rw[qf h,qf ha,qf hb]at e
  omega
 refine zk (N+1) (fun i (x:Int×Int×List Int)=>x.2.1=(i:Int)∧x.2.2.length=i∧Dig x.2.2∧0≤x.1∧x.1≤1∧(N<i→x.1=0)∧dv x.2.2+1000000000 ^ i*x.1=dv (la.take i)+dv (lb.take i)) (fun o=>∃l,o=some l∧Dig l∧l.length≤4∧zY l=zY la+zY lb) Oz ⟨rfl,rfl,Dig.nil,by decide,by decide,by omega,rfl⟩ ?_ ?_
 ·rintro i ⟨c,j,out⟩ g hi ⟨rfl,hl,hd,c0,c1,d,hv⟩ hg
  dsimp only at hl hd c0 c1 d hv ⊢
  have d1:=ha.at i
  have d2:=hb.at i
  obtain⟨w,k⟩:∃w,w=la.getD i 0+lb.getD i 0+c:=⟨_,rfl⟩
  have f:=hg (w / 1000000000,((i+1:Nat):Int),out++[w % 1000000000]) ⟨rfl,by simp[hl],hd.app (Dig.one Oz Oz),by dsimp only;omega,by dsimp only;omega,?_,?_⟩
  ·simp only[YW,aA,xZ (show(la.getD i 0+lb.getD i 0).natAbs<_ by omega),←k,xZ (show w.natAbs<_ by omega),tm9 (show 0≤w by omega),td9 (show 0≤w by omega),yF (show out.length+[w % 1000000000].length≤60000 by simp;omega),xZ (show(w / 1000000000).natAbs<_ by omega),zp (show i<100000 by omega),aD (show ¬(1000000000:Int)=0 by decide)]
   split
   ·exact f
   ·split
    ·exact f
    ·split
     ·exact f
     ·next a b e=>
      have a:la.length≤i:=by simp at a;omega
      have b:lb.length≤i:=by simp at b;omega
      have e:c=0:=by simp at e;omega
      rw[qt a,qt b,e]at hv
      exact⟨out,rfl,hd,by omega,fin _ hd Oz⟩
  ·intro h
   dsimp only
   have z1:la.getD i 0=0:=by rw[aC,cV Oz];rfl
   have z2:lb.getD i 0=0:=by rw[aC,cV Oz];rfl
   omega
  ·dsimp only
   rw[zaI,hl,yg,yg,Int.pow_succ]
   have:=zbv hv k
   rw[Int.mul_add]at this
   omega
 ·rintro⟨c,j,out⟩ g ⟨rfl,hl,hd,c0,c1,d,hv⟩
  dsimp only at hl hd c0 c1 d hv ⊢
  rw[aD (by simp;omega),aD (by simp;omega),aD (by simp;omega)]
  rw[qt Oz,qt Oz,d Oz]at hv
  exact⟨out,rfl,hd,by omega,fin _ hd Oz⟩
theorem zcn{la lb:List Int}(ha:Dig la)(hb:Dig lb)(la3:la.length≤3)(hle:lb.length≤la.length)(hv:zY lb≤zY la) :
 ∃l,zbh la lb=some l∧Dig l∧l.length≤3∧zY l=zY la-zY lb:=by
 unfold zbh
 have e1:=qf ha
 have e2:=qf hb
 refine zk la.length (fun i (x:Int×Int×List Int)=>x.2.1=(i:Int)∧x.2.2.length=i∧Dig x.2.2∧0≤x.1∧x.1≤1∧dv x.2.2-1000000000 ^ i*x.1=dv (la.take i)-dv (lb.take i)) (fun o=>∃l,o=some l∧Dig l∧l.length≤3∧zY l=zY la-zY lb) Oz ⟨rfl,rfl,Dig.nil,by decide,by decide,rfl⟩ ?_ ?_
 ·rintro i ⟨c,j,out⟩ g hi ⟨rfl,hl,hd,c0,c1,hv⟩ hg
  dsimp only at hl hd c0 c1 hv ⊢
  have d1:=ha.at i
  have d2:=hb.at i
  obtain⟨w,b⟩:∃w,w=la.getD i 0-lb.getD i 0-c:=⟨_,rfl⟩
  rw[aF (zM hi)]
  simp only[xB hi,YW,aA,xZ (show(la.getD i 0-lb.getD i 0).natAbs<_ by omega),←b,xZ (show w.natAbs<_ by omega),xZ (show(w+1000000000).natAbs<_ by omega),yF (show out.length+[w+1000000000].length≤60000 by simp;omega),yF (show out.length+[w].length≤60000 by simp;omega),zp (show i<100000 by omega)]
  split
  ·next h=>
   have h:=dE h
   refine hg _ ⟨rfl,by simp[hl],hd.app (Dig.one Oz Oz),by simp,by simp,?_⟩
   dsimp only
   rw[zaI,hl,yg,yg,Int.pow_succ,b]
   simp only[Int.mul_add,Int.mul_sub]
   omega
  ·next h=>
   have h:¬w<0:=fun x=>h (aH x)
   refine hg _ ⟨rfl,by simp[hl],hd.app (Dig.one Oz Oz),by simp,by simp,?_⟩
   dsimp only
   rw[zaI,hl,yg,yg,Int.pow_succ,b]
   simp only[Int.mul_add,Int.mul_sub]
   omega
 ·rintro⟨c,j,out⟩ g ⟨rfl,hl,hd,c0,c1,a⟩
  dsimp only at hl hd c0 c1 a ⊢
  rw[aD Y8]
  rw[aY,qt Oz]at a
  have:=dv_lim hd (Nat.le_of_eq hl)
  have hc:c=0:=by
   rcases(show c=0∨c=1 by omega)with h|h
   ·exact h
   ·rw[h]at a;omega
  rw[hc]at a
  have e3:=qf hd
  exact⟨out,rfl,hd,by omega,by omega⟩
theorem gD{la lb:List Int}(la3:la.length≤3):JD la lb=some (C14.cmpZ la lb):=by
 unfold JD C14.cmpZ
 by_cases h1:la.length<lb.length
 ·rw[aF (zM h1),aF h1]
 rw[aD (by simp;omega),aD h1]
 by_cases h2:lb.length<la.length
 ·rw[aF (zM h2),aF h2]
 rw[aD (by simp;omega),aD h2,xZ Oz,aA]
 refine zk la.length (fun i (x:Int)=>∃m:Nat,x=(m:Int)-1∧m+i=la.length∧ZZ la lb la.length=ZZ la lb m) (fun o=>o=some (ZZ la lb la.length)) Oz ⟨_,rfl,rfl,rfl⟩ ?_ ?_
 ·rintro i x g hi ⟨m,rfl,c,hn⟩ hg
  obtain⟨k,rfl⟩:∃k,m=k+1:=⟨m-1,by omega⟩
  have e1:((k+1:Nat):Int)-1=(k:Int):=by omega
  rw[e1,aF Y8,hn,ZZ]
  simp only[xB (show k<la.length by omega),xB (show k<lb.length by omega),aA,aB,xZ (show((k:Int)-1).natAbs<_ by omega)]
  split
  ·rfl
  ·split
   ·rfl
   ·next a b=>
    rw[ZZ,aD a,aD b]at hn
    have:=hg _ ⟨k,rfl,by omega,hn⟩
    rw[hn]at this
    exact this
 ·rintro x g ⟨m,rfl,c,hn⟩
  obtain rfl:m=0:=by omega
  rw[aD Y8,hn]
  rfl
theorem zak{m n:Nat}(h:m≤n):(dg m).length≤(dg n).length:=by
 apply cY
 intro c
 have:=Xy (m:=n) (n:=m) Oz
 omega
abbrev S18(n:Int):Prop:=n.natAbs<1000000000000000000
theorem add_ok{a b:Int}(ha:S18 a)(hb:S18 b):z96 (zG a) (zG b)=some (zG (a+b)):=by
 unfold z96
 have la:=xz ha
 have lb:=xz hb
 have d:=kW a.natAbs
 have f:=kW b.natAbs
 show(if (decide (a<0)==decide (b<0))=true then _ else _)=_
 by_cases h:a<0↔b<0
 ·rw[aF (by simpa using h)]
  show(z168 (dg a.natAbs) (dg b.natAbs)).bind _=_
  obtain⟨l,e,hd,hl,hv⟩:=plus_ok d f Oz Oz
  rw[e,aA,ZJ hd Oz,hv,yv,yv]
  refine congrArg (fun x=>some (zG x)) ?_
  exact Xd fun _=>by omega
 ·rw[aD (by simpa using h)]
  show(JD (dg a.natAbs) (dg b.natAbs)).bind _=_
  rw[gD Oz,Zm,aA]
  have hc:decide (uM a.natAbs b.natAbs<0)=decide (a.natAbs<b.natAbs):=by
   unfold uM
   split
   ·next c=>simp[c]
   ·next c=>rw[bA c];split<;>rfl
  rw[hc]
  by_cases c:a.natAbs<b.natAbs
  ·rw[aF (aH c)]
   show(zbh (dg b.natAbs) (dg a.natAbs)).bind _=_
   obtain⟨l,e,hd,hl,hv⟩:=zcn f d Oz (zak Oz) (by rw[yv,yv];omega)
   rw[e,aA,ZJ hd Oz,hv,yv,yv]
   refine congrArg (fun x=>some (zG x)) ?_
   exact Xd fun _=>by omega
  ·rw[aD (by simpa using c)]
   show(zbh (dg a.natAbs) (dg b.natAbs)).bind _=_
   obtain⟨l,e,hd,hl,hv⟩:=zcn d f Oz (zak Oz) (by rw[yv,yv];omega)
   rw[e,aA,ZJ hd Oz,hv,yv,yv]
   refine congrArg (fun x=>some (zG x)) ?_
   exact Xd fun _=>by omega
structure MI(la lb:List Int)(i k:Nat)(c:Int)(out:List Int):Prop where
 len:out.length=la.length+lb.length
 dig:Dig out
 c0:0≤c
 c1:c<1000000000
 val:dv out+1000000000 ^ (i+k)*c=dv (la.take i)*dv lb+1000000000 ^ i*(la.getD i 0*dv (lb.take k))
 zer:∀j,i+lb.length≤j→out.getD j 0=0
theorem vz{l:List Int}{k j:Nat}{x:Int}(h:k≠j):(l.set k x).getD j 0=l.getD j 0:=by
 rw[aC,aC,List.getElem?_set_ne h]
theorem wq{l:List Int}{k:Nat}{x:Int}(h:k<l.length):(l.set k x).getD k 0=x:=by
 rw[aC,List.getElem?_set_self h];rfl
theorem MI.start(la lb:List Int):MI la lb 0 0 0 (List.replicate (la.length+lb.length) 0):=
 ⟨dB,Jm _,by decide,by decide,by rw[dv_zeros];simp[dv],fun j _=>by rw[aC,List.getElem?_replicate];split<;>rfl⟩
theorem MI.w{la lb:List Int}{i k:Nat}{c:Int}{out:List Int}(h:MI la lb i k c out)(ha:Dig la)(hb:Dig lb):0≤la.getD i 0*lb.getD k 0∧la.getD i 0*lb.getD k 0≤999999999*999999999∧0≤out.getD (i+k) 0∧out.getD (i+k) 0<1000000000:=by
 have b:=ha.at i
 have a:=hb.at k
 have d:=h.dig.at (i+k)
 exact⟨Int.mul_nonneg b.1 a.1,Int.mul_le_mul Oz Oz a.1 Uz,d⟩
theorem MI.step{la lb:List Int}{i k:Nat}{c w:Int}{out:List Int}(h:MI la lb i k c out)(ha:Dig la)(hb:Dig lb)(hi:i<la.length)(hk:k<lb.length)(hw:w=out.getD (i+k) 0+la.getD i 0*lb.getD k 0+c) :
 MI la lb i (k+1) (w / 1000000000) (out.set (i+k) (w % 1000000000)):=by
 obtain⟨w0,w1,o0,o1⟩:=h.w ha hb (i:=i) (k:=k)
 have c0:=h.c0
 have c1:=h.c1
 refine⟨by rw[bP];exact h.len,h.dig.set Oz Oz,by omega,by omega,?_,fun j hj=>by rw[vz Oz];exact h.zer j hj⟩
 rw[Vv (by rw[h.len];omega),yg,←Nat.add_assoc,Int.pow_succ]
 have e:=zbv (P:=1000000000 ^ (i+k)) (A:=dv out-1000000000 ^ (i+k)*out.getD (i+k) 0) (c:=c+out.getD (i+k) 0) (x:=la.getD i 0*lb.getD k 0) (w:=w) rfl Oz
 have hv:=h.val
 have e2:(1000000000:Int) ^ i*(la.getD i 0*(dv (lb.take k)+1000000000 ^ k*lb.getD k 0))=1000000000 ^ i*(la.getD i 0*dv (lb.take k))+1000000000 ^ (i+k)*(la.getD i 0*lb.getD k 0):=by
  rw[Int.mul_add,Int.mul_add,Int.pow_add]
  congr 1
  ac_rfl
 rw[e2]
 rw[Int.mul_add]at e
 rw[Int.mul_sub]
 omega
theorem MI.next{la lb:List Int}{i:Nat}{c:Int}{out:List Int}(h:MI la lb i lb.length c out)(hi:i<la.length):MI la lb (i+1) 0 0 (out.set (i+lb.length) c):=by
 have hv:=h.val
 have hl:=h.len
 refine⟨by rw[bP];exact h.len,h.dig.set h.c0 h.c1,by decide,by decide,?_,fun j hj=>by rw[vz Oz];exact h.zer j Oz⟩
 rw[Vv Oz,h.zer _ (aO _),List.take_zero,show dv []=0 from rfl,Int.mul_zero,Int.mul_zero,Int.mul_zero,yg,Int.add_mul,Int.mul_assoc,Int.sub_zero]
 rw[aY]at hv
 omega
theorem MI.fin{la lb:List Int}{out:List Int}(h:MI la lb la.length 0 0 out)(ha:Dig la)(hb:Dig lb):zY out=zY la*zY lb:=by
 have hv:=h.val
 rw[aY,List.take_zero,show dv []=0 from rfl,Int.mul_zero,Int.mul_zero,Int.mul_zero,Int.add_zero,Int.add_zero,qf h.dig,qf ha,qf hb,←Int.natCast_mul]at hv
 omega
theorem mul_ok{la lb:List Int}(ha:Dig la)(hb:Dig lb)(la2:la.length≤2)(lb2:lb.length≤2)(s t:Bool) :
 z94 (s,la) (t,lb)=some (zG (sg (!(s==t)) (zY la*zY lb))):=by
 unfold z94
 dsimp only
 have f:(la.length:Int)+(lb.length:Int)=((la.length+lb.length:Nat):Int):=by omega
 rw[f,xZ Oz,aA,aF Oz,Int.toNat_natCast]
 refine zk la.length (fun i (x:Int×List Int)=>x.1=(i:Int)∧MI la lb i 0 0 x.2) (fun o=>o=some (zG (sg (!(s==t)) (zY la*zY lb)))) Oz ⟨rfl,MI.start la lb⟩ ?_ ?_
 ·rintro i ⟨x,out⟩ g hi ⟨rfl,b⟩ hg
  have b:MI la lb i 0 0 out:=b
  dsimp only
  rw[aF (zM hi)]
  refine zk lb.length (fun k (y:Int×Int×List Int)=>y.2.1=(k:Int)∧MI la lb i k y.1 y.2.2) (fun o=>o=some (zG (sg (!(s==t)) (zY la*zY lb)))) Oz ⟨rfl,b⟩ ?_ ?_
  ·rintro k ⟨c,y,o⟩ h hk ⟨rfl,a⟩ d
   have a:MI la lb i k c o:=a
   obtain⟨w,e⟩:∃w,w=o.getD (i+k) 0+la.getD i 0*lb.getD k 0+c:=⟨_,rfl⟩
   obtain⟨w0,w1,o0,o1⟩:=a.w ha hb
   have c0:=a.c0
   have c1:=a.c1
   have hl:=a.len
   have e1:(i:Int)+(k:Int)=((i+k:Nat):Int):=by omega
   have j:=d (w / 1000000000,((k+1:Nat):Int),o.set (i+k) (w % 1000000000)) ⟨rfl,a.step ha hb hi hk e⟩
   dsimp only
   rw[aF (zM hk),e1]
   simp only[xZ (show((i+k:Nat):Int).natAbs<_ by omega),aA,xB (show i+k<o.length by omega),xB hi,xB hk,xZ (show(la.getD i 0*lb.getD k 0).natAbs<_ by omega),xZ (show(o.getD (i+k) 0+la.getD i 0*lb.getD k 0).natAbs<_ by omega),←e,xZ (show w.natAbs<_ by omega),aD (show ¬(1000000000:Int)=0 by decide),tm9 (show 0≤w by omega),td9 (show 0≤w by omega),xZ (show(w / 1000000000).natAbs<_ by omega),zp (show k<100000 by omega),yT,Int.toNat_natCast]
   exact j
  ·rintro⟨c,y,o⟩ h ⟨rfl,a⟩
   have a:MI la lb i lb.length c o:=a
   have hl:=a.len
   have e1:(i:Int)+(lb.length:Int)=((i+lb.length:Nat):Int):=by omega
   dsimp only
   rw[aD Y8,e1]
   simp only[xZ (show((i+lb.length:Nat):Int).natAbs<_ by omega),aA,xB (show i+lb.length<o.length by omega),zp (show i<100000 by omega),yT,Int.toNat_natCast]
   exact hg _ ⟨rfl,a.next hi⟩
 ·rintro⟨x,out⟩ g ⟨rfl,b⟩
  have b:MI la lb la.length 0 0 out:=b
  have hl:=b.len
  dsimp only
  rw[aD Y8,ZJ b.dig Oz,b.fin ha hb]
  rfl
theorem sg_mul(a b:Int):sg (!(decide (a<0)==decide (b<0))) (a.natAbs*b.natAbs)=a*b:=by
 have e:((a.natAbs*b.natAbs:Nat):Int)=(a.natAbs:Int)*(b.natAbs:Int):=Int.natCast_mul ..
 unfold sg
 rw[e]
 by_cases ha:a<0<;>by_cases hb:b<0<;>simp only[ha,hb,decide_true,dU,eJ,Bool.not_false,beq_self_eq_true,dP,cK,show(true==false)=false from rfl,show(false==true)=false from rfl,aX]
 ·rw[Int.ofNat_natAbs_of_nonpos Oz,Int.ofNat_natAbs_of_nonpos Oz,Int.neg_mul_neg]
 ·rw[Int.ofNat_natAbs_of_nonpos Oz,Int.natAbs_of_nonneg Oz,Int.neg_mul,Int.neg_neg]
 ·rw[Int.natAbs_of_nonneg Oz,Int.ofNat_natAbs_of_nonpos Oz,Int.mul_neg,Int.neg_neg]
 ·rw[Int.natAbs_of_nonneg Oz,Int.natAbs_of_nonneg Oz]
theorem j9{a b:Int}(ha:S18 a)(hb:S18 b):z94 (zG a) (zG b)=some (zG (a*b)):=by
 have:=mul_ok (kW a.natAbs) (kW b.natAbs) (xz ha) (xz hb) (decide (a<0)) (decide (b<0))
 rw[yv,yv,sg_mul]at this
 exact this
theorem Xm{n:Int}(hn:S18 n):z59 n=some (zG n):=by
 unfold z59
 refine zk 2 (fun i (x:Int×List Int)=>x.2.length=i∧Dig x.2∧x.1.natAbs<1000000000 ^ (2-i)∧zY x.2+1000000000 ^ i*x.1.natAbs=n.natAbs) (fun o=>o=some (zG n)) Uz ⟨rfl,Dig.nil,hn,by simp[zY]⟩ ?_ ?_
 ·rintro i ⟨x,out⟩ g hi ⟨hl,hd,hx,hv⟩ hg
  dsimp only at hl hd hx hv ⊢
  have hx2:x.natAbs<1000000000000000000:=bJ hx (by rcases(show i=0∨i=1 by omega)with rfl|rfl<;>decide)
  by_cases h0:x=0
  ·rw[aD (by simp[h0]),ZJ hd Oz]
   rw[h0,Int.natAbs_zero,Nat.mul_zero,bK]at hv
   rw[hv,Kv]
   rfl
  ·rw[aF (by simp[h0])]
   have m1:=Int.natAbs_tmod x 1000000000
   have b:(Int.tdiv x 1000000000).natAbs=x.natAbs / 1000000000:=Int.natAbs_tdiv x 1000000000
   have m1:(Int.tmod x 1000000000).natAbs=x.natAbs % 1000000000:=m1
   have a:∀k:Int,k=((x.natAbs % 1000000000:Nat):Int)→g (Int.tdiv x 1000000000,out++[k])=some (zG n):=by
    rintro k rfl
    refine hg _ ⟨by simp[hl],hd.app (Dig.one Oz Oz),?_,?_⟩
    ·show(Int.tdiv x 1000000000).natAbs<_
     rw[b]
     rcases(show i=0∨i=1 by omega)with rfl|rfl
     ·have:x.natAbs<1000000000 ^ 2:=hx
      show _<1000000000 ^ 1
      omega
     ·have:x.natAbs<1000000000 ^ 1:=hx
      show _<1000000000 ^ 0
      omega
    ·show zY (out++[_])+1000000000 ^ (i+1)*(Int.tdiv x 1000000000).natAbs=_
     rw[b,Vu,hl,Nat.pow_succ,show zY [((x.natAbs % 1000000000:Nat):Int)]=x.natAbs % 1000000000 from(show(((x.natAbs % 1000000000:Nat):Int)).toNat+1000000000*0=_ by omega),Nat.mul_assoc,Nat.add_assoc,←Nat.mul_add,Nat.mod_add_div]
     exact hv
   have i64a:i64 (Int.tdiv x 1000000000)=some (Int.tdiv x 1000000000):=xZ Oz
   have i64b:i64 (0-Int.tmod x 1000000000)=some (0-Int.tmod x 1000000000):=xZ Oz
   rw[aD Uz]
   by_cases h:Int.tmod x 1000000000<0
   ·rw[aF (aH h),i64b,aA,yF (by simp;omega),aA,aD Uz,i64a,aA]
    exact a _ Oz
   ·rw[aD (by simpa using h),yF (by simp;omega),aA,aD Uz,i64a,aA]
    exact a _ Oz
 ·rintro⟨x,out⟩ g ⟨hl,hd,hx,hv⟩
  dsimp only at hl hd hx hv ⊢
  have h0:x=0:=by
   have:x.natAbs<1000000000 ^ 0:=hx
   omega
  rw[aD (by simp[h0]),ZJ hd Oz]
  rw[h0,Int.natAbs_zero,Nat.mul_zero,bK]at hv
  rw[hv,Kv]
  rfl
theorem Vz{m:Nat}(h:m<1000000000000000000):(m=0∧dg m=[])∨(m≠0∧m / 1000000000=0∧dg m=[((m % 1000000000:Nat):Int)])∨(m / 1000000000≠0∧dg m=[((m % 1000000000:Nat):Int),((m / 1000000000:Nat):Int)]):=by
 by_cases h0:m=0
 ·exact .inl ⟨h0,dg_nil.mpr h0⟩
 ·by_cases h1:m / 1000000000=0
  ·exact .inr (.inl ⟨h0,h1,by rw[uu h0,dg_nil.mpr h1]⟩)
  ·refine .inr (.inr ⟨h1,?_⟩)
   rw[uu h0,VA h1 Oz]
theorem dg_getD{m:Nat}(h:m<1000000000000000000):(dg m).getD 0 0=((m % 1000000000:Nat):Int)∧(dg m).getD 1 0=((m / 1000000000:Nat):Int):=by
 rcases Vz h with⟨h0,e⟩|⟨h0,h1,e⟩|⟨h1,e⟩
 ·rw[e,h0];exact⟨rfl,rfl⟩
 ·rw[e,h1];exact⟨rfl,rfl⟩
 ·rw[e];exact⟨rfl,rfl⟩
theorem QE{m:Nat}(h:m<1000000000000000000):JC (dg m)=some (m:Int):=by
 unfold JC
 obtain⟨c,e1⟩:=dg_getD h
 have h0:=YW (dg m) 0
 have h1:=YW (dg m) 1
 rw[c]at h0
 rw[e1]at h1
 have h2:((m % 1000000000:Nat):Int)+1000000000*((m / 1000000000:Nat):Int)=m:=by omega
 have h3:((m / 1000000000:Nat):Int).natAbs<1000000000:=by omega
 have h4:((m % 1000000000:Nat):Int).natAbs<1000000000:=by omega
 generalize ((m % 1000000000:Nat):Int)=a at *
 generalize ((m / 1000000000:Nat):Int)=b at *
 have h0:Yj (dg m) 0=some a:=h0
 have h1:Yj (dg m) 1=some b:=h1
 rw[h1,aA,xZ (x:=b*1000000000) Oz,aA,h0,aA,xZ (x:=b*1000000000+a) Oz,aA,←h2]
 congr 1
 omega
theorem s18{n:Nat}(h:n<1000000000000000000):S18 (n:Int):=by show Int.natAbs n<_;rw[Int.natAbs_natCast];exact h
theorem Vf{n:Nat}(h:n<1000000000000000000):i64 (n:Int)=some (n:Int):=xZ (by rw[Int.natAbs_natCast];omega)
theorem qa(n:Nat):zG (n:Int)=(false,dg n):=by
 unfold zG
 rw[Int.natAbs_natCast,bA Oz]
theorem zfb{m n:Nat}(a:m<1000000000000000000)(hn:n<1000000000000000000)(h0:n≠0):z190 (dg m) (dg n)=some (dg (m / n),dg (m % n)):=by
 unfold z190
 have l1:=xz a
 have l2:=xz hn
 have b:m / n<1000000000000000000:=cC (Nat.div_le_self m n) a
 have e:m % n<1000000000000000000:=cC (Nat.mod_le m n) a
 have c:Int.tdiv (m:Int) (n:Int)=((m / n:Nat):Int):=rfl
 have d:Int.tmod (m:Int) (n:Int)=((m % n:Nat):Int):=rfl
 rw[aF (by simp;omega),aF (by simp;omega),QE a,aA,QE hn,aA,aD Oz,c,Vf b,aA,Xm (s18 b),aA,aA,aA,aD Oz,d,Xm (s18 e),aA,qa,qa]
theorem KV(m:Nat)(h:m<1000000000000000000)(s:Bool):jp s (dg m)=some (zG (sg s m)):=by
 rw[ZJ (kW m) (by have:=xz h;omega),yv]
theorem sg_div{a g:Int}(hg:0<g)(hd:g∣a):sg (!(decide (a<0)==decide (g<0))) (a.natAbs / g.natAbs)=a / g:=by
 obtain⟨k,rfl⟩:=hd
 rw[eW,Nat.mul_div_cancel_left _ Oz,Int.mul_ediv_cancel_left _ Oz]
 have e:decide (g<0)=false:=by simp;omega
 have e2:decide (g*k<0)=decide (k<0):=by
  rw[decide_eq_decide]
  refine⟨fun h=>?_,fun h=>Int.mul_neg_of_pos_of_neg hg h⟩
  apply cY
  intro c
  have:=Int.mul_nonneg (Int.le_of_lt hg) (show 0≤k by omega)
  omega
 rw[e,e2,show(!(decide (k<0)==false))=decide (k<0)by cases decide (k<0)<;>rfl]
 exact Kv k
theorem div_ok{a g:Int}(ha:S18 a)(hg:0<g)(b:S18 g)(hd:g∣a):zdS (zG a) (zG g)=some (zG (a / g),zG 0):=by
 unfold zdS
 have c:a.natAbs % g.natAbs=0:=Nat.mod_eq_zero_of_dvd (Int.natAbs_dvd_natAbs.mpr hd)
 have hq:a.natAbs / g.natAbs≤a.natAbs:=Nat.div_le_self ..
 have d:¬(decide (((zG g).2.length:Int)=0))=true:=by
  have:(zG g).2.length≠0:=fun h=>by have:=dg_len0.mp h;omega
  rw[aB];omega
 rw[aD d,show z190 (zG a).2 (zG g).2=_ from zfb ha b Oz,aA,c,KV _ Oz,aA,KV 0 Uz,aA,sg_0]
 show(if decide (a<0)=true then _ else _)=_
 have hs:sg (!((zG a).1==(zG g).1)) (a.natAbs / g.natAbs)=a / g:=sg_div hg hd
 rw[hs]
 have:¬decide (0<((zG 0).2.length:Int))=true:=by rw[kC];decide
 rw[aD this]
 split<;>rfl
theorem zcH(m n:Nat):Nat.gcd m n=Nat.gcd n (m % n):=by rw[Nat.gcd_comm m n,Nat.gcd_rec n m,Nat.gcd_comm]
theorem zeR{ρ:Type}{B:(Int×Int→Option ρ)→Int×Int→Option ρ}(E:Int→Option ρ)(h0:∀g m,B g (m,0)=E m)(h1:∀g (m n:Nat),n≠0→B g ((m:Int),(n:Int))=g ((n:Int),((m % n:Nat):Int))) :
 ∀(j m n k:Nat),n<2 ^ j→2*j<k→zj B k ((m:Int),(n:Int))=E (Nat.gcd m n:Nat)
 |0,m,n,k+1,hn,_=>by
  obtain rfl:n=0:=by have:n<1:=hn;omega
  rw[ze,Nat.gcd_zero_right]
  exact h0 _ _
 |j+1,m,n,k+2,hn,hk=>by
  by_cases a:n=0
  ·subst a
   rw[ze,Nat.gcd_zero_right]
   exact h0 _ _
  rw[ze,h1 _ _ _ a,ze,zcH m n]
  have d:=Nat.mod_lt m (show 0<n by omega)
  generalize m % n=r at d
  by_cases b:r=0
  ·subst b
   rw[Nat.gcd_zero_right]
   exact h0 _ _
  rw[h1 _ _ _ b,zcH n r]
  refine zeR E h0 h1 j r (n % r) k ?_ Oz
  have h2:=Nat.mod_lt n (show 0<r by omega)
  have h3:=Nat.div_add_mod n r
  have c:1≤n / r:=Nat.div_pos Oz Oz
  have h5:r*1≤r*(n / r):=bX r c
  rw[Nat.pow_succ]at hn
  omega
 |0,_,_,0,_,h=>by omega
 |j+1,_,_,0,_,h=>by omega
 |j+1,_,_,1,_,h=>by omega
theorem QP{m n:Nat}(hn:n<1000000000000000000)(h:n≠0):Nat.gcd m n<1000000000000000000:=cC (Nat.gcd_le_right m Oz) hn
theorem gcd_ok{a b:Int}(ha:S18 a)(hb:S18 b)(h0:b≠0):z112 (zG a) (zG b)=some (zG (Nat.gcd a.natAbs b.natAbs:Nat)):=by
 unfold z112
 rw[show jp false (zG a).2=_ from KV a.natAbs ha false,show jp false (zG b).2=_ from KV b.natAbs hb false,aA,aA,zbD,zbD,qa,qa,zC 2,ze]
 have l1:=xz ha
 have l2:=xz hb
 have l0:(dg b.natAbs).length≠0:=fun h=>by have:=dg_len0.mp h;omega
 have hg:=QP (m:=a.natAbs) hb Oz
 dsimp only
 rw[aF (by rw[aB];omega),aF (by rw[aB];omega),aF (by rw[aB];omega),QE ha,aA,QE hb,aA,zC 130]
 rw[zeR (fun x=>(z59 x).bind fun c=>some c) (fun g m=>aD Y8) (fun g m n hn=>by rw[aF (by rw[aB];show(0:Int)<n;omega),aD (by show ¬(n:Int)=0;omega)];rfl) 60 a.natAbs b.natAbs 130 (Nat.lt_trans hb Uz) Uz]
 rw[Xm (s18 hg)]
 rfl
theorem J9{n:Int}(hn:S18 n):zbl (zG n)=some (decide (n=1)):=by
 unfold zbl
 show(if decide (n<0)=true then _ else(if decide (((dg n.natAbs).length:Int)≠1)=true then _ else(idx (dg n.natAbs) 0).bind _))=_
 by_cases h:n<0
 ·rw[aF (aH h),bA Oz]
 rw[aD (by rw[aB];exact h)]
 rcases Vz hn with⟨h0,e⟩|⟨h0,h1,e⟩|⟨h1,e⟩<;>rw[e]
 ·rw[aF Uz,bA Oz]
 ·rw[aD Y8,show idx [((n.natAbs % 1000000000:Nat):Int)] 0=some ((n.natAbs % 1000000000:Nat):Int)from rfl,aA]
  congr 1
  rw[decide_eq_decide]
  omega
 ·rw[aF Y8,bA Oz]
theorem zeu{n:Int}(hn:S18 n):z97 (zG n)=some (zG (-n)):=by
 unfold z97
 rw[show jp (!(zG n).1) (zG n).2=_ from KV n.natAbs hn (!decide (n<0)),aA]
 congr 2
 unfold sg
 by_cases h:n<0
 ·rw[aH h]
  show((n.natAbs:Nat):Int) = -n
  omega
 ·rw[bA h]
  show -((n.natAbs:Nat):Int) = -n
  omega
theorem kN(q:Rat):yk q=(zG q.num,if q.den=1 then(false,[])else zG (q.den:Int)):=by
 unfold yk
 rw[qa]
 split<;>rfl
theorem Kw{a:Int}{g:Nat}(ha:S18 a)(hd:(g:Int)∣a):S18 (a / (g:Int)):=by
 obtain⟨k,rfl⟩:=hd
 unfold S18 at *
 by_cases h0:g=0
 ·subst h0;rw[Int.natCast_zero,Int.ediv_zero];decide
 ·rw[Int.mul_ediv_cancel_left _ Oz]
  rw[eW,Int.natAbs_natCast]at ha
  exact cC (Nat.le_mul_of_pos_left _ Oz) ha
theorem zgd{a:Int}(h:S18 a):S18 (-a):=by unfold S18 at *;rw[Int.natAbs_neg];exact h
theorem zai{p q:Int}(hp:S18 p)(c:S18 q)(h0:q≠0):z58 (zG p) (zG q)=some (yk (Rat.divInt p q)):=by
 unfold z58
 have lq:(zG q).2.length≠0:=fun h=>by have:=dg_len0.mp h;omega
 rw[aD (by rw[aB];omega)]
 by_cases g:p=0
 ·subst g
  rw[aF (by rw[kC];rfl),Rat.zero_divInt,kN,aF (show(0:Rat).den=1 from rfl),show(0:Rat).num=0 from rfl,kC]
 have lp:(zG p).2.length≠0:=fun h=>by have:=dg_len0.mp h;omega
 rw[aD (by rw[aB];omega),gcd_ok hp c h0,aA]
 have hg:=QP (m:=p.natAbs) c Oz
 have hgp:=zas (p:=p) h0
 have e1:=Zs (p:=p) h0
 have e2:=zcT (p:=p) h0
 have d:=YR (p:=p) h0
 have e:((Nat.gcd p.natAbs q.natAbs:Nat):Int)∣p:=Int.ofNat_dvd_left.mpr (Nat.gcd_dvd_left _ _)
 have f:((Nat.gcd p.natAbs q.natAbs:Nat):Int)∣q:=Int.ofNat_dvd_left.mpr (Nat.gcd_dvd_right _ _)
 generalize Nat.gcd p.natAbs q.natAbs=G at *
 rw[div_ok hp Oz (s18 hg) e,div_ok c Oz (s18 hg) f,aA,aA]
 have s1:=Kw hp e
 have s2:=Kw c f
 rw[kN,e1]
 generalize p / (G:Int)=P at *
 generalize q / (G:Int)=U at *
 have hd:∀z:Int,((Rat.divInt p q).den:Int)=z→(if (Rat.divInt p q).den=1 then(false,([]:List Int))else zG ((Rat.divInt p q).den:Int))=if decide (z=1)=true then(false,[])else zG z:=by
  rintro z rfl
  by_cases h:(Rat.divInt p q).den=1
  ·rw[aF h,aF (aH Oz)]
  ·rw[aD h,aD (by rw[aB];omega)]
 rw[hd _ e2]
 show(if decide (U<0)=true then _ else _)=_
 by_cases a:U<0
 ·rw[aF (aH a),aF (d.mp a),aF (d.mp a),zeu s1,zeu s2,aA,aA,J9 (zgd s2),aA]
  split<;>rfl
 ·have b:¬q<0:=fun h=>a (d.mpr h)
  rw[aD (by rw[aB];exact a),aD b,aD b,J9 s2,aA]
  split<;>rfl
def Sm(q:Rat):Prop:=q.num.natAbs<500000000∧q.den<500000000
def Sg(q:Rat):Prop:=q.num.natAbs<250000000000∧q.den<1000000
def S1(q:Rat):Prop:=q.num.natAbs<1000000000000000000∧q.den<1000000000000000000
def S2(a b:Rat):Prop:=(S1 a∧S1 b)∧(a.num*(b.den:Int)).natAbs≤250000000000000000∧(b.num*(a.den:Int)).natAbs≤250000000000000000∧a.den*b.den≤250000000000000000
instance {q:Rat}:Decidable (Sm q):=inferInstanceAs (Decidable (_∧_))
instance {q:Rat}:Decidable (S1 q):=inferInstanceAs (Decidable (_∧_))
instance {a b:Rat}:Decidable (S2 a b):=inferInstanceAs (Decidable (_∧_))
theorem S1.n{q:Rat}(h:S1 q):S18 q.num:=h.1
theorem S1.d{q:Rat}(h:S1 q):S18 (q.den:Int):=s18 h.2
theorem Sm.s1{q:Rat}(h:Sm q):S1 q:=⟨by have:=h.1;omega,by have:=h.2;omega⟩
theorem Sg.s1{q:Rat}(h:Sg q):S1 q:=⟨by have:=h.1;omega,by have:=h.2;omega⟩
theorem Sm.n{q:Rat}(h:Sm q):S18 q.num:=h.s1.n
theorem Sm.d{q:Rat}(h:Sm q):S18 (q.den:Int):=h.s1.d
theorem Sm.neg{q:Rat}(h:Sm q):Sm (-q):=⟨by rw[Rat.neg_num,Int.natAbs_neg];exact h.1,by rw[Rat.neg_den];exact h.2⟩
theorem S1.neg{q:Rat}(h:S1 q):S1 (-q):=⟨by rw[Rat.neg_num,Int.natAbs_neg];exact h.1,by rw[Rat.neg_den];exact h.2⟩
theorem S2.neg{a b:Rat}(h:S2 a b):S2 a (-b):=⟨⟨h.1.1,h.1.2.neg⟩,by rw[Rat.neg_den,Rat.neg_num,Int.neg_mul,Int.natAbs_neg];exact h.2⟩
theorem QM{a b c A B:Nat}(h:a≤A)(g:b≤B)(e:A*B≤c):a*b≤c:=bH (eE h g) e
theorem s2_of{N D:Nat}{a b:Rat}(ha:S1 a)(hb:S1 b)(h1:a.num.natAbs≤N∧a.den≤D)(h2:b.num.natAbs≤N∧b.den≤D)(h:N*D≤250000000000000000∧D*D≤250000000000000000):S2 a b:=by
 refine⟨⟨ha,hb⟩,?_,?_,QM h1.2 h2.2 h.2⟩
 ·rw[eW,Int.natAbs_natCast];exact QM h1.1 h2.2 h.1
 ·rw[eW,Int.natAbs_natCast];exact QM h2.1 h1.2 h.1
theorem Sm.s2{a b:Rat}(ha:Sm a)(hb:Sm b):S2 a b:=s2_of (N:=500000000) (D:=500000000) ha.s1 hb.s1 ⟨Nat.le_of_lt ha.1,Nat.le_of_lt ha.2⟩ ⟨Nat.le_of_lt hb.1,Nat.le_of_lt hb.2⟩ ⟨by decide,by decide⟩
theorem Sg.s2{a b:Rat}(ha:Sg a)(hb:Sg b):S2 a b:=s2_of (N:=250000000000) (D:=1000000) ha.s1 hb.s1 ⟨Nat.le_of_lt ha.1,Nat.le_of_lt ha.2⟩ ⟨Nat.le_of_lt hb.1,Nat.le_of_lt hb.2⟩ ⟨by decide,by decide⟩
theorem sm_mul{a b:Nat}(h:a<500000000)(g:b<500000000):a*b≤250000000000000000:=QM (Nat.le_of_lt h) (Nat.le_of_lt g) Uz
theorem Sm.dd{a b:Rat}(ha:Sm a)(hb:Sm b):a.den*b.den≤250000000000000000:=sm_mul ha.2 hb.2
theorem zeU{q:Rat}(h:S1 q):(q.den=1∧(yk q).2=(false,[]))∨(q.den≠1∧(yk q).2=zG (q.den:Int)∧(zG (q.den:Int)).2.length≠0):=by
 rw[kN]
 by_cases hd:q.den=1
 ·exact .inl ⟨hd,aF hd⟩
 ·refine .inr ⟨hd,aD hd,?_⟩
  intro g
  rw[qa]at g
  exact q.den_nz (dg_len0.mp g)
theorem kD(q:Rat):(yk q).1=zG q.num:=rfl
theorem ofZ_1:z59 1=some (zG 1):=Xm Uz
theorem Xz{q:Rat}(h:S1 q):z95 (yk q)=some (zG (q.den:Int)):=by
 unfold z95
 rcases zeU h with⟨hd,e⟩|⟨hd,e,hl⟩<;>rw[e]
 ·rw[aF (by rfl),ofZ_1,hd];rfl
 ·rw[aD (by rw[aB];omega)]
theorem zhj{a b:Rat}:Rat.divInt (a.num*(b.den:Int)+b.num*(a.den:Int)) ((a.den:Int)*(b.den:Int))=a+b:=by
 rw[Rat.add_def',←Rat.divInt_ofNat,Int.natCast_mul]
theorem mul_def{a b:Rat}:Rat.divInt (a.num*b.num) ((a.den:Int)*(b.den:Int))=a*b:=by
 rw[Rat.mul_def',←Rat.divInt_ofNat,Int.natCast_mul]
theorem dd_ne(a b:Rat):(a.den:Int)*(b.den:Int)≠0:=by
 have h1:=a.den_nz
 have h2:=b.den_nz
 exact Int.mul_ne_zero Oz Oz
theorem zhl{a b:Rat}(h:S2 a b):z36 (yk a) (yk b)=some (yk (a+b)):=by
 unfold z36
 have h1:=h.2.1
 have h2:=h.2.2.1
 have h3:=h.2.2.2
 have e:((a.den:Int)*(b.den:Int))=((a.den*b.den:Nat):Int):=(Int.natCast_mul ..).symm
 simp only[kD,Xz h.1.1,Xz h.1.2,aA]
 rw[j9 h.1.1.n h.1.2.d,aA,j9 h.1.2.n h.1.1.d,aA,add_ok (by unfold S18;omega) (by unfold S18;omega),aA,j9 h.1.1.d h.1.2.d,aA,zai (by unfold S18;omega) (by rw[e];exact s18 Oz) (dd_ne a b),aA,zhj]
theorem zgt{a:Rat}(ha:S1 a):z38 (yk a)=some (yk (-a)):=by
 unfold z38
 rw[kD,zeu ha.n,aA,kN (-a),kN a,Rat.neg_num,Rat.neg_den]
theorem subR_ok{a b:Rat}(h:S2 a b):z98 (yk a) (yk b)=some (yk (a-b)):=by
 unfold z98
 rw[zgt h.1.2,aA,zhl h.neg,aA,Rat.sub_eq_add_neg]
theorem Sm.nn{a b:Rat}(ha:Sm a)(hb:Sm b):(a.num*b.num).natAbs≤250000000000000000:=by
 rw[eW];exact sm_mul ha.1 hb.1
theorem mulR_ok{a b:Rat}(ha:Sm a)(hb:Sm b):z99 (yk a) (yk b)=some (yk (a*b)):=by
 unfold z99
 have h1:=ha.nn hb
 have h3:=ha.dd hb
 have e:((a.den:Int)*(b.den:Int))=((a.den*b.den:Nat):Int):=(Int.natCast_mul ..).symm
 simp only[kD,Xz ha.s1,Xz hb.s1,aA]
 rw[j9 ha.n hb.n,aA,j9 ha.d hb.d,aA,zai (by unfold S18;omega) (by rw[e];exact s18 Oz) (dd_ne a b),aA,mul_def]
theorem zgu{m n:Int}(a:S18 m)(hn:S18 n):z207 (zG m) (zG n)=some (yC m n):=by
 unfold z207
 have l1:=xz a
 have l2:=xz hn
 show(if (!(decide (m<0)==decide (n<0)))=true then(if decide (m<0)=true then _ else _)else(if decide (m<0)=true then(JD (dg n.natAbs) (dg m.natAbs)).bind _ else(JD (dg m.natAbs) (dg n.natAbs)).bind _))=_
 rw[gD Oz,gD Oz,Zm,Zm,aA,aA]
 by_cases h1:m<0<;>by_cases h2:n<0
 ·rw[aH h1,aH h2,aD Uz,aF rfl]
  congr 1
  unfold uM yC
  split<;>split<;>(try split)<;>(try split)<;>first|rfl|omega
 ·rw[aH h1,bA h2,aF Uz,aF rfl,yC,aF Oz]
 ·rw[bA h1,aH h2,aF Uz,aD Uz,yC,aD Oz,aF Oz]
 ·rw[bA h1,bA h2,aD Uz,aD Uz]
  congr 1
  unfold uM yC
  split<;>split<;>(try split)<;>(try split)<;>first|rfl|omega
theorem cmpR_ok{a b:Rat}(h:S2 a b):z135 (yk a) (yk b)=some (wd a b):=by
 unfold z135
 have h1:=h.2.1
 have h2:=h.2.2.1
 simp only[kD,Xz h.1.1,Xz h.1.2,aA]
 rw[j9 h.1.1.n h.1.2.d,aA,j9 h.1.2.n h.1.1.d,aA,zgu (by unfold S18;omega) (by unfold S18;omega),aA,zaO]
theorem signR_ok{a:Rat}(ha:S1 a):z80 (yk a)=some (yC a.num 0):=by
 unfold z80 z140
 rw[kD,←kC,zgu ha.n Uz]
 rfl
theorem ofR_ok{p q:Int}(hp:p.natAbs<1000000000)(hq:q.natAbs<1000000000)(h0:0<q):z20 p q=some (yk (Rat.divInt p q)):=by
 unfold z20
 rw[Xm (by unfold S18;omega),aA,Xm (by unfold S18;omega),aA,zai (by unfold S18;omega) (by unfold S18;omega) Oz]
 rfl
theorem Wu{l:List Int}{i:Nat}(h:i<l.length):l.take (i+1)=l.take i++[l.getD i 0]:=by
 rw[List.take_succ_eq_append_getElem h,aC,aE h];rfl
theorem sameL{la lb:List Int}(hl:la.length=lb.length)(h3:la.length≤2){k:Nat}(hk:2<k) :
 zj (fun g1 (b:Int)=>(if (decide (b<(la.length:Int)))=true then((idx la b).bind fun x2=>((idx lb b).bind fun d=>(if (decide (x2≠d))=true then some false else((i64 (b+1)).bind fun n4=>g1 n4))))else some true)) (zi k) 0=some (decide (la=lb)):=by
 refine zk la.length (fun i (x:Int)=>x=(i:Int)∧la.take i=lb.take i) (fun o=>o=some (decide (la=lb))) Oz ⟨rfl,rfl⟩ ?_ ?_
 ·rintro i x g hi ⟨rfl,a⟩ hg
  rw[aF (zM hi),xB hi,xB (show i<lb.length by omega),aA,aA]
  by_cases h:la.getD i 0=lb.getD i 0
  ·rw[aD (by rw[aB];exact fun c=>c h),zp Oz,aA]
   exact hg _ ⟨rfl,by rw[Wu hi,Wu Oz,a,h]⟩
  ·rw[aF (by rw[aB];exact h),bA]
   rintro rfl
   exact h rfl
 ·rintro x g ⟨rfl,a⟩
  rw[aY,hl,aY]at a
  rw[aD Y8,aH a]
theorem WD{s t:Bool}{la lb:List Int}(a:la.length≤2):zdM (s,la) (t,lb)=some (decide ((s,la)=(t,lb))):=by
 unfold zdM
 show(if (!(s==t))=true then _ else(if decide ((la.length:Int)≠(lb.length:Int))=true then _ else _))=_
 by_cases h:s=t
 ·subst h
  rw[aD Y8]
  by_cases hl:la.length=lb.length
  ·rw[aD (by simp[hl]),sameL hl a Uz]
   congr 1
   rw[decide_eq_decide,Prod.mk.injEq]
   simp
  ·rw[aF (by rw[aB];omega),bA]
   rintro h
   exact hl (congrArg (fun x=>x.2.length) h)
 ·rw[aF (by simpa using h),bA]
  rintro g
  exact h (congrArg Prod.fst g)
theorem encZ_inj{m n:Int}(h:zG m=zG n):m=n:=by
 have h1:=congrArg Prod.fst h
 have h2:=dg_inj (congrArg Prod.snd h)
 have h1:(m<0)=(n<0):=by simpa[zG]using h1
 by_cases c:m<0
 ·have:n<0:=h1▸c
  omega
 ·have:¬n<0:=h1▸c
  omega
theorem encQ_inj{a b:Rat}(h:yk a=yk b):a=b:=by
 have h1:=encZ_inj (congrArg Prod.fst h)
 have h2:=congrArg (fun x=>x.2.2) h
 have h2:(if a.den=1 then []else dg a.den)=(if b.den=1 then []else dg b.den):=h2
 refine Rat.ext h1 ?_
 split at h2
 ·split at h2
  ·omega
  ·exact absurd (dg_nil.mp h2.symm) b.den_nz
 ·split at h2
  ·exact absurd (dg_nil.mp h2) a.den_nz
  ·exact dg_inj h2
theorem zcL{a:Rat}(ha:S1 a):(yk a).1.2.length≤2∧(yk a).2.2.length≤2:=by
 refine⟨xz ha.n,?_⟩
 show(if a.den=1 then []else dg a.den).length≤2
 split
 ·simp
 ·exact xz ha.2
theorem zbE{a b:Rat}{r1 r2:Bool}(h1:r1=decide ((yk a).1=(yk b).1))(h2:r2=decide ((yk a).2=(yk b).2)):(if r1=true then some r2 else some false)=some (decide (a=b)):=by
 subst h1 h2
 by_cases c1:(yk a).1=(yk b).1
 ·rw[aF (aH c1)]
  congr 1
  rw[decide_eq_decide]
  exact⟨fun c=>encQ_inj (Prod.ext c1 c),fun e=>by rw[e]⟩
 ·rw[aD (by rw[aB];exact c1),bA]
  rintro rfl
  exact c1 rfl
theorem sameR_ok{a b:Rat}(ha:S1 a):z109 (yk a) (yk b)=some (decide (a=b)):=by
 unfold z109
 obtain⟨c,l2⟩:=zcL ha
 rw[show zdM (yk a).1 (yk b).1=_ from WD c,show zdM (yk a).2 (yk b).2=_ from WD l2,aA]
 exact zbE rfl rfl
theorem zgC{m:Nat}(h:m<1000000000000000000)(h0:(dg m).length≠0):(dg m).getD ((dg m).length-1) 0≠0:=by
 rcases Vz h with⟨h1,e⟩|⟨h1,h2,e⟩|⟨h1,e⟩
 ·rw[e]at h0;exact absurd rfl h0
 ·rw[e];show((m % 1000000000:Nat):Int)≠0;omega
 ·rw[e];show((m / 1000000000:Nat):Int)≠0;omega
theorem ZB{n:Int}(hn:S18 n):z188 (zG n)=some true:=by
 unfold z188
 have hl:=xz hn
 have hd:=kW n.natAbs
 show zj (fun g1 (a:Int)=>(if decide (a<((dg n.natAbs).length:Int))=true then(idx (dg n.natAbs) a).bind _ else(if decide (((dg n.natAbs).length:Int)=0)=true then some (!decide (n<0))else(i64 (((dg n.natAbs).length:Int)-1)).bind fun b=>(idx (dg n.natAbs) b).bind _))) _ _=_
 refine zk (dg n.natAbs).length (fun i (x:Int)=>x=(i:Int)) (fun o=>o=some true) Oz rfl ?_ ?_
 ·rintro i x g hi rfl hg
  have:=hd.at i
  rw[aF (zM hi),xB hi,aA,aD (by rw[aB];omega)]
  show(idx (dg n.natAbs) (i:Int)).bind _=_
  rw[xB hi,aA,aD (by rw[aB];omega),zp Oz,aA]
  exact hg _ rfl
 ·rintro x g rfl
  rw[aD Y8]
  by_cases h0:(dg n.natAbs).length=0
  ·have:=dg_len0.mp h0
   rw[aF (by rw[h0];rfl),bA Oz]
   rfl
  ·have e:((dg n.natAbs).length:Int)-1=(((dg n.natAbs).length-1:Nat):Int):=by omega
   have h:=zgC hn h0
   rw[aD (by rw[aB];omega),e,xZ Oz,aA,xB Oz,aA,aH h]
theorem z114_nil:zbl (false,[])=some false:=rfl
theorem Vs{a:Rat}(ha:S1 a):(a.den≠1→Nat.gcd a.num.natAbs (a.den:Int).natAbs=1):=fun _=>by
 rw[Int.natAbs_natCast];exact a.reduced
theorem validR_ok{a:Rat}(ha:S1 a):z110 (yk a)=some true:=by
 unfold z110
 have c:z188 (false,[])=some true:=by rw[←kC];exact ZB Uz
 have b:(a.den:Int)≠0:=by have:=a.den_nz;omega
 rw[kD,ZB ha.n,aA,aD Uz]
 rcases zeU ha with⟨hd,e⟩|⟨hd,e,hl⟩<;>rw[e]
 ·rw[c,aA,aD Uz,aD Uz,z114_nil,aA,aD Uz,aF (by rfl)]
 ·have e1:(zG (a.den:Int)).1=false:=by rw[qa]
  rw[ZB ha.d,aA,aD Uz,e1,aD Uz,J9 ha.d,aA,aD (by rw[aB];omega),aD (by rw[aB];omega),gcd_ok ha.n ha.d b,Vs ha hd,aA,J9 Uz]
  rfl
theorem if2{α:Type}{p q:Prop}[Decidable p][Decidable q]{F X:α}(h:¬(p∧q)):(if p then(if q then F else X)else X)=X:=by
 by_cases hp:p
 ·rw[aF hp,aD fun a=>h ⟨hp,a⟩]
 ·rw[aD hp]
theorem zcj{l:List Int}(h:Dig l)(hl:l.length≤5)(s:Bool):uR s l=some (zG (sg s (zY l))):=by
 unfold uR
 refine zk l.length (fun i (x:Int)=>∃m:Nat,x=m∧m+i=l.length∧j5 l l.length=j5 l m) (fun o=>o=some (zG (sg s (zY l)))) Oz ⟨_,rfl,rfl,rfl⟩ ?_ ?_
 ·rintro i x g hi ⟨m,rfl,a,hn⟩ hg
  obtain⟨k,rfl⟩:∃k,m=k+1:=⟨m-1,by omega⟩
  have e1:((k+1:Nat):Int)-1=(k:Int):=by omega
  rw[aF Y8,e1,xZ Oz,aA,xB Oz,aA,aF rfl]
  rw[j5]at hn
  split
  ·next c=>rw[aF (by simpa using c)]at hn;exact hg _ ⟨k,rfl,by omega,hn⟩
  ·next c=>rw[aD (by simpa using c)]at hn;exact nrm_end h s hn
 ·rintro x g ⟨m,rfl,a,hn⟩
  obtain rfl:m=0:=by omega
  rw[aD Y8,aF rfl]
  exact nrm_end h s (m:=0) hn
theorem of_dg(m:Nat)(h:m<1000000000000000000)(s:Bool):uR s (dg m)=some (zG (sg s m)):=by
 rw[zcj (kW m) (by have:=xz h;omega),yv]
theorem Qa{l:List Int}{i:Nat}{x:Int}:dv ((l.set i x).take i)=dv (l.take i):=by
 rw[List.take_set,List.set_eq_of_length_le (by rw[bU];omega)]
theorem zcF{l:List Int}{i:Nat}(h:l.length≤i):l.getD i 0=0:=by
 rw[aC,cV h];rfl
theorem zbY{la lb:List Int}(ha:Dig la)(hb:Dig lb)(la2:la.length≤2)(b:lb.length≤la.length) :
 ∃l,VV la lb=some l∧Dig l∧l.length≤3∧zY l=zY la+zY lb:=by
 unfold VV
 have r:(la.length:Int)+1=((la.length+1:Nat):Int):=by omega
 rw[aD (by rw[aB];omega),r,xZ Oz,aA,aF Oz,Int.toNat_natCast]
 refine zk la.length (fun i (x:Int×Int×List Int)=>x.2.1=(i:Int)∧x.2.2.length=la.length+1∧Dig x.2.2∧0≤x.1∧x.1≤1∧dv (x.2.2.take i)+1000000000 ^ i*x.1=dv (la.take i)+dv (lb.take i)) (fun o=>∃l,o=some l∧Dig l∧l.length≤3∧zY l=zY la+zY lb) Oz ⟨rfl,dB,Jm _,by simp,by simp,by simp[dv]⟩ ?_ ?_
 ·rintro i ⟨c,j,out⟩ g hi ⟨rfl,hl,hd,c0,c1,hv⟩ hg
  dsimp only at hl hd c0 c1 hv ⊢
  have d1:=ha.at i
  have d2:=hb.at i
  have fin:∀w:Int,w=la.getD i 0+c+lb.getD i 0→∃l,(if (decide (1000000000≤w))=true then((i64 (w-1000000000)).bind fun t=>((idx out (i:Int)).bind fun x8=>((idx out (i:Int)).bind fun x9=>((i64 ((i:Int)+1)).bind fun d=>g (1,d,(zE out (Int.toNat (i:Int)) t))))))else((idx out (i:Int)).bind fun x11=>((idx out (i:Int)).bind fun x12=>((i64 ((i:Int)+1)).bind fun f=>g (0,f,(zE out (Int.toNat (i:Int)) w))))))=some l∧Dig l∧l.length≤3∧zY l=zY la+zY lb:=by
   intro w s
   have key:∀(c' v:Int),0≤c'→c'≤1→0≤v→v<1000000000→w=v+1000000000*c'→∃l,g (c',((i+1:Nat):Int),out.set i v)=some l∧Dig l∧l.length≤3∧zY l=zY la+zY lb:=by
    intro c' v m n p q e
    refine hg _ ⟨rfl,by rw[bP];exact hl,hd.set p q,m,n,?_⟩
    dsimp only
    rw[yg,yg,yg,Qa,wq Oz,Int.pow_succ]
    have e2:(1000000000:Int) ^ i*v+1000000000 ^ i*1000000000*c'=1000000000 ^ i*w:=by rw[e,Int.mul_add,Int.mul_assoc]
    rw[s,Int.mul_add,Int.mul_add]at e2
    omega
   by_cases h:1000000000≤w
   ·rw[aF (aH h),xZ Oz,aA,xB Oz,aA,aA,zp Oz,aA,yT,Int.toNat_natCast]
    exact key 1 _ Uz Uz Oz Oz Oz
   ·rw[aD (by rw[aB];exact h),xB Oz,aA,aA,zp Oz,aA,yT,Int.toNat_natCast]
    exact key 0 _ Uz Uz Oz Oz Oz
  rw[aF (zM hi),xB hi,aA,xZ Oz,aA]
  by_cases h:i<lb.length
  ·rw[aF (zM h),xB h,aA,xZ Oz,aA]
   exact fin _ rfl
  ·rw[aD (by rw[aB];omega)]
   exact fin _ (by rw[zcF (l:=lb) Oz];omega)
 ·rintro⟨c,j,out⟩ g ⟨rfl,hl,hd,c0,c1,hv⟩
  dsimp only at hl hd c0 c1 hv ⊢
  rw[aD Y8,xB Oz,aA,aA,yT]
  have a:=hd.set (k:=la.length) (x:=c) c0 Oz
  refine⟨_,rfl,a,by rw[bP];omega,?_⟩
  have e1:dv (out.set la.length c)=dv ((out.set la.length c).take (la.length+1)):=(qt V3).symm
  rw[yg,Qa,wq Oz]at e1
  rw[aY,qt b]at hv
  rw[qf a]at e1
  rw[qf ha,qf hb]at hv
  omega
theorem zei(la lb:List Int)(h:la.length<lb.length):VV la lb=VV lb la:=by
 unfold VV
 rw[aF (zM h),aD (by rw[aB];omega)]
theorem plusP{la lb:List Int}(ha:Dig la)(hb:Dig lb)(la2:la.length≤2)(lb2:lb.length≤2) :
 ∃l,VV la lb=some l∧Dig l∧l.length≤3∧zY l=zY la+zY lb:=by
 by_cases h:la.length<lb.length
 ·obtain⟨l,e,h1,h2,h3⟩:=zbY hb ha lb2 Oz
  exact⟨l,by rw[zei _ _ h];exact e,h1,h2,by omega⟩
 ·exact zbY ha hb la2 Oz
structure NI(la lb:List Int)(i:Nat)(out:List Int):Prop where
 len:out.length=la.length
 dig:∀j,j≠i→0≤out.getD j 0∧out.getD j 0<1000000000
 mid : -1≤out.getD i 0∧out.getD i 0<1000000000
 val:dv out=dv la-dv (lb.take i)
theorem NI.stay{la lb:List Int}{i:Nat}{out:List Int}{w:Int}(h:NI la lb i out)(hb:Dig lb)(hi:i<la.length)(hw:w=out.getD i 0-lb.getD i 0)(h0:0≤w):NI la lb (i+1) (out.set i w):=by
 have d:=hb.at i
 have m:=h.mid
 have hl:=h.len
 refine⟨by rw[bP];exact hl,fun j hj=>?_,?_,?_⟩
 ·by_cases c:i=j
  ·subst c;rw[wq Oz];omega
  ·rw[vz c];exact h.dig j Oz
 ·rw[vz Oz];have:=h.dig (i+1) Oz;omega
 ·rw[Vv Oz,h.val,yg,show w-out.getD i 0 = -lb.getD i 0 by omega,Int.mul_neg]
  omega
theorem NI.borrow{la lb:List Int}{i:Nat}{out:List Int}{w v:Int}(h:NI la lb i out)(hb:Dig lb)(hi:i+1<la.length)(hw:w=out.getD i 0-lb.getD i 0)(h0:w<0)(hv:v=out.getD (i+1) 0-1):NI la lb (i+1) ((out.set i (w+1000000000)).set (i+1) v):=by
 have d:=hb.at i
 have m:=h.mid
 have hl:=h.len
 have d1:=h.dig (i+1) Oz
 have l2:i+1<(out.set i (w+1000000000)).length:=by rw[bP];omega
 refine⟨by rw[bP,bP];exact hl,fun j hj=>?_,?_,?_⟩
 ·rw[vz Oz]
  by_cases c:i=j
  ·subst c;rw[wq Oz];omega
  ·rw[vz c];exact h.dig j Oz
 ·rw[wq l2];omega
 ·rw[Vv l2,vz Oz,Vv Oz,h.val,yg,show w+1000000000-out.getD i 0=1000000000-lb.getD i 0 by omega,show v-out.getD (i+1) 0 = -1 by omega,Int.pow_succ,Int.mul_sub]
  omega
theorem NI.last{la lb:List Int}{i:Nat}{out:List Int}{w:Int}(h:NI la lb i out)(ha:Dig la)(hb:Dig lb)(hi:i<la.length)(hle:lb.length≤la.length)(hv:zY lb≤zY la)(a:w=out.getD i 0-lb.getD i 0)(h0:w<0):i+1<la.length:=by
 apply cY
 intro c
 have hl:=h.len
 have e1:=yg out i
 have e2:=yg lb i
 rw[qt Oz]at e1 e2
 have hd:Dig (out.take i):=fun x hx=>by
  obtain⟨j,hj,rfl⟩:=List.getElem_of_mem hx
  rw[bU]at hj
  have:=h.dig j Oz
  rw[aC,aE Oz]at this
  rw[List.getElem_take]
  exact this
 have e3:=dv_lim hd (i:=i) (by rw[bU];omega)
 have e4:=h.val
 have e5:=qf ha
 have e6:=qf hb
 have e7:(1000000000:Int) ^ i*out.getD i 0-1000000000 ^ i*lb.getD i 0=1000000000 ^ i*w:=by rw[a,Int.mul_sub]
 have e8:(1000000000:Int) ^ i*w≤1000000000 ^ i*(-1):=Int.mul_le_mul_of_nonneg_left Oz (Int.le_of_lt (powB i))
 omega
theorem set_same{l:List Int}{i:Nat}(h:i<l.length):l.set i (l.getD i 0)=l:=by
 rw[aC,aE h]
 exact List.set_getElem_self h
theorem minusP{la lb:List Int}(ha:Dig la)(hb:Dig lb)(la2:la.length≤2)(h0:0<la.length)(d:lb.length≤la.length)(hv:zY lb≤zY la) :
 ∃l,zbj la lb=some l∧Dig l∧l.length≤2∧zY l=zY la-zY lb:=by
 unfold zbj
 rw[aF Oz,aF (by rw[dB];omega)]
 refine zk la.length (fun i (x:Int×List Int)=>x.1=(i:Int)∧NI la lb i x.2) (fun o=>∃l,o=some l∧Dig l∧l.length≤2∧zY l=zY la-zY lb) Oz ⟨rfl,rfl,fun j _=>ha.at j,by have:=ha.at 0;dsimp only;omega,by simp[dv]⟩ ?_ ?_
 ·rintro i ⟨j,out⟩ g hi ⟨rfl,a⟩ hg
  have a:NI la lb i out:=a
  have hl:=a.len
  have m:=a.mid
  have d2:=hb.at i
  have p:∀x,i<(out.set i x).length:=fun x=>by rw[bP];omega
  have k:i64 ((i:Int)+1)=some ((i+1:Nat):Int):=zp Oz
  dsimp only
  rw[aF (zM hi)]
  have n:∀w,w=out.getD i 0-lb.getD i 0→w<0→i+1<la.length:=fun w=>a.last ha hb hi d hv
  by_cases h:i<lb.length
  ·rw[aF (zM h)]
   obtain⟨w,f⟩:∃w,w=out.getD i 0-lb.getD i 0:=⟨_,rfl⟩
   simp only[xB (show i<out.length by omega),xB h,aA,←f,xZ (show w.natAbs<_ by omega),yT,Int.toNat_natCast,xB (p _),wq (show i<out.length by omega),List.set_set]
   by_cases c:w<0
   ·have b:=n w f c
    have l2:∀x,i+1<(out.set i x).length:=fun x=>by rw[bP];omega
    have q:=a.dig (i+1) Oz
    rw[aF (aH c),xZ Oz,aA]
    simp only[k,aA,xB (l2 _),vz (show i≠i+1 by omega),xZ (show(out.getD (i+1) 0-1).natAbs<_ by omega),Int.toNat_natCast]
    exact hg _ ⟨rfl,a.borrow hb b f c rfl⟩
   ·rw[aD (by rw[aB];exact c),k,aA]
    exact hg _ ⟨rfl,a.stay hb hi f Oz⟩
  ·rw[aD (by rw[aB];omega)]
   have hz:=zcF (l:=lb) (i:=i) Oz
   simp only[xB (show i<out.length by omega),aA,yT,Int.toNat_natCast,xB (p _),List.set_set]
   by_cases c:out.getD i 0<0
   ·have b:=n (out.getD i 0) Oz c
    have l2:∀x,i+1<(out.set i x).length:=fun x=>by rw[bP];omega
    have q:=a.dig (i+1) Oz
    rw[aF (aH c),xZ Oz,aA]
    simp only[k,aA,xB (l2 _),vz (show i≠i+1 by omega),xZ (show(out.getD (i+1) 0-1).natAbs<_ by omega),Int.toNat_natCast]
    exact hg _ ⟨rfl,a.borrow hb b Oz c rfl⟩
   ·rw[aD (by rw[aB];exact c),k,aA]
    have hs:=a.stay hb hi (w:=out.getD i 0) Oz Oz
    rw[set_same Oz]at hs
    exact hg _ ⟨rfl,hs⟩
 ·rintro⟨j,out⟩ g ⟨rfl,a⟩
  have a:NI la lb la.length out:=a
  have hl:=a.len
  dsimp only
  rw[aD Y8]
  have hd:Dig out:=fun x hx=>by
   obtain⟨j,hj,rfl⟩:=List.getElem_of_mem hx
   have:=a.dig j Oz
   rw[aC,aE hj]at this
   exact this
  refine⟨out,rfl,hd,by omega,?_⟩
  have e:=a.val
  rw[qt d,qf ha,qf hb,qf hd]at e
  omega
theorem VE{la lb:List Int}(la3:la.length≤2):Y2 la lb=some (C14.cmpZ la lb):=by
 unfold Y2 C14.cmpZ
 by_cases h1:la.length<lb.length
 ·rw[aF (by rw[aB];omega),aD Y8,aD Y8,aF (zM h1),aF h1]
 by_cases h2:lb.length<la.length
 ·rw[aF (by rw[aB];omega),aD Y8,aD Y8,aD (by rw[aB];omega),aF (zM h2),aD h1,aF h2]
 rw[aD (by rw[aB];omega),aD h1,aD h2,xZ Oz,aA]
 refine zk la.length (fun i (x:Int)=>∃m:Nat,x=(m:Int)-1∧m+i=la.length∧ZZ la lb la.length=ZZ la lb m) (fun o=>o=some (ZZ la lb la.length)) Oz ⟨_,rfl,rfl,rfl⟩ ?_ ?_
 ·rintro i x g hi ⟨m,rfl,a,hn⟩ hg
  obtain⟨k,rfl⟩:∃k,m=k+1:=⟨m-1,by omega⟩
  have e1:((k+1:Nat):Int)-1=(k:Int):=by omega
  rw[e1,aF Y8,hn,ZZ]
  simp only[xB (show k<la.length by omega),xB (show k<lb.length by omega),aA,aB,xZ (show((k:Int)-1).natAbs<_ by omega),ne_eq,not_true_eq_false,cK]
  by_cases c:la.getD k 0=lb.getD k 0
  ·rw[aD (fun x=>x c),aD Oz,aD Oz]
   rw[ZZ,aD Oz,aD Oz]at hn
   have:=hg _ ⟨k,rfl,by omega,hn⟩
   rw[hn]at this
   exact this
  ·rw[aF c]
   split
   ·rfl
   ·rw[aF Oz,aF Oz]
 ·rintro x g ⟨m,rfl,a,hn⟩
  obtain rfl:m=0:=by omega
  rw[aD Y8,hn]
  rfl
theorem zhm{a b:Int}(ha:S18 a)(hb:S18 b):z81 (zG a) (zG b)=some (zG (a+b)):=by
 unfold z81
 have la:=xz ha
 have lb:=xz hb
 have d:=kW a.natAbs
 have f:=kW b.natAbs
 have pos:∀n:Nat,n≠0→0<(dg n).length:=fun n h=>by
  have:(dg n).length≠0:=fun g=>h (dg_len0.mp g)
  omega
 show(if (decide (a<0)==decide (b<0))=true then _ else _)=_
 by_cases h:a<0↔b<0
 ·rw[aF (by simpa using h)]
  show(VV (dg a.natAbs) (dg b.natAbs)).bind _=_
  obtain⟨l,e,hd,hl,hv⟩:=plusP d f Oz Oz
  rw[e,aA,zcj hd Oz,hv,yv,yv]
  refine congrArg (fun x=>some (zG x)) ?_
  exact Xd fun _=>by omega
 ·rw[aD (by simpa using h)]
  show(Y2 (dg a.natAbs) (dg b.natAbs)).bind _=_
  rw[VE Oz,Zm,aA]
  have hc:decide (uM a.natAbs b.natAbs<0)=decide (a.natAbs<b.natAbs):=by
   unfold uM
   split
   ·next c=>simp[c]
   ·next c=>rw[bA c];split<;>rfl
  rw[hc]
  by_cases c:a.natAbs<b.natAbs
  ·rw[aF (aH c)]
   show(zbj (dg b.natAbs) (dg a.natAbs)).bind _=_
   obtain⟨l,e,hd,hl,hv⟩:=minusP f d Oz (pos _ Oz) (zak Oz) (by rw[yv,yv];omega)
   rw[e,aA,zcj hd Oz,hv,yv,yv]
   refine congrArg (fun x=>some (zG x)) ?_
   exact Xd fun _=>by omega
  ·rw[aD (by simpa using c)]
   show(zbj (dg a.natAbs) (dg b.natAbs)).bind _=_
   obtain⟨l,e,hd,hl,hv⟩:=minusP d f Oz (pos _ Oz) (zak Oz) (by rw[yv,yv];omega)
   rw[e,aA,zcj hd Oz,hv,yv,yv]
   refine congrArg (fun x=>some (zG x)) ?_
   exact Xd fun _=>by omega
theorem wQ{n:Nat}(h:n<1000000000000000000)(s:Bool):Q3 s (n:Int)=some (zG (sg s n)):=by
 unfold Q3
 by_cases h0:n=0
 ·subst h0
  rw[aF (by rfl),sg_0,kC]
 rw[aD (by rw[aB];omega),zaG h0]
 by_cases h1:n<1000000000
 ·rw[aF (by rw[aB];omega),Vf h,VA h0 h1]
  rfl
 ·have b:n / 1000000000<1000000000:=by omega
  have a:n / 1000000000≠0:=by omega
  have hr:n % 1000000000<1000000000:=by omega
  have e1:Int.tmod (n:Int) 1000000000=((n % 1000000000:Nat):Int):=rfl
  have e2:Int.tdiv (n:Int) 1000000000=((n / 1000000000:Nat):Int):=rfl
  rw[aD (by rw[aB];omega),aF (by rw[aB];omega),aD Uz,uu h0,VA a b,e1,e2,Vf Oz,aA,aD Uz]
  generalize n / 1000000000=q at *
  rw[uZ,aF Oz,aA,Vf Oz,aA]
theorem KR{n:Int}(hn:S18 n):VU n=some (zG n):=by
 unfold VU
 unfold S18 at hn
 by_cases h:n<0
 ·have e:(0-n % 18446744073709551616) % 18446744073709551616=((n.natAbs:Nat):Int):=by omega
  rw[aH h,aF rfl,e,wQ hn,aA,←aH h,Kv]
 ·have e:n % 18446744073709551616=((n.natAbs:Nat):Int):=by omega
  rw[bA h,aD Uz,e,wQ hn,aA,←bA h,Kv]
end Go.Proofs.YtocnbjjmmgolfaaGreat
