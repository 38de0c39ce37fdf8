/- zJ law of the number packages: loops in general; digits of the reference. -/
import Derived.Test.YtocnbjjmmgolfaaGreatA20
import Derived.Test.YtocnbjjmmgolfaaGreatA12
set_option linter.unusedSimpArgs false
set_option linter.unusedVariables false
set_option linter.unusedSectionVars false
namespace Go.Proofs.YtocnbjjmmgolfaaGreat
open Go Go.M Go.Proofs.C14
theorem ze{σ ρ:Type}(B:(σ→Option ρ)→σ→Option ρ)(k:Nat)(x:σ):zj B (k+1) x=B (zj B k) x:=rfl
theorem zbZ{σ ρ:Type}{B:(σ→Option ρ)→σ→Option ρ}{n:Nat}(I:Nat→σ→Prop)(Q:Option ρ→Prop)
 (hs:∀i x g,i<n→I i x→(∀y,I (i+1) y→Q (g y))→Q (B g x)) (he:∀x g,I n x→Q (B g x)) :
 ∀(m i k:Nat) (x:σ),i+m=n→m<k→I i x→Q (zj B k x)
 |0,i,k+1,x,h,_,a=>by rw[ze];exact he x _ (by obtain rfl:i=n:=h;exact a)
 |m+1,i,k+1,x,h,hk,a=>by rw[ze];exact hs i x _ Oz a fun y b=>zbZ I Q hs he m (i+1) k y Oz Oz b
theorem zk{σ ρ:Type}{B:(σ→Option ρ)→σ→Option ρ}(n:Nat)(I:Nat→σ→Prop)(Q:Option ρ→Prop){k:Nat}{x:σ}(hk:n<k)(h0:I 0 x)
 (hs:∀i x g,i<n→I i x→(∀y,I (i+1) y→Q (g y))→Q (B g x)) (he:∀x g,I n x→Q (B g x)):Q (zj B (zi k) x):=by
 rw[zC]
 exact zbZ I Q hs he n 0 k x Oz hk h0
theorem xW{x:Int}(h:x.natAbs<9000000000000000000):i64 x=some x:=by
 unfold i64
 rw[aG]
 unfold yv
 omega
theorem xf{x:Int}(h:x.natAbs<1000000000):i64 x=some x:=xW Oz
theorem zt{α:Type}{l:List α}{i:Nat}(h:i<l.length):idx l (i:Int)=some l[i]:=by
 unfold idx
 rw[aG Oz,Int.toNat_natCast,aD h]
theorem zN{i n:Nat}(h:i<n):decide ((i:Int)<(n:Int))=true:=aH Oz
theorem zp{i:Nat}(h:i<100000):i64 ((i:Int)+1)=some ((i+1:Nat):Int):=by rw[xf Oz];rfl
theorem yE{α:Type}{l m:List α}(h:l.length+m.length≤60000):app l m=some (l++m):=aG Oz
theorem xy{l:List Int}{i:Nat}(h:i<l.length):idx l (i:Int)=some (l.getD i 0):=by
 rw[zt h,aC,aD h];rfl
def sg(s:Bool)(n:Nat):Int:=if s=true then -(n:Int)else n
abbrev NZ:=Bool×List Int
def zF(n:Int):NZ:=(decide (n<0),dg n.natAbs)
theorem kB:zF 0=(false,[]):=by show(_,dg 0)=_;rw[qA];rfl
theorem zam{s:Bool}{n:Nat}(h:n≠0):zF (sg s n)=(s,dg n):=by
 unfold zF sg
 cases s<;>simp<;>omega
theorem sg_0(s:Bool):sg s 0=0:=by unfold sg;cases s<;>rfl
theorem Q6(n:Int):sg (decide (n<0)) n.natAbs=n:=by
 unfold sg
 split
 ·next h=>have:=dR h;omega
 ·next h=>have:¬n<0:=(fun g=>h (aH g));omega
theorem zbl(n:Nat):sg false n=n:=rfl
theorem Y4{a n:Int}{k:Nat}(h:True→(a<0∧n = -(k:Int))∨(0≤a∧n=k)):sg (decide (a<0)) k=n:=by
 unfold sg
 rcases h trivial with⟨h1,h2⟩|⟨h1,h2⟩
 ·rw[aG (aH h1),h2]
 ·rw[aE (by simp;omega),h2]
theorem nrm_end{l:List Int}(h:Dig l)(s:Bool){m:Nat}(a:jX l l.length=m) :
 (if decide ((m:Int)=0)=true then some (false,[])else(xh l 0 (m:Int)).bind fun b=>some (s,b))=some (zF (sg s (zX l))):=by
 have e:=VZ h
 rw[a]at e
 have h0:=nlen0 h
 rw[a]at h0
 by_cases c:m=0
 ·rw[aG (by simp[c]),h0.mp c,sg_0,kB]
 ·have hl:=JW l l.length
  rw[aE (by simp[c]),xh,aG Oz,aA,zam (fun x=>c (h0.mpr x)),←e]
  simp
theorem Zx{l:List Int}(h:Dig l)(hl:l.length≤5)(s:Bool):jm s l=some (zF (sg s (zX l))):=by
 unfold jm
 refine zk l.length (fun i (x:Int)=>∃m:Nat,x=m∧m+i=l.length∧jX l l.length=jX l m) (fun o=>o=some (zF (sg s (zX l)))) Oz ⟨_,rfl,rfl,rfl⟩ ?_ ?_
 ·rintro i x g hi ⟨m,rfl,a,hn⟩ hg
  obtain⟨k,rfl⟩:∃k,m=k+1:=⟨m-1,by omega⟩
  have e1:((k+1:Nat):Int)-1=(k:Int):=by omega
  rw[aG Y8,e1,xW Oz,aA,show max (k:Int) 0=k by omega,xy Oz,aA]
  rw[jX]at hn
  split
  ·next c=>rw[aG (by simpa using c)]at hn;exact hg _ ⟨k,rfl,by omega,hn⟩
  ·next c=>rw[aE (by simpa using c)]at hn;exact nrm_end h s hn
 ·rintro x g ⟨m,rfl,a,hn⟩
  obtain rfl:m=0:=by omega
  rw[aE Y8]
  exact nrm_end h s (m:=0) hn
theorem YM(l:List Int)(i:Nat):ZZ l (i:Int)=some (l.getD i 0):=by
 unfold ZZ
 by_cases h:i<l.length
 ·rw[aG (zN h),xy h];rfl
 ·rw[aE (by simp;omega),aC,cT Oz];rfl
theorem tm9{w:Int}(h:0≤w):Int.tmod w 1000000000=w % 1000000000:=Int.tmod_eq_emod_of_nonneg h
theorem td9{w:Int}(h:0≤w):Int.tdiv w 1000000000=w / 1000000000:=dH h
theorem dv_lim{l:List Int}{i:Nat}(h:Dig l)(g:l.length≤i):dv l<1000000000 ^ i:=by
 have h1:=dv_lt h
 have h2:(1000000000:Nat) ^ l.length≤1000000000 ^ i:=Nat.pow_le_pow_right Uz g
 have a:((1000000000 ^ l.length:Nat):Int)≤((1000000000 ^ i:Nat):Int):=by omega
 rw[Int.natCast_pow,Int.natCast_pow]at a
 exact Int.lt_of_lt_of_le h1 a
theorem plus_ok{la lb:List Int}(ha:Dig la)(hb:Dig lb)(la3:la.length≤3)(lb3:lb.length≤3) :
 ∃l,z168 la lb=some l∧Dig l∧l.length≤4∧zX l=zX la+zX lb:=by
 unfold z168
 obtain⟨N,hN⟩:∃N,N=max la.length lb.length:=⟨_,rfl⟩
 have fin:∀l,Dig l→dv l=dv la+dv lb→zX l=zX la+zX lb:=by
  intro l h e
  rw[qd h,qd ha,qd hb]at e
  omega
 refine zk (N+1) (fun i (x:Int×Int×List Int)=>x.2.1=(i:Int)∧x.2.2.length=i∧Dig x.2.2∧0≤x.1∧x.1≤1∧(N<i→x.1=0)∧dv x.2.2+1000000000 ^ i*x.1=dv (la.take i)+dv (lb.take i)) (fun o=>∃l,o=some l∧Dig l∧l.length≤4∧zX l=zX la+zX lb) Oz ⟨rfl,rfl,Dig.nil,by decide,by decide,by omega,rfl⟩ ?_ ?_
 ·rintro i ⟨c,j,out⟩ g hi ⟨rfl,hl,hd,c0,c1,d,hv⟩ hg
  dsimp only at hl hd c0 c1 d hv ⊢
  have d1:=ha.at i
  have d2:=hb.at i
  obtain⟨w,k⟩:∃w,w=la.getD i 0+lb.getD i 0+c:=⟨_,rfl⟩
  have f:=hg (w / 1000000000,((i+1:Nat):Int),out++[w % 1000000000]) ⟨rfl,by simp[hl],hd.app (Dig.one Oz Oz),by dsimp only;omega,by dsimp only;omega,?_,?_⟩
  ·simp only[YM,aA,xW (show(la.getD i 0+lb.getD i 0).natAbs<_ by omega),←k,xW (show w.natAbs<_ by omega),tm9 (show 0≤w by omega),td9 (show 0≤w by omega),yE (show out.length+[w % 1000000000].length≤60000 by simp;omega),xW (show(w / 1000000000).natAbs<_ by omega),zp (show i<100000 by omega),aE (show ¬(1000000000:Int)=0 by decide)]
   split
   ·exact f
   ·split
    ·exact f
    ·split
     ·exact f
     ·next a b e=>
      have a:la.length≤i:=by simp at a;omega
      have b:lb.length≤i:=by simp at b;omega
      have e:c=0:=by simp at e;omega
      rw[qq a,qq b,e]at hv
      exact⟨out,rfl,hd,by omega,fin _ hd Oz⟩
  ·intro h
   dsimp only
   have z1:la.getD i 0=0:=by rw[aC,cT Oz];rfl
   have z2:lb.getD i 0=0:=by rw[aC,cT Oz];rfl
   omega
  ·dsimp only
   rw[zao,hl,yg,yg,Int.pow_succ]
   have:=zbb hv k
   rw[Int.mul_add]at this
   omega
 ·rintro⟨c,j,out⟩ g ⟨rfl,hl,hd,c0,c1,d,hv⟩
  dsimp only at hl hd c0 c1 d hv ⊢
  rw[aE (by simp;omega),aE (by simp;omega),aE (by simp;omega)]
  rw[qq Oz,qq Oz,d Oz]at hv
  exact⟨out,rfl,hd,by omega,fin _ hd Oz⟩
theorem zbV{la lb:List Int}(ha:Dig la)(hb:Dig lb)(la3:la.length≤3)(hle:lb.length≤la.length)(hv:zX lb≤zX la) :
 ∃l,zaM la lb=some l∧Dig l∧l.length≤3∧zX l=zX la-zX lb:=by
 unfold zaM
 have e1:=qd ha
 have e2:=qd hb
 refine zk la.length (fun i (x:Int×Int×List Int)=>x.2.1=(i:Int)∧x.2.2.length=i∧Dig x.2.2∧0≤x.1∧x.1≤1∧dv x.2.2-1000000000 ^ i*x.1=dv (la.take i)-dv (lb.take i)) (fun o=>∃l,o=some l∧Dig l∧l.length≤3∧zX l=zX la-zX lb) Oz ⟨rfl,rfl,Dig.nil,by decide,by decide,rfl⟩ ?_ ?_
 ·rintro i ⟨c,j,out⟩ g hi ⟨rfl,hl,hd,c0,c1,hv⟩ hg
  dsimp only at hl hd c0 c1 hv ⊢
  have d1:=ha.at i
  have d2:=hb.at i
  obtain⟨w,b⟩:∃w,w=la.getD i 0-lb.getD i 0-c:=⟨_,rfl⟩
  rw[aG (zN hi)]
  simp only[xy hi,YM,aA,xW (show(la.getD i 0-lb.getD i 0).natAbs<_ by omega),←b,xW (show w.natAbs<_ by omega),xW (show(w+1000000000).natAbs<_ by omega),yE (show out.length+[w+1000000000].length≤60000 by simp;omega),yE (show out.length+[w].length≤60000 by simp;omega),zp (show i<100000 by omega)]
  split
  ·next h=>
   have h:=dR h
   refine hg _ ⟨rfl,by simp[hl],hd.app (Dig.one Oz Oz),by simp,by simp,?_⟩
   dsimp only
   rw[zao,hl,yg,yg,Int.pow_succ,b]
   simp only[Int.mul_add,Int.mul_sub]
   omega
  ·next h=>
   have h:¬w<0:=fun x=>h (aH x)
   refine hg _ ⟨rfl,by simp[hl],hd.app (Dig.one Oz Oz),by simp,by simp,?_⟩
   dsimp only
   rw[zao,hl,yg,yg,Int.pow_succ,b]
   simp only[Int.mul_add,Int.mul_sub]
   omega
 ·rintro⟨c,j,out⟩ g ⟨rfl,hl,hd,c0,c1,a⟩
  dsimp only at hl hd c0 c1 a ⊢
  rw[aE Y8]
  rw[bB,qq Oz]at a
  have:=dv_lim hd (Nat.le_of_eq hl)
  have hc:c=0:=by
   rcases(show c=0∨c=1 by omega)with h|h
   ·exact h
   ·rw[h]at a;omega
  rw[hc]at a
  have e3:=qd hd
  exact⟨out,rfl,hd,by omega,by omega⟩
theorem gh{la lb:List Int}(la3:la.length≤3):Jq la lb=some (C14.cmpZ la lb):=by
 unfold Jq C14.cmpZ
 by_cases h1:la.length<lb.length
 ·rw[aG (zN h1),aG h1]
 rw[aE (by simp;omega),aE h1]
 by_cases h2:lb.length<la.length
 ·rw[aG (zN h2),aG h2]
 rw[aE (by simp;omega),aE h2,xW Oz,aA]
 refine zk la.length (fun i (x:Int)=>∃m:Nat,x=(m:Int)-1∧m+i=la.length∧ZO la lb la.length=ZO la lb m) (fun o=>o=some (ZO la lb la.length)) Oz ⟨_,rfl,rfl,rfl⟩ ?_ ?_
 ·rintro i x g hi ⟨m,rfl,c,hn⟩ hg
  obtain⟨k,rfl⟩:∃k,m=k+1:=⟨m-1,by omega⟩
  have e1:((k+1:Nat):Int)-1=(k:Int):=by omega
  rw[e1,aG Y8,hn,ZO]
  simp only[xy (show k<la.length by omega),xy (show k<lb.length by omega),aA,aB,xW (show((k:Int)-1).natAbs<_ by omega)]
  split
  ·rfl
  ·split
   ·rfl
   ·next a b=>
    rw[ZO,aE a,aE b]at hn
    have:=hg _ ⟨k,rfl,by omega,hn⟩
    rw[hn]at this
    exact this
 ·rintro x g ⟨m,rfl,c,hn⟩
  obtain rfl:m=0:=by omega
  rw[aE Y8,hn]
  rfl
theorem J1{m n:Nat}(h:m≤n):(dg m).length≤(dg n).length:=by
 apply cX
 intro c
 have:=Xp (m:=n) (n:=m) Oz
 omega
abbrev S18(n:Int):Prop:=n.natAbs<1000000000000000000
theorem add_ok{a b:Int}(ha:S18 a)(hb:S18 b):z96 (zF a) (zF b)=some (zF (a+b)):=by
 unfold z96
 have la:=xr ha
 have lb:=xr hb
 have d:=kU a.natAbs
 have f:=kU b.natAbs
 show(if (decide (a<0)==decide (b<0))=true then _ else _)=_
 by_cases h:a<0↔b<0
 ·rw[aG (by simpa using h)]
  show(z168 (dg a.natAbs) (dg b.natAbs)).bind _=_
  obtain⟨l,e,hd,hl,hv⟩:=plus_ok d f Oz Oz
  rw[e,aA,Zx hd Oz,hv,yu,yu]
  refine congrArg (fun x=>some (zF x)) ?_
  exact Y4 fun _=>by omega
 ·rw[aE (by simpa using h)]
  show(Jq (dg a.natAbs) (dg b.natAbs)).bind _=_
  rw[gh Oz,gR,aA]
  have hc:decide (uG a.natAbs b.natAbs<0)=decide (a.natAbs<b.natAbs):=by
   unfold uG
   split
   ·next c=>simp[c]
   ·next c=>rw[aZ c];split<;>rfl
  rw[hc]
  by_cases c:a.natAbs<b.natAbs
  ·rw[aG (aH c)]
   show(zaM (dg b.natAbs) (dg a.natAbs)).bind _=_
   obtain⟨l,e,hd,hl,hv⟩:=zbV f d Oz (J1 Oz) (by rw[yu,yu];omega)
   rw[e,aA,Zx hd Oz,hv,yu,yu]
   refine congrArg (fun x=>some (zF x)) ?_
   exact Y4 fun _=>by omega
  ·rw[aE (by simpa using c)]
   show(zaM (dg a.natAbs) (dg b.natAbs)).bind _=_
   obtain⟨l,e,hd,hl,hv⟩:=zbV d f Oz (J1 Oz) (by rw[yu,yu];omega)
   rw[e,aA,Zx hd Oz,hv,yu,yu]
   refine congrArg (fun x=>some (zF x)) ?_
   exact Y4 fun _=>by omega
structure MI(la lb:List Int)(i k:Nat)(c:Int)(out:List Int):Prop where
 len:out.length=la.length+lb.length
 dig:Dig out
 c0:0≤c
 c1:c<1000000000
 val:dv out+1000000000 ^ (i+k)*c=dv (la.take i)*dv lb+1000000000 ^ i*(la.getD i 0*dv (lb.take k))
 zer:∀j,i+lb.length≤j→out.getD j 0=0
theorem vx{l:List Int}{k j:Nat}{x:Int}(h:k≠j):(l.set k x).getD j 0=l.getD j 0:=by
 rw[aC,aC,List.getElem?_set_ne h]
theorem wm{l:List Int}{k:Nat}{x:Int}(h:k<l.length):(l.set k x).getD k 0=x:=by
 rw[aC,List.getElem?_set_self h];rfl
theorem MI.start(la lb:List Int):MI la lb 0 0 0 (List.replicate (la.length+lb.length) 0):=
 ⟨dC,Jb _,by decide,by decide,by rw[dv_zeros];simp[dv],fun j _=>by rw[aC,List.getElem?_replicate];split<;>rfl⟩
theorem MI.w{la lb:List Int}{i k:Nat}{c:Int}{out:List Int}(h:MI la lb i k c out)(ha:Dig la)(hb:Dig lb):0≤la.getD i 0*lb.getD k 0∧la.getD i 0*lb.getD k 0≤999999999*999999999∧0≤out.getD (i+k) 0∧out.getD (i+k) 0<1000000000:=by
 have b:=ha.at i
 have a:=hb.at k
 have d:=h.dig.at (i+k)
 exact⟨Int.mul_nonneg b.1 a.1,Int.mul_le_mul Oz Oz a.1 Uz,d⟩
theorem MI.step{la lb:List Int}{i k:Nat}{c w:Int}{out:List Int}(h:MI la lb i k c out)(ha:Dig la)(hb:Dig lb)(hi:i<la.length)(hk:k<lb.length)(hw:w=out.getD (i+k) 0+la.getD i 0*lb.getD k 0+c) :
 MI la lb i (k+1) (w / 1000000000) (out.set (i+k) (w % 1000000000)):=by
 obtain⟨w0,w1,o0,o1⟩:=h.w ha hb (i:=i) (k:=k)
 have c0:=h.c0
 have c1:=h.c1
 refine⟨by rw[bP];exact h.len,h.dig.set Oz Oz,by omega,by omega,?_,fun j hj=>by rw[vx Oz];exact h.zer j hj⟩
 rw[Vg (by rw[h.len];omega),yg,←Nat.add_assoc,Int.pow_succ]
 have e:=zbb (P:=1000000000 ^ (i+k)) (A:=dv out-1000000000 ^ (i+k)*out.getD (i+k) 0) (c:=c+out.getD (i+k) 0) (x:=la.getD i 0*lb.getD k 0) (w:=w) rfl Oz
 have hv:=h.val
 have e2:(1000000000:Int) ^ i*(la.getD i 0*(dv (lb.take k)+1000000000 ^ k*lb.getD k 0))=1000000000 ^ i*(la.getD i 0*dv (lb.take k))+1000000000 ^ (i+k)*(la.getD i 0*lb.getD k 0):=by
  rw[Int.mul_add,Int.mul_add,Int.pow_add]
  congr 1
  ac_rfl
 rw[e2]
 rw[Int.mul_add]at e
 rw[Int.mul_sub]
 omega
theorem MI.next{la lb:List Int}{i:Nat}{c:Int}{out:List Int}(h:MI la lb i lb.length c out)(hi:i<la.length):MI la lb (i+1) 0 0 (out.set (i+lb.length) c):=by
 have hv:=h.val
 have hl:=h.len
 refine⟨by rw[bP];exact h.len,h.dig.set h.c0 h.c1,by decide,by decide,?_,fun j hj=>by rw[vx Oz];exact h.zer j Oz⟩
 rw[Vg Oz,h.zer _ (aM _),List.take_zero,show dv []=0 from rfl,Int.mul_zero,Int.mul_zero,Int.mul_zero,yg,Int.add_mul,Int.mul_assoc,Int.sub_zero]
 rw[bB]at hv
 omega
theorem MI.fin{la lb:List Int}{out:List Int}(h:MI la lb la.length 0 0 out)(ha:Dig la)(hb:Dig lb):zX out=zX la*zX lb:=by
 have hv:=h.val
 rw[bB,List.take_zero,show dv []=0 from rfl,Int.mul_zero,Int.mul_zero,Int.mul_zero,Int.add_zero,Int.add_zero,qd h.dig,qd ha,qd hb,←Int.natCast_mul]at hv
 omega
theorem mul_ok{la lb:List Int}(ha:Dig la)(hb:Dig lb)(la2:la.length≤2)(lb2:lb.length≤2)(s t:Bool) :
 z94 (s,la) (t,lb)=some (zF (sg (!(s==t)) (zX la*zX lb))):=by
 unfold z94
 dsimp only
 have f:(la.length:Int)+(lb.length:Int)=((la.length+lb.length:Nat):Int):=by omega
 rw[f,xW Oz,aA,aG Oz,Int.toNat_natCast]
 refine zk la.length (fun i (x:Int×List Int)=>x.1=(i:Int)∧MI la lb i 0 0 x.2) (fun o=>o=some (zF (sg (!(s==t)) (zX la*zX lb)))) Oz ⟨rfl,MI.start la lb⟩ ?_ ?_
 ·rintro i ⟨x,out⟩ g hi ⟨rfl,b⟩ hg
  have b:MI la lb i 0 0 out:=b
  dsimp only
  rw[aG (zN hi)]
  refine zk lb.length (fun k (y:Int×Int×List Int)=>y.2.1=(k:Int)∧MI la lb i k y.1 y.2.2) (fun o=>o=some (zF (sg (!(s==t)) (zX la*zX lb)))) Oz ⟨rfl,b⟩ ?_ ?_
  ·rintro k ⟨c,y,o⟩ h hk ⟨rfl,a⟩ d
   have a:MI la lb i k c o:=a
   obtain⟨w,e⟩:∃w,w=o.getD (i+k) 0+la.getD i 0*lb.getD k 0+c:=⟨_,rfl⟩
   obtain⟨w0,w1,o0,o1⟩:=a.w ha hb
   have c0:=a.c0
   have c1:=a.c1
   have hl:=a.len
   have e1:(i:Int)+(k:Int)=((i+k:Nat):Int):=by omega
   have j:=d (w / 1000000000,((k+1:Nat):Int),o.set (i+k) (w % 1000000000)) ⟨rfl,a.step ha hb hi hk e⟩
   dsimp only
   rw[aG (zN hk),e1]
   simp only[xW (show((i+k:Nat):Int).natAbs<_ by omega),aA,xy (show i+k<o.length by omega),xy hi,xy hk,xW (show(la.getD i 0*lb.getD k 0).natAbs<_ by omega),xW (show(o.getD (i+k) 0+la.getD i 0*lb.getD k 0).natAbs<_ by omega),←e,xW (show w.natAbs<_ by omega),aE (show ¬(1000000000:Int)=0 by decide),tm9 (show 0≤w by omega),td9 (show 0≤w by omega),xW (show(w / 1000000000).natAbs<_ by omega),zp (show k<100000 by omega),yR,Int.toNat_natCast]
   exact j
  ·rintro⟨c,y,o⟩ h ⟨rfl,a⟩
   have a:MI la lb i lb.length c o:=a
   have hl:=a.len
   have e1:(i:Int)+(lb.length:Int)=((i+lb.length:Nat):Int):=by omega
   dsimp only
   rw[aE Y8,e1]
   simp only[xW (show((i+lb.length:Nat):Int).natAbs<_ by omega),aA,xy (show i+lb.length<o.length by omega),zp (show i<100000 by omega),yR,Int.toNat_natCast]
   exact hg _ ⟨rfl,a.next hi⟩
 ·rintro⟨x,out⟩ g ⟨rfl,b⟩
  have b:MI la lb la.length 0 0 out:=b
  have hl:=b.len
  dsimp only
  rw[aE Y8,Zx b.dig Oz,b.fin ha hb]
  rfl
theorem sg_mul(a b:Int):sg (!(decide (a<0)==decide (b<0))) (a.natAbs*b.natAbs)=a*b:=by
 have e:((a.natAbs*b.natAbs:Nat):Int)=(a.natAbs:Int)*(b.natAbs:Int):=Int.natCast_mul ..
 unfold sg
 rw[e]
 by_cases ha:a<0<;>by_cases hb:b<0<;>simp only[ha,hb,decide_true,dP,eE,Bool.not_false,beq_self_eq_true,dO,cK,show(true==false)=false from rfl,show(false==true)=false from rfl,aW]
 ·rw[Int.ofNat_natAbs_of_nonpos Oz,Int.ofNat_natAbs_of_nonpos Oz,Int.neg_mul_neg]
 ·rw[Int.ofNat_natAbs_of_nonpos Oz,Int.natAbs_of_nonneg Oz,Int.neg_mul,Int.neg_neg]
 ·rw[Int.natAbs_of_nonneg Oz,Int.ofNat_natAbs_of_nonpos Oz,Int.mul_neg,Int.neg_neg]
 ·rw[Int.natAbs_of_nonneg Oz,Int.natAbs_of_nonneg Oz]
theorem j4{a b:Int}(ha:S18 a)(hb:S18 b):z94 (zF a) (zF b)=some (zF (a*b)):=by
 have:=mul_ok (kU a.natAbs) (kU b.natAbs) (xr ha) (xr hb) (decide (a<0)) (decide (b<0))
 rw[yu,yu,sg_mul]at this
 exact this
theorem Xf{n:Int}(hn:S18 n):z59 n=some (zF n):=by
 unfold z59
 refine zk 2 (fun i (x:Int×List Int)=>x.2.length=i∧Dig x.2∧x.1.natAbs<1000000000 ^ (2-i)∧zX x.2+1000000000 ^ i*x.1.natAbs=n.natAbs) (fun o=>o=some (zF n)) Uz ⟨rfl,Dig.nil,hn,by simp[zX]⟩ ?_ ?_
 ·rintro i ⟨x,out⟩ g hi ⟨hl,hd,hx,hv⟩ hg
  dsimp only at hl hd hx hv ⊢
  have hx2:x.natAbs<1000000000000000000:=bI hx (by rcases(show i=0∨i=1 by omega)with rfl|rfl<;>decide)
  by_cases h0:x=0
  ·rw[aE (by simp[h0]),Zx hd Oz]
   rw[h0,Int.natAbs_zero,Nat.mul_zero,bK]at hv
   rw[hv,Q6]
   rfl
  ·rw[aG (by simp[h0])]
   have m1:=Int.natAbs_tmod x 1000000000
   have b:(Int.tdiv x 1000000000).natAbs=x.natAbs / 1000000000:=Int.natAbs_tdiv x 1000000000
   have m1:(Int.tmod x 1000000000).natAbs=x.natAbs % 1000000000:=m1
   have a:∀k:Int,k=((x.natAbs % 1000000000:Nat):Int)→g (Int.tdiv x 1000000000,out++[k])=some (zF n):=by
    rintro k rfl
    refine hg _ ⟨by simp[hl],hd.app (Dig.one Oz Oz),?_,?_⟩
    ·show(Int.tdiv x 1000000000).natAbs<_
     rw[b]
     rcases(show i=0∨i=1 by omega)with rfl|rfl
     ·have:x.natAbs<1000000000 ^ 2:=hx
      show _<1000000000 ^ 1
      omega
     ·have:x.natAbs<1000000000 ^ 1:=hx
      show _<1000000000 ^ 0
      omega
    ·show zX (out++[_])+1000000000 ^ (i+1)*(Int.tdiv x 1000000000).natAbs=_
     rw[b,Vf,hl,Nat.pow_succ,show zX [((x.natAbs % 1000000000:Nat):Int)]=x.natAbs % 1000000000 from(show(((x.natAbs % 1000000000:Nat):Int)).toNat+1000000000*0=_ by omega),Nat.mul_assoc,Nat.add_assoc,←Nat.mul_add,Nat.mod_add_div]
     exact hv
   have i64a:i64 (Int.tdiv x 1000000000)=some (Int.tdiv x 1000000000):=xW Oz
   have i64b:i64 (0-Int.tmod x 1000000000)=some (0-Int.tmod x 1000000000):=xW Oz
   rw[aE Uz]
   by_cases h:Int.tmod x 1000000000<0
   ·rw[aG (aH h),i64b,aA,yE (by simp;omega),aA,aE Uz,i64a,aA]
    exact a _ Oz
   ·rw[aE (by simpa using h),yE (by simp;omega),aA,aE Uz,i64a,aA]
    exact a _ Oz
 ·rintro⟨x,out⟩ g ⟨hl,hd,hx,hv⟩
  dsimp only at hl hd hx hv ⊢
  have h0:x=0:=by
   have:x.natAbs<1000000000 ^ 0:=hx
   omega
  rw[aE (by simp[h0]),Zx hd Oz]
  rw[h0,Int.natAbs_zero,Nat.mul_zero,bK]at hv
  rw[hv,Q6]
  rfl
theorem Vj{m:Nat}(h:m<1000000000000000000):(m=0∧dg m=[])∨(m≠0∧m / 1000000000=0∧dg m=[((m % 1000000000:Nat):Int)])∨(m / 1000000000≠0∧dg m=[((m % 1000000000:Nat):Int),((m / 1000000000:Nat):Int)]):=by
 by_cases h0:m=0
 ·exact .inl ⟨h0,dg_nil.mpr h0⟩
 ·by_cases h1:m / 1000000000=0
  ·exact .inr (.inl ⟨h0,h1,by rw[uj h0,dg_nil.mpr h1]⟩)
  ·refine .inr (.inr ⟨h1,?_⟩)
   rw[uj h0,Vk h1 Oz]
theorem dg_getD{m:Nat}(h:m<1000000000000000000):(dg m).getD 0 0=((m % 1000000000:Nat):Int)∧(dg m).getD 1 0=((m / 1000000000:Nat):Int):=by
 rcases Vj h with⟨h0,e⟩|⟨h0,h1,e⟩|⟨h1,e⟩
 ·rw[e,h0];exact⟨rfl,rfl⟩
 ·rw[e,h1];exact⟨rfl,rfl⟩
 ·rw[e];exact⟨rfl,rfl⟩
theorem Qp{m:Nat}(h:m<1000000000000000000):Jp (dg m)=some (m:Int):=by
 unfold Jp
 obtain⟨c,e1⟩:=dg_getD h
 have h0:=YM (dg m) 0
 have h1:=YM (dg m) 1
 rw[c]at h0
 rw[e1]at h1
 have h2:((m % 1000000000:Nat):Int)+1000000000*((m / 1000000000:Nat):Int)=m:=by omega
 have h3:((m / 1000000000:Nat):Int).natAbs<1000000000:=by omega
 have h4:((m % 1000000000:Nat):Int).natAbs<1000000000:=by omega
 generalize ((m % 1000000000:Nat):Int)=a at *
 generalize ((m / 1000000000:Nat):Int)=b at *
 have h0:ZZ (dg m) 0=some a:=h0
 have h1:ZZ (dg m) 1=some b:=h1
 rw[h1,aA,xW (x:=b*1000000000) Oz,aA,h0,aA,xW (x:=b*1000000000+a) Oz,aA,←h2]
 congr 1
 omega
theorem s18{n:Nat}(h:n<1000000000000000000):S18 (n:Int):=by show Int.natAbs n<_;rw[Int.natAbs_natCast];exact h
theorem KZ{n:Nat}(h:n<1000000000000000000):i64 (n:Int)=some (n:Int):=xW (by rw[Int.natAbs_natCast];omega)
theorem xX(n:Nat):zF (n:Int)=(false,dg n):=by
 unfold zF
 rw[Int.natAbs_natCast,aZ Oz]
theorem zeN{m n:Nat}(a:m<1000000000000000000)(hn:n<1000000000000000000)(h0:n≠0):z190 (dg m) (dg n)=some (dg (m / n),dg (m % n)):=by
 unfold z190
 have l1:=xr a
 have l2:=xr hn
 have b:m / n<1000000000000000000:=cA (Nat.div_le_self m n) a
 have e:m % n<1000000000000000000:=cA (Nat.mod_le m n) a
 have c:Int.tdiv (m:Int) (n:Int)=((m / n:Nat):Int):=rfl
 have d:Int.tmod (m:Int) (n:Int)=((m % n:Nat):Int):=rfl
 rw[aG (by simp;omega),aG (by simp;omega),Qp a,aA,Qp hn,aA,aE Oz,c,KZ b,aA,Xf (s18 b),aA,aA,aA,aE Oz,d,Xf (s18 e),aA,xX,xX]
theorem KF(m:Nat)(h:m<1000000000000000000)(s:Bool):jm s (dg m)=some (zF (sg s m)):=by
 rw[Zx (kU m) (by have:=xr h;omega),yu]
theorem sg_div{a g:Int}(hg:0<g)(hd:g∣a):sg (!(decide (a<0)==decide (g<0))) (a.natAbs / g.natAbs)=a / g:=by
 obtain⟨k,rfl⟩:=hd
 rw[eO,Nat.mul_div_cancel_left _ Oz,Int.mul_ediv_cancel_left _ Oz]
 have e:decide (g<0)=false:=by simp;omega
 have e2:decide (g*k<0)=decide (k<0):=by
  rw[decide_eq_decide]
  refine⟨fun h=>?_,fun h=>Int.mul_neg_of_pos_of_neg hg h⟩
  apply cX
  intro c
  have:=Int.mul_nonneg (Int.le_of_lt hg) (show 0≤k by omega)
  omega
 rw[e,e2,show(!(decide (k<0)==false))=decide (k<0)by cases decide (k<0)<;>rfl]
 exact Q6 k
theorem div_ok{a g:Int}(ha:S18 a)(hg:0<g)(b:S18 g)(hd:g∣a):zdz (zF a) (zF g)=some (zF (a / g),zF 0):=by
 unfold zdz
 have c:a.natAbs % g.natAbs=0:=Nat.mod_eq_zero_of_dvd (Int.natAbs_dvd_natAbs.mpr hd)
 have hq:a.natAbs / g.natAbs≤a.natAbs:=Nat.div_le_self ..
 have d:¬(decide (((zF g).2.length:Int)=0))=true:=by
  have:(zF g).2.length≠0:=fun h=>by have:=dg_len0.mp h;omega
  rw[aB];omega
 rw[aE d,show z190 (zF a).2 (zF g).2=_ from zeN ha b Oz,aA,c,KF _ Oz,aA,KF 0 Uz,aA,sg_0]
 show(if decide (a<0)=true then _ else _)=_
 have hs:sg (!((zF a).1==(zF g).1)) (a.natAbs / g.natAbs)=a / g:=sg_div hg hd
 rw[hs]
 have:¬decide (0<((zF 0).2.length:Int))=true:=by rw[kB];decide
 rw[aE this]
 split<;>rfl
theorem zcp(m n:Nat):Nat.gcd m n=Nat.gcd n (m % n):=by rw[Nat.gcd_comm m n,Nat.gcd_rec n m,Nat.gcd_comm]
theorem zeD{ρ:Type}{B:(Int×Int→Option ρ)→Int×Int→Option ρ}(E:Int→Option ρ)(h0:∀g m,B g (m,0)=E m)(h1:∀g (m n:Nat),n≠0→B g ((m:Int),(n:Int))=g ((n:Int),((m % n:Nat):Int))) :
 ∀(j m n k:Nat),n<2 ^ j→2*j<k→zj B k ((m:Int),(n:Int))=E (Nat.gcd m n:Nat)
 |0,m,n,k+1,hn,_=>by
  obtain rfl:n=0:=by have:n<1:=hn;omega
  rw[ze,Nat.gcd_zero_right]
  exact h0 _ _
 |j+1,m,n,k+2,hn,hk=>by
  by_cases a:n=0
  ·subst a
   rw[ze,Nat.gcd_zero_right]
   exact h0 _ _
  rw[ze,h1 _ _ _ a,ze,zcp m n]
  have d:=Nat.mod_lt m (show 0<n by omega)
  generalize m % n=r at d
  by_cases b:r=0
  ·subst b
   rw[Nat.gcd_zero_right]
   exact h0 _ _
  rw[h1 _ _ _ b,zcp n r]
  refine zeD E h0 h1 j r (n % r) k ?_ Oz
  have h2:=Nat.mod_lt n (show 0<r by omega)
  have h3:=Nat.div_add_mod n r
  have c:1≤n / r:=Nat.div_pos Oz Oz
  have h5:r*1≤r*(n / r):=bV r c
  rw[Nat.pow_succ]at hn
  omega
 |0,_,_,0,_,h=>by omega
 |j+1,_,_,0,_,h=>by omega
 |j+1,_,_,1,_,h=>by omega
theorem QE{m n:Nat}(hn:n<1000000000000000000)(h:n≠0):Nat.gcd m n<1000000000000000000:=cA (Nat.gcd_le_right m Oz) hn
theorem gcd_ok{a b:Int}(ha:S18 a)(hb:S18 b)(h0:b≠0):z112 (zF a) (zF b)=some (zF (Nat.gcd a.natAbs b.natAbs:Nat)):=by
 unfold z112
 rw[show jm false (zF a).2=_ from KF a.natAbs ha false,show jm false (zF b).2=_ from KF b.natAbs hb false,aA,aA,zbl,zbl,xX,xX,zC 2,ze]
 have l1:=xr ha
 have l2:=xr hb
 have l0:(dg b.natAbs).length≠0:=fun h=>by have:=dg_len0.mp h;omega
 have hg:=QE (m:=a.natAbs) hb Oz
 dsimp only
 rw[aG (by rw[aB];omega),aG (by rw[aB];omega),aG (by rw[aB];omega),Qp ha,aA,Qp hb,aA,zC 130]
 rw[zeD (fun x=>(z59 x).bind fun c=>some c) (fun g m=>aE Y8) (fun g m n hn=>by rw[aG (by rw[aB];show(0:Int)<n;omega),aE (by show ¬(n:Int)=0;omega)];rfl) 60 a.natAbs b.natAbs 130 (Nat.lt_trans hb Uz) Uz]
 rw[Xf (s18 hg)]
 rfl
theorem JQ{n:Int}(hn:S18 n):zaQ (zF n)=some (decide (n=1)):=by
 unfold zaQ
 show(if decide (n<0)=true then _ else(if decide (((dg n.natAbs).length:Int)≠1)=true then _ else(idx (dg n.natAbs) 0).bind _))=_
 by_cases h:n<0
 ·rw[aG (aH h),aZ Oz]
 rw[aE (by rw[aB];exact h)]
 rcases Vj hn with⟨h0,e⟩|⟨h0,h1,e⟩|⟨h1,e⟩<;>rw[e]
 ·rw[aG Uz,aZ Oz]
 ·rw[aE Y8,show idx [((n.natAbs % 1000000000:Nat):Int)] 0=some ((n.natAbs % 1000000000:Nat):Int)from rfl,aA]
  congr 1
  rw[decide_eq_decide]
  omega
 ·rw[aG Y8,aZ Oz]
theorem zed{n:Int}(hn:S18 n):z97 (zF n)=some (zF (-n)):=by
 unfold z97
 rw[show jm (!(zF n).1) (zF n).2=_ from KF n.natAbs hn (!decide (n<0)),aA]
 congr 2
 unfold sg
 by_cases h:n<0
 ·rw[aH h]
  show((n.natAbs:Nat):Int) = -n
  omega
 ·rw[aZ h]
  show -((n.natAbs:Nat):Int) = -n
  omega
theorem kM(q:Rat):yk q=(zF q.num,if q.den=1 then(false,[])else zF (q.den:Int)):=by
 unfold yk
 rw[xX]
 split<;>rfl
theorem Q7{a:Int}{g:Nat}(ha:S18 a)(hd:(g:Int)∣a):S18 (a / (g:Int)):=by
 obtain⟨k,rfl⟩:=hd
 unfold S18 at *
 by_cases h0:g=0
 ·subst h0;rw[Int.natCast_zero,Int.ediv_zero];decide
 ·rw[Int.mul_ediv_cancel_left _ Oz]
  rw[eO,Int.natAbs_natCast]at ha
  exact cA (Nat.le_mul_of_pos_left _ Oz) ha
theorem zfP{a:Int}(h:S18 a):S18 (-a):=by unfold S18 at *;rw[Int.natAbs_neg];exact h
theorem JZ{p q:Int}(hp:S18 p)(c:S18 q)(h0:q≠0):z58 (zF p) (zF q)=some (yk (Rat.divInt p q)):=by
 unfold z58
 have lq:(zF q).2.length≠0:=fun h=>by have:=dg_len0.mp h;omega
 rw[aE (by rw[aB];omega)]
 by_cases g:p=0
 ·subst g
  rw[aG (by rw[kB];rfl),Rat.zero_divInt,kM,aG (show(0:Rat).den=1 from rfl),show(0:Rat).num=0 from rfl,kB]
 have lp:(zF p).2.length≠0:=fun h=>by have:=dg_len0.mp h;omega
 rw[aE (by rw[aB];omega),gcd_ok hp c h0,aA]
 have hg:=QE (m:=p.natAbs) c Oz
 have hgp:=J8 (p:=p) h0
 have e1:=Zc (p:=p) h0
 have e2:=zcD (p:=p) h0
 have d:=YH (p:=p) h0
 have e:((Nat.gcd p.natAbs q.natAbs:Nat):Int)∣p:=Int.ofNat_dvd_left.mpr (Nat.gcd_dvd_left _ _)
 have f:((Nat.gcd p.natAbs q.natAbs:Nat):Int)∣q:=Int.ofNat_dvd_left.mpr (Nat.gcd_dvd_right _ _)
 generalize Nat.gcd p.natAbs q.natAbs=G at *
 rw[div_ok hp Oz (s18 hg) e,div_ok c Oz (s18 hg) f,aA,aA]
 have s1:=Q7 hp e
 have s2:=Q7 c f
 rw[kM,e1]
 generalize p / (G:Int)=P at *
 generalize q / (G:Int)=U at *
 have hd:∀z:Int,((Rat.divInt p q).den:Int)=z→(if (Rat.divInt p q).den=1 then(false,([]:List Int))else zF ((Rat.divInt p q).den:Int))=if decide (z=1)=true then(false,[])else zF z:=by
  rintro z rfl
  by_cases h:(Rat.divInt p q).den=1
  ·rw[aG h,aG (aH Oz)]
  ·rw[aE h,aE (by rw[aB];omega)]
 rw[hd _ e2]
 show(if decide (U<0)=true then _ else _)=_
 by_cases a:U<0
 ·rw[aG (aH a),aG (d.mp a),aG (d.mp a),zed s1,zed s2,aA,aA,JQ (zfP s2),aA]
  split<;>rfl
 ·have b:¬q<0:=fun h=>a (d.mpr h)
  rw[aE (by rw[aB];exact a),aE b,aE b,JQ s2,aA]
  split<;>rfl
def Sm(q:Rat):Prop:=q.num.natAbs<500000000∧q.den<500000000
def Sg(q:Rat):Prop:=q.num.natAbs<250000000000∧q.den<1000000
def S1(q:Rat):Prop:=q.num.natAbs<1000000000000000000∧q.den<1000000000000000000
def S2(a b:Rat):Prop:=(S1 a∧S1 b)∧(a.num*(b.den:Int)).natAbs≤250000000000000000∧(b.num*(a.den:Int)).natAbs≤250000000000000000∧a.den*b.den≤250000000000000000
instance {q:Rat}:Decidable (Sm q):=inferInstanceAs (Decidable (_∧_))
instance {q:Rat}:Decidable (S1 q):=inferInstanceAs (Decidable (_∧_))
instance {a b:Rat}:Decidable (S2 a b):=inferInstanceAs (Decidable (_∧_))
theorem S1.n{q:Rat}(h:S1 q):S18 q.num:=h.1
theorem S1.d{q:Rat}(h:S1 q):S18 (q.den:Int):=s18 h.2
theorem Sm.s1{q:Rat}(h:Sm q):S1 q:=⟨by have:=h.1;omega,by have:=h.2;omega⟩
theorem Sg.s1{q:Rat}(h:Sg q):S1 q:=⟨by have:=h.1;omega,by have:=h.2;omega⟩
theorem Sm.n{q:Rat}(h:Sm q):S18 q.num:=h.s1.n
theorem Sm.d{q:Rat}(h:Sm q):S18 (q.den:Int):=h.s1.d
theorem Sm.neg{q:Rat}(h:Sm q):Sm (-q):=⟨by rw[Rat.neg_num,Int.natAbs_neg];exact h.1,by rw[Rat.neg_den];exact h.2⟩
theorem S1.neg{q:Rat}(h:S1 q):S1 (-q):=⟨by rw[Rat.neg_num,Int.natAbs_neg];exact h.1,by rw[Rat.neg_den];exact h.2⟩
theorem S2.neg{a b:Rat}(h:S2 a b):S2 a (-b):=⟨⟨h.1.1,h.1.2.neg⟩,by rw[Rat.neg_den,Rat.neg_num,Int.neg_mul,Int.natAbs_neg];exact h.2⟩
theorem Qz{a b c A B:Nat}(h:a≤A)(g:b≤B)(e:A*B≤c):a*b≤c:=bH (dZ h g) e
theorem s2_of{N D:Nat}{a b:Rat}(ha:S1 a)(hb:S1 b)(h1:a.num.natAbs≤N∧a.den≤D)(h2:b.num.natAbs≤N∧b.den≤D)(h:N*D≤250000000000000000∧D*D≤250000000000000000):S2 a b:=by
 refine⟨⟨ha,hb⟩,?_,?_,Qz h1.2 h2.2 h.2⟩
 ·rw[eO,Int.natAbs_natCast];exact Qz h1.1 h2.2 h.1
 ·rw[eO,Int.natAbs_natCast];exact Qz h2.1 h1.2 h.1
theorem Sm.s2{a b:Rat}(ha:Sm a)(hb:Sm b):S2 a b:=s2_of (N:=500000000) (D:=500000000) ha.s1 hb.s1 ⟨Nat.le_of_lt ha.1,Nat.le_of_lt ha.2⟩ ⟨Nat.le_of_lt hb.1,Nat.le_of_lt hb.2⟩ ⟨by decide,by decide⟩
theorem Sg.s2{a b:Rat}(ha:Sg a)(hb:Sg b):S2 a b:=s2_of (N:=250000000000) (D:=1000000) ha.s1 hb.s1 ⟨Nat.le_of_lt ha.1,Nat.le_of_lt ha.2⟩ ⟨Nat.le_of_lt hb.1,Nat.le_of_lt hb.2⟩ ⟨by decide,by decide⟩
theorem sm_mul{a b:Nat}(h:a<500000000)(g:b<500000000):a*b≤250000000000000000:=Qz (Nat.le_of_lt h) (Nat.le_of_lt g) Uz
theorem Sm.dd{a b:Rat}(ha:Sm a)(hb:Sm b):a.den*b.den≤250000000000000000:=sm_mul ha.2 hb.2
theorem zeG{q:Rat}(h:S1 q):(q.den=1∧(yk q).2=(false,[]))∨(q.den≠1∧(yk q).2=zF (q.den:Int)∧(zF (q.den:Int)).2.length≠0):=by
 rw[kM]
 by_cases hd:q.den=1
 ·exact .inl ⟨hd,aG hd⟩
 ·refine .inr ⟨hd,aE hd,?_⟩
  intro g
  rw[xX]at g
  exact q.den_nz (dg_len0.mp g)
theorem kC(q:Rat):(yk q).1=zF q.num:=rfl
theorem ofZ_1:z59 1=some (zF 1):=Xf Uz
theorem Xq{q:Rat}(h:S1 q):z95 (yk q)=some (zF (q.den:Int)):=by
 unfold z95
 rcases zeG h with⟨hd,e⟩|⟨hd,e,hl⟩<;>rw[e]
 ·rw[aG (by rfl),ofZ_1,hd];rfl
 ·rw[aE (by rw[aB];omega)]
theorem zgU{a b:Rat}:Rat.divInt (a.num*(b.den:Int)+b.num*(a.den:Int)) ((a.den:Int)*(b.den:Int))=a+b:=by
 rw[Rat.add_def',←Rat.divInt_ofNat,Int.natCast_mul]
theorem mul_def{a b:Rat}:Rat.divInt (a.num*b.num) ((a.den:Int)*(b.den:Int))=a*b:=by
 rw[Rat.mul_def',←Rat.divInt_ofNat,Int.natCast_mul]
theorem dd_ne(a b:Rat):(a.den:Int)*(b.den:Int)≠0:=by
 have h1:=a.den_nz
 have h2:=b.den_nz
 exact Int.mul_ne_zero Oz Oz
theorem zgW{a b:Rat}(h:S2 a b):z36 (yk a) (yk b)=some (yk (a+b)):=by
 unfold z36
 have h1:=h.2.1
 have h2:=h.2.2.1
 have h3:=h.2.2.2
 have e:((a.den:Int)*(b.den:Int))=((a.den*b.den:Nat):Int):=(Int.natCast_mul ..).symm
 simp only[kC,Xq h.1.1,Xq h.1.2,aA]
 rw[j4 h.1.1.n h.1.2.d,aA,j4 h.1.2.n h.1.1.d,aA,add_ok (by unfold S18;omega) (by unfold S18;omega),aA,j4 h.1.1.d h.1.2.d,aA,JZ (by unfold S18;omega) (by rw[e];exact s18 Oz) (dd_ne a b),aA,zgU]
theorem zgf{a:Rat}(ha:S1 a):z38 (yk a)=some (yk (-a)):=by
 unfold z38
 rw[kC,zed ha.n,aA,kM (-a),kM a,Rat.neg_num,Rat.neg_den]
theorem subR_ok{a b:Rat}(h:S2 a b):z98 (yk a) (yk b)=some (yk (a-b)):=by
 unfold z98
 rw[zgf h.1.2,aA,zgW h.neg,aA,Rat.sub_eq_add_neg]
theorem Sm.nn{a b:Rat}(ha:Sm a)(hb:Sm b):(a.num*b.num).natAbs≤250000000000000000:=by
 rw[eO];exact sm_mul ha.1 hb.1
theorem mulR_ok{a b:Rat}(ha:Sm a)(hb:Sm b):z99 (yk a) (yk b)=some (yk (a*b)):=by
 unfold z99
 have h1:=ha.nn hb
 have h3:=ha.dd hb
 have e:((a.den:Int)*(b.den:Int))=((a.den*b.den:Nat):Int):=(Int.natCast_mul ..).symm
 simp only[kC,Xq ha.s1,Xq hb.s1,aA]
 rw[j4 ha.n hb.n,aA,j4 ha.d hb.d,aA,JZ (by unfold S18;omega) (by rw[e];exact s18 Oz) (dd_ne a b),aA,mul_def]
theorem zgg{m n:Int}(a:S18 m)(hn:S18 n):z207 (zF m) (zF n)=some (yB m n):=by
 unfold z207
 have l1:=xr a
 have l2:=xr hn
 show(if (!(decide (m<0)==decide (n<0)))=true then(if decide (m<0)=true then _ else _)else(if decide (m<0)=true then(Jq (dg n.natAbs) (dg m.natAbs)).bind _ else(Jq (dg m.natAbs) (dg n.natAbs)).bind _))=_
 rw[gh Oz,gh Oz,gR,gR,aA,aA]
 by_cases h1:m<0<;>by_cases h2:n<0
 ·rw[aH h1,aH h2,aE Uz,aG rfl]
  congr 1
  unfold uG yB
  split<;>split<;>(try split)<;>(try split)<;>first|rfl|omega
 ·rw[aH h1,aZ h2,aG Uz,aG rfl,yB,aG Oz]
 ·rw[aZ h1,aH h2,aG Uz,aE Uz,yB,aE Oz,aG Oz]
 ·rw[aZ h1,aZ h2,aE Uz,aE Uz]
  congr 1
  unfold uG yB
  split<;>split<;>(try split)<;>(try split)<;>first|rfl|omega
theorem cmpR_ok{a b:Rat}(h:S2 a b):z135 (yk a) (yk b)=some (wa a b):=by
 unfold z135
 have h1:=h.2.1
 have h2:=h.2.2.1
 simp only[kC,Xq h.1.1,Xq h.1.2,aA]
 rw[j4 h.1.1.n h.1.2.d,aA,j4 h.1.2.n h.1.1.d,aA,zgg (by unfold S18;omega) (by unfold S18;omega),aA,zau]
theorem signR_ok{a:Rat}(ha:S1 a):z80 (yk a)=some (yB a.num 0):=by
 unfold z80 z140
 rw[kC,←kB,zgg ha.n Uz]
 rfl
theorem ofR_ok{p q:Int}(hp:p.natAbs<1000000000)(hq:q.natAbs<1000000000)(h0:0<q):z20 p q=some (yk (Rat.divInt p q)):=by
 unfold z20
 rw[Xf (by unfold S18;omega),aA,Xf (by unfold S18;omega),aA,JZ (by unfold S18;omega) (by unfold S18;omega) Oz]
 rfl
theorem V8{l:List Int}{i:Nat}(h:i<l.length):l.take (i+1)=l.take i++[l.getD i 0]:=by
 rw[List.take_succ_eq_append_getElem h,aC,aD h];rfl
theorem sameL{la lb:List Int}(hl:la.length=lb.length)(h3:la.length≤2){k:Nat}(hk:2<k) :
 zj (fun g1 (b:Int)=>(if (decide (b<(la.length:Int)))=true then((idx la b).bind fun x2=>((idx lb b).bind fun d=>(if (decide (x2≠d))=true then some false else((i64 (b+1)).bind fun n4=>g1 n4))))else some true)) (zi k) 0=some (decide (la=lb)):=by
 refine zk la.length (fun i (x:Int)=>x=(i:Int)∧la.take i=lb.take i) (fun o=>o=some (decide (la=lb))) Oz ⟨rfl,rfl⟩ ?_ ?_
 ·rintro i x g hi ⟨rfl,a⟩ hg
  rw[aG (zN hi),xy hi,xy (show i<lb.length by omega),aA,aA]
  by_cases h:la.getD i 0=lb.getD i 0
  ·rw[aE (by rw[aB];exact fun c=>c h),zp Oz,aA]
   exact hg _ ⟨rfl,by rw[V8 hi,V8 Oz,a,h]⟩
  ·rw[aG (by rw[aB];exact h),aZ]
   rintro rfl
   exact h rfl
 ·rintro x g ⟨rfl,a⟩
  rw[bB,hl,bB]at a
  rw[aE Y8,aH a]
theorem Wo{s t:Bool}{la lb:List Int}(a:la.length≤2):zdt (s,la) (t,lb)=some (decide ((s,la)=(t,lb))):=by
 unfold zdt
 show(if (!(s==t))=true then _ else(if decide ((la.length:Int)≠(lb.length:Int))=true then _ else _))=_
 by_cases h:s=t
 ·subst h
  rw[aE Y8]
  by_cases hl:la.length=lb.length
  ·rw[aE (by simp[hl]),sameL hl a Uz]
   congr 1
   rw[decide_eq_decide,Prod.mk.injEq]
   simp
  ·rw[aG (by rw[aB];omega),aZ]
   rintro h
   exact hl (congrArg (fun x=>x.2.length) h)
 ·rw[aG (by simpa using h),aZ]
  rintro g
  exact h (congrArg Prod.fst g)
theorem encZ_inj{m n:Int}(h:zF m=zF n):m=n:=by
 have h1:=congrArg Prod.fst h
 have h2:=dg_inj (congrArg Prod.snd h)
 have h1:(m<0)=(n<0):=by simpa[zF]using h1
 by_cases c:m<0
 ·have:n<0:=h1▸c
  omega
 ·have:¬n<0:=h1▸c
  omega
theorem encQ_inj{a b:Rat}(h:yk a=yk b):a=b:=by
 have h1:=encZ_inj (congrArg Prod.fst h)
 have h2:=congrArg (fun x=>x.2.2) h
 have h2:(if a.den=1 then []else dg a.den)=(if b.den=1 then []else dg b.den):=h2
 refine Rat.ext h1 ?_
 split at h2
 ·split at h2
  ·omega
  ·exact absurd (dg_nil.mp h2.symm) b.den_nz
 ·split at h2
  ·exact absurd (dg_nil.mp h2) a.den_nz
  ·exact dg_inj h2
theorem zcv{a:Rat}(ha:S1 a):(yk a).1.2.length≤2∧(yk a).2.2.length≤2:=by
 refine⟨xr ha.n,?_⟩
 show(if a.den=1 then []else dg a.den).length≤2
 split
 ·simp
 ·exact xr ha.2
theorem zbm{a b:Rat}{r1 r2:Bool}(h1:r1=decide ((yk a).1=(yk b).1))(h2:r2=decide ((yk a).2=(yk b).2)):(if r1=true then some r2 else some false)=some (decide (a=b)):=by
 subst h1 h2
 by_cases c1:(yk a).1=(yk b).1
 ·rw[aG (aH c1)]
  congr 1
  rw[decide_eq_decide]
  exact⟨fun c=>encQ_inj (Prod.ext c1 c),fun e=>by rw[e]⟩
 ·rw[aE (by rw[aB];exact c1),aZ]
  rintro rfl
  exact c1 rfl
theorem sameR_ok{a b:Rat}(ha:S1 a):z109 (yk a) (yk b)=some (decide (a=b)):=by
 unfold z109
 obtain⟨c,d⟩:=zcv ha
 rw[show zdt (yk a).1 (yk b).1=_ from Wo c,show zdt (yk a).2 (yk b).2=_ from Wo d,aA]
 exact zbm rfl rfl
theorem zgo{m:Nat}(h:m<1000000000000000000)(h0:(dg m).length≠0):(dg m).getD ((dg m).length-1) 0≠0:=by
 rcases Vj h with⟨h1,e⟩|⟨h1,h2,e⟩|⟨h1,e⟩
 ·rw[e]at h0;exact absurd rfl h0
 ·rw[e];show((m % 1000000000:Nat):Int)≠0;omega
 ·rw[e];show((m / 1000000000:Nat):Int)≠0;omega
theorem Zp{n:Int}(hn:S18 n):z188 (zF n)=some true:=by
 unfold z188
 have hl:=xr hn
 have hd:=kU n.natAbs
 show zj (fun g1 (a:Int)=>(if decide (a<((dg n.natAbs).length:Int))=true then(idx (dg n.natAbs) a).bind _ else(if decide (((dg n.natAbs).length:Int)=0)=true then some (!decide (n<0))else(i64 (((dg n.natAbs).length:Int)-1)).bind fun b=>(idx (dg n.natAbs) b).bind _))) _ _=_
 refine zk (dg n.natAbs).length (fun i (x:Int)=>x=(i:Int)) (fun o=>o=some true) Oz rfl ?_ ?_
 ·rintro i x g hi rfl hg
  have:=hd.at i
  rw[aG (zN hi),xy hi,aA,aE (by rw[aB];omega)]
  show(idx (dg n.natAbs) (i:Int)).bind _=_
  rw[xy hi,aA,aE (by rw[aB];omega),zp Oz,aA]
  exact hg _ rfl
 ·rintro x g rfl
  rw[aE Y8]
  by_cases h0:(dg n.natAbs).length=0
  ·have:=dg_len0.mp h0
   rw[aG (by rw[h0];rfl),aZ Oz]
   rfl
  ·have e:((dg n.natAbs).length:Int)-1=(((dg n.natAbs).length-1:Nat):Int):=by omega
   have h:=zgo hn h0
   rw[aE (by rw[aB];omega),e,xW Oz,aA,xy Oz,aA,aH h]
theorem z114_nil:zaQ (false,[])=some false:=rfl
theorem Vd{a:Rat}(ha:S1 a):(a.den≠1→Nat.gcd a.num.natAbs (a.den:Int).natAbs=1):=fun _=>by
 rw[Int.natAbs_natCast];exact a.reduced
theorem validR_ok{a:Rat}(ha:S1 a):z110 (yk a)=some true:=by
 unfold z110
 have c:z188 (false,[])=some true:=by rw[←kB];exact Zp Uz
 have b:(a.den:Int)≠0:=by have:=a.den_nz;omega
 rw[kC,Zp ha.n,aA,aE Uz]
 rcases zeG ha with⟨hd,e⟩|⟨hd,e,hl⟩<;>rw[e]
 ·rw[c,aA,aE Uz,aE Uz,z114_nil,aA,aE Uz,aG (by rfl)]
 ·have e1:(zF (a.den:Int)).1=false:=by rw[xX]
  rw[Zp ha.d,aA,aE Uz,e1,aE Uz,JQ ha.d,aA,aE (by rw[aB];omega),aE (by rw[aB];omega),gcd_ok ha.n ha.d b,Vd ha hd,aA,JQ Uz]
  rfl
theorem if2{α:Type}{p q:Prop}[Decidable p][Decidable q]{F X:α}(h:¬(p∧q)):(if p then(if q then F else X)else X)=X:=by
 by_cases hp:p
 ·rw[aG hp,aE fun a=>h ⟨hp,a⟩]
 ·rw[aE hp]
theorem zbR{l:List Int}(h:Dig l)(hl:l.length≤5)(s:Bool):uM s l=some (zF (sg s (zX l))):=by
 unfold uM
 refine zk l.length (fun i (x:Int)=>∃m:Nat,x=m∧m+i=l.length∧jX l l.length=jX l m) (fun o=>o=some (zF (sg s (zX l)))) Oz ⟨_,rfl,rfl,rfl⟩ ?_ ?_
 ·rintro i x g hi ⟨m,rfl,a,hn⟩ hg
  obtain⟨k,rfl⟩:∃k,m=k+1:=⟨m-1,by omega⟩
  have e1:((k+1:Nat):Int)-1=(k:Int):=by omega
  rw[aG Y8,e1,xW Oz,aA,xy Oz,aA,aG rfl]
  rw[jX]at hn
  split
  ·next c=>rw[aG (by simpa using c)]at hn;exact hg _ ⟨k,rfl,by omega,hn⟩
  ·next c=>rw[aE (by simpa using c)]at hn;exact nrm_end h s hn
 ·rintro x g ⟨m,rfl,a,hn⟩
  obtain rfl:m=0:=by omega
  rw[aE Y8,aG rfl]
  exact nrm_end h s (m:=0) hn
theorem of_dg(m:Nat)(h:m<1000000000000000000)(s:Bool):uM s (dg m)=some (zF (sg s m)):=by
 rw[zbR (kU m) (by have:=xr h;omega),yu]
theorem X0{l:List Int}{i:Nat}{x:Int}:dv ((l.set i x).take i)=dv (l.take i):=by
 rw[List.take_set,List.set_eq_of_length_le (by rw[bR];omega)]
theorem zcn{l:List Int}{i:Nat}(h:l.length≤i):l.getD i 0=0:=by
 rw[aC,cT h];rfl
theorem zbJ{la lb:List Int}(ha:Dig la)(hb:Dig lb)(la2:la.length≤2)(b:lb.length≤la.length) :
 ∃l,VH la lb=some l∧Dig l∧l.length≤3∧zX l=zX la+zX lb:=by
 unfold VH
 have r:(la.length:Int)+1=((la.length+1:Nat):Int):=by omega
 rw[aE (by rw[aB];omega),r,xW Oz,aA,aG Oz,Int.toNat_natCast]
 refine zk la.length (fun i (x:Int×Int×List Int)=>x.2.1=(i:Int)∧x.2.2.length=la.length+1∧Dig x.2.2∧0≤x.1∧x.1≤1∧dv (x.2.2.take i)+1000000000 ^ i*x.1=dv (la.take i)+dv (lb.take i)) (fun o=>∃l,o=some l∧Dig l∧l.length≤3∧zX l=zX la+zX lb) Oz ⟨rfl,dC,Jb _,by simp,by simp,by simp[dv]⟩ ?_ ?_
 ·rintro i ⟨c,j,out⟩ g hi ⟨rfl,hl,hd,c0,c1,hv⟩ hg
  dsimp only at hl hd c0 c1 hv ⊢
  have d1:=ha.at i
  have d2:=hb.at i
  have fin:∀w:Int,w=la.getD i 0+c+lb.getD i 0→∃l,(if (decide (1000000000≤w))=true then((i64 (w-1000000000)).bind fun t=>((idx out (i:Int)).bind fun x8=>((idx out (i:Int)).bind fun x9=>((i64 ((i:Int)+1)).bind fun d=>g (1,d,(zD out (Int.toNat (i:Int)) t))))))else((idx out (i:Int)).bind fun x11=>((idx out (i:Int)).bind fun x12=>((i64 ((i:Int)+1)).bind fun f=>g (0,f,(zD out (Int.toNat (i:Int)) w))))))=some l∧Dig l∧l.length≤3∧zX l=zX la+zX lb:=by
   intro w s
   have key:∀(c' v:Int),0≤c'→c'≤1→0≤v→v<1000000000→w=v+1000000000*c'→∃l,g (c',((i+1:Nat):Int),out.set i v)=some l∧Dig l∧l.length≤3∧zX l=zX la+zX lb:=by
    intro c' v m n p q e
    refine hg _ ⟨rfl,by rw[bP];exact hl,hd.set p q,m,n,?_⟩
    dsimp only
    rw[yg,yg,yg,X0,wm Oz,Int.pow_succ]
    have e2:(1000000000:Int) ^ i*v+1000000000 ^ i*1000000000*c'=1000000000 ^ i*w:=by rw[e,Int.mul_add,Int.mul_assoc]
    rw[s,Int.mul_add,Int.mul_add]at e2
    omega
   by_cases h:1000000000≤w
   ·rw[aG (aH h),xW Oz,aA,xy Oz,aA,aA,zp Oz,aA,yR,Int.toNat_natCast]
    exact key 1 _ Uz Uz Oz Oz Oz
   ·rw[aE (by rw[aB];exact h),xy Oz,aA,aA,zp Oz,aA,yR,Int.toNat_natCast]
    exact key 0 _ Uz Uz Oz Oz Oz
  rw[aG (zN hi),xy hi,aA,xW Oz,aA]
  by_cases h:i<lb.length
  ·rw[aG (zN h),xy h,aA,xW Oz,aA]
   exact fin _ rfl
  ·rw[aE (by rw[aB];omega)]
   exact fin _ (by rw[zcn (l:=lb) Oz];omega)
 ·rintro⟨c,j,out⟩ g ⟨rfl,hl,hd,c0,c1,hv⟩
  dsimp only at hl hd c0 c1 hv ⊢
  rw[aE Y8,xy Oz,aA,aA,yR]
  have a:=hd.set (k:=la.length) (x:=c) c0 Oz
  refine⟨_,rfl,a,by rw[bP];omega,?_⟩
  have e1:dv (out.set la.length c)=dv ((out.set la.length c).take (la.length+1)):=(qq V3).symm
  rw[yg,X0,wm Oz]at e1
  rw[bB,qq b]at hv
  rw[qd a]at e1
  rw[qd ha,qd hb]at hv
  omega
theorem zdS(la lb:List Int)(h:la.length<lb.length):VH la lb=VH lb la:=by
 unfold VH
 rw[aG (zN h),aE (by rw[aB];omega)]
theorem plusP{la lb:List Int}(ha:Dig la)(hb:Dig lb)(la2:la.length≤2)(lb2:lb.length≤2) :
 ∃l,VH la lb=some l∧Dig l∧l.length≤3∧zX l=zX la+zX lb:=by
 by_cases h:la.length<lb.length
 ·obtain⟨l,e,h1,h2,h3⟩:=zbJ hb ha lb2 Oz
  exact⟨l,by rw[zdS _ _ h];exact e,h1,h2,by omega⟩
 ·exact zbJ ha hb la2 Oz
structure NI(la lb:List Int)(i:Nat)(out:List Int):Prop where
 len:out.length=la.length
 dig:∀j,j≠i→0≤out.getD j 0∧out.getD j 0<1000000000
 mid : -1≤out.getD i 0∧out.getD i 0<1000000000
 val:dv out=dv la-dv (lb.take i)
theorem NI.stay{la lb:List Int}{i:Nat}{out:List Int}{w:Int}(h:NI la lb i out)(hb:Dig lb)(hi:i<la.length)(hw:w=out.getD i 0-lb.getD i 0)(h0:0≤w):NI la lb (i+1) (out.set i w):=by
 have d:=hb.at i
 have m:=h.mid
 have hl:=h.len
 refine⟨by rw[bP];exact hl,fun j hj=>?_,?_,?_⟩
 ·by_cases c:i=j
  ·subst c;rw[wm Oz];omega
  ·rw[vx c];exact h.dig j Oz
 ·rw[vx Oz];have:=h.dig (i+1) Oz;omega
 ·rw[Vg Oz,h.val,yg,show w-out.getD i 0 = -lb.getD i 0 by omega,Int.mul_neg]
  omega
theorem NI.borrow{la lb:List Int}{i:Nat}{out:List Int}{w v:Int}(h:NI la lb i out)(hb:Dig lb)(hi:i+1<la.length)(hw:w=out.getD i 0-lb.getD i 0)(h0:w<0)(hv:v=out.getD (i+1) 0-1):NI la lb (i+1) ((out.set i (w+1000000000)).set (i+1) v):=by
 have d:=hb.at i
 have m:=h.mid
 have hl:=h.len
 have d1:=h.dig (i+1) Oz
 have a:i+1<(out.set i (w+1000000000)).length:=by rw[bP];omega
 refine⟨by rw[bP,bP];exact hl,fun j hj=>?_,?_,?_⟩
 ·rw[vx Oz]
  by_cases c:i=j
  ·subst c;rw[wm Oz];omega
  ·rw[vx c];exact h.dig j Oz
 ·rw[wm a];omega
 ·rw[Vg a,vx Oz,Vg Oz,h.val,yg,show w+1000000000-out.getD i 0=1000000000-lb.getD i 0 by omega,show v-out.getD (i+1) 0 = -1 by omega,Int.pow_succ,Int.mul_sub]
  omega
theorem NI.last{la lb:List Int}{i:Nat}{out:List Int}{w:Int}(h:NI la lb i out)(ha:Dig la)(hb:Dig lb)(hi:i<la.length)(hle:lb.length≤la.length)(hv:zX lb≤zX la)(a:w=out.getD i 0-lb.getD i 0)(h0:w<0):i+1<la.length:=by
 apply cX
 intro c
 have hl:=h.len
 have e1:=yg out i
 have e2:=yg lb i
 rw[qq Oz]at e1 e2
 have hd:Dig (out.take i):=fun x hx=>by
  obtain⟨j,hj,rfl⟩:=List.getElem_of_mem hx
  rw[bR]at hj
  have:=h.dig j Oz
  rw[aC,aD Oz]at this
  rw[List.getElem_take]
  exact this
 have e3:=dv_lim hd (i:=i) (by rw[bR];omega)
 have e4:=h.val
 have e5:=qd ha
 have e6:=qd hb
 have e7:(1000000000:Int) ^ i*out.getD i 0-1000000000 ^ i*lb.getD i 0=1000000000 ^ i*w:=by rw[a,Int.mul_sub]
 have e8:(1000000000:Int) ^ i*w≤1000000000 ^ i*(-1):=Int.mul_le_mul_of_nonneg_left Oz (Int.le_of_lt (powB i))
 omega
theorem set_same{l:List Int}{i:Nat}(h:i<l.length):l.set i (l.getD i 0)=l:=by
 rw[aC,aD h]
 exact List.set_getElem_self h
theorem minusP{la lb:List Int}(ha:Dig la)(hb:Dig lb)(la2:la.length≤2)(h0:0<la.length)(d:lb.length≤la.length)(hv:zX lb≤zX la) :
 ∃l,zaO la lb=some l∧Dig l∧l.length≤2∧zX l=zX la-zX lb:=by
 unfold zaO
 rw[aG Oz,aG (by rw[dC];omega)]
 refine zk la.length (fun i (x:Int×List Int)=>x.1=(i:Int)∧NI la lb i x.2) (fun o=>∃l,o=some l∧Dig l∧l.length≤2∧zX l=zX la-zX lb) Oz ⟨rfl,rfl,fun j _=>ha.at j,by have:=ha.at 0;dsimp only;omega,by simp[dv]⟩ ?_ ?_
 ·rintro i ⟨j,out⟩ g hi ⟨rfl,a⟩ hg
  have a:NI la lb i out:=a
  have hl:=a.len
  have m:=a.mid
  have d2:=hb.at i
  have q:∀x,i<(out.set i x).length:=fun x=>by rw[bP];omega
  have k:i64 ((i:Int)+1)=some ((i+1:Nat):Int):=zp Oz
  dsimp only
  rw[aG (zN hi)]
  have p:∀w,w=out.getD i 0-lb.getD i 0→w<0→i+1<la.length:=fun w=>a.last ha hb hi d hv
  by_cases h:i<lb.length
  ·rw[aG (zN h)]
   obtain⟨w,f⟩:∃w,w=out.getD i 0-lb.getD i 0:=⟨_,rfl⟩
   simp only[xy (show i<out.length by omega),xy h,aA,←f,xW (show w.natAbs<_ by omega),yR,Int.toNat_natCast,xy (q _),wm (show i<out.length by omega),List.set_set]
   by_cases c:w<0
   ·have b:=p w f c
    have n:∀x,i+1<(out.set i x).length:=fun x=>by rw[bP];omega
    have r:=a.dig (i+1) Oz
    rw[aG (aH c),xW Oz,aA]
    simp only[k,aA,xy (n _),vx (show i≠i+1 by omega),xW (show(out.getD (i+1) 0-1).natAbs<_ by omega),Int.toNat_natCast]
    exact hg _ ⟨rfl,a.borrow hb b f c rfl⟩
   ·rw[aE (by rw[aB];exact c),k,aA]
    exact hg _ ⟨rfl,a.stay hb hi f Oz⟩
  ·rw[aE (by rw[aB];omega)]
   have hz:=zcn (l:=lb) (i:=i) Oz
   simp only[xy (show i<out.length by omega),aA,yR,Int.toNat_natCast,xy (q _),List.set_set]
   by_cases c:out.getD i 0<0
   ·have b:=p (out.getD i 0) Oz c
    have n:∀x,i+1<(out.set i x).length:=fun x=>by rw[bP];omega
    have r:=a.dig (i+1) Oz
    rw[aG (aH c),xW Oz,aA]
    simp only[k,aA,xy (n _),vx (show i≠i+1 by omega),xW (show(out.getD (i+1) 0-1).natAbs<_ by omega),Int.toNat_natCast]
    exact hg _ ⟨rfl,a.borrow hb b Oz c rfl⟩
   ·rw[aE (by rw[aB];exact c),k,aA]
    have hs:=a.stay hb hi (w:=out.getD i 0) Oz Oz
    rw[set_same Oz]at hs
    exact hg _ ⟨rfl,hs⟩
 ·rintro⟨j,out⟩ g ⟨rfl,a⟩
  have a:NI la lb la.length out:=a
  have hl:=a.len
  dsimp only
  rw[aE Y8]
  have hd:Dig out:=fun x hx=>by
   obtain⟨j,hj,rfl⟩:=List.getElem_of_mem hx
   have:=a.dig j Oz
   rw[aC,aD hj]at this
   exact this
  refine⟨out,rfl,hd,by omega,?_⟩
  have e:=a.val
  rw[qq d,qd ha,qd hb,qd hd]at e
  omega
theorem Vp{la lb:List Int}(la3:la.length≤2):YR la lb=some (C14.cmpZ la lb):=by
 unfold YR C14.cmpZ
 by_cases h1:la.length<lb.length
 ·rw[aG (by rw[aB];omega),aE Y8,aE Y8,aG (zN h1),aG h1]
 by_cases h2:lb.length<la.length
 ·rw[aG (by rw[aB];omega),aE Y8,aE Y8,aE (by rw[aB];omega),aG (zN h2),aE h1,aG h2]
 rw[aE (by rw[aB];omega),aE h1,aE h2,xW Oz,aA]
 refine zk la.length (fun i (x:Int)=>∃m:Nat,x=(m:Int)-1∧m+i=la.length∧ZO la lb la.length=ZO la lb m) (fun o=>o=some (ZO la lb la.length)) Oz ⟨_,rfl,rfl,rfl⟩ ?_ ?_
 ·rintro i x g hi ⟨m,rfl,a,hn⟩ hg
  obtain⟨k,rfl⟩:∃k,m=k+1:=⟨m-1,by omega⟩
  have e1:((k+1:Nat):Int)-1=(k:Int):=by omega
  rw[e1,aG Y8,hn,ZO]
  simp only[xy (show k<la.length by omega),xy (show k<lb.length by omega),aA,aB,xW (show((k:Int)-1).natAbs<_ by omega),ne_eq,not_true_eq_false,cK]
  by_cases c:la.getD k 0=lb.getD k 0
  ·rw[aE (fun x=>x c),aE Oz,aE Oz]
   rw[ZO,aE Oz,aE Oz]at hn
   have:=hg _ ⟨k,rfl,by omega,hn⟩
   rw[hn]at this
   exact this
  ·rw[aG c]
   split
   ·rfl
   ·rw[aG Oz,aG Oz]
 ·rintro x g ⟨m,rfl,a,hn⟩
  obtain rfl:m=0:=by omega
  rw[aE Y8,hn]
  rfl
theorem zgX{a b:Int}(ha:S18 a)(hb:S18 b):z81 (zF a) (zF b)=some (zF (a+b)):=by
 unfold z81
 have la:=xr ha
 have lb:=xr hb
 have d:=kU a.natAbs
 have f:=kU b.natAbs
 have pos:∀n:Nat,n≠0→0<(dg n).length:=fun n h=>by
  have:(dg n).length≠0:=fun g=>h (dg_len0.mp g)
  omega
 show(if (decide (a<0)==decide (b<0))=true then _ else _)=_
 by_cases h:a<0↔b<0
 ·rw[aG (by simpa using h)]
  show(VH (dg a.natAbs) (dg b.natAbs)).bind _=_
  obtain⟨l,e,hd,hl,hv⟩:=plusP d f Oz Oz
  rw[e,aA,zbR hd Oz,hv,yu,yu]
  refine congrArg (fun x=>some (zF x)) ?_
  exact Y4 fun _=>by omega
 ·rw[aE (by simpa using h)]
  show(YR (dg a.natAbs) (dg b.natAbs)).bind _=_
  rw[Vp Oz,gR,aA]
  have hc:decide (uG a.natAbs b.natAbs<0)=decide (a.natAbs<b.natAbs):=by
   unfold uG
   split
   ·next c=>simp[c]
   ·next c=>rw[aZ c];split<;>rfl
  rw[hc]
  by_cases c:a.natAbs<b.natAbs
  ·rw[aG (aH c)]
   show(zaO (dg b.natAbs) (dg a.natAbs)).bind _=_
   obtain⟨l,e,hd,hl,hv⟩:=minusP f d Oz (pos _ Oz) (J1 Oz) (by rw[yu,yu];omega)
   rw[e,aA,zbR hd Oz,hv,yu,yu]
   refine congrArg (fun x=>some (zF x)) ?_
   exact Y4 fun _=>by omega
  ·rw[aE (by simpa using c)]
   show(zaO (dg a.natAbs) (dg b.natAbs)).bind _=_
   obtain⟨l,e,hd,hl,hv⟩:=minusP d f Oz (pos _ Oz) (J1 Oz) (by rw[yu,yu];omega)
   rw[e,aA,zbR hd Oz,hv,yu,yu]
   refine congrArg (fun x=>some (zF x)) ?_
   exact Y4 fun _=>by omega
theorem wL{n:Nat}(h:n<1000000000000000000)(s:Bool):QM s (n:Int)=some (zF (sg s n)):=by
 unfold QM
 by_cases h0:n=0
 ·subst h0
  rw[aG (by rfl),sg_0,kB]
 rw[aE (by rw[aB];omega),zam h0]
 by_cases h1:n<1000000000
 ·rw[aG (by rw[aB];omega),KZ h,Vk h0 h1]
  rfl
 ·have b:n / 1000000000<1000000000:=by omega
  have a:n / 1000000000≠0:=by omega
  have hr:n % 1000000000<1000000000:=by omega
  have e1:Int.tmod (n:Int) 1000000000=((n % 1000000000:Nat):Int):=rfl
  have e2:Int.tdiv (n:Int) 1000000000=((n / 1000000000:Nat):Int):=rfl
  rw[aE (by rw[aB];omega),aG (by rw[aB];omega),aE Uz,uj h0,Vk a b,e1,e2,KZ Oz,aA,aE Uz]
  generalize n / 1000000000=q at *
  rw[uZ,aG Oz,aA,KZ Oz,aA]
theorem KA{n:Int}(hn:S18 n):VG n=some (zF n):=by
 unfold VG
 unfold S18 at hn
 by_cases h:n<0
 ·have e:(0-n % 18446744073709551616) % 18446744073709551616=((n.natAbs:Nat):Int):=by omega
  rw[aH h,aG rfl,e,wL hn,aA,←aH h,Q6]
 ·have e:n % 18446744073709551616=((n.natAbs:Nat):Int):=by omega
  rw[aZ h,aE Uz,e,wL hn,aA,←aZ h,Q6]
end Go.Proofs.YtocnbjjmmgolfaaGreat
