/- Plain law of the number packages: loops in general; digits of the reference. -/
import Derived.Test.YtocnbjjmmgolfaaGreatA20
import Derived.Test.YtocnbjjmmgolfaaGreatA12
set_option linter.unusedSimpArgs false
set_option linter.unusedVariables false
set_option linter.unusedSectionVars false
namespace Go.Proofs.YtocnbjjmmgolfaaGreat
open Go Go.M Go.Proofs.C14
theorem ze{a ρ:Type}(B:(a->Option ρ)->a->Option ρ)(k:Nat)(x:a):zk B (k+1) x=B (zk B k) x:=rfl
theorem zcL{a ρ:Type}{B:(a->Option ρ)->a->Option ρ}{n:Nat}(I:Nat->a->Prop)(Q:Option ρ->Prop)
 (hs:∀i x g,i<n->I i x->(∀y,I (i+1) y->Q (g y))->Q (B g x)) (he:∀x g,I n x->Q (B g x)) :
 ∀(m i k:Nat) (x:a),i+m=n->m<k->I i x->Q (zk B k x)
 |0,i,k+1,x,h,_,b=>by rw[ze];exact he x _ (by obtain rfl:i=n:=h;exact b)
 |m+1,i,k+1,x,h,hk,b=>by rw[ze];exact hs i x _ Oz b λy c=>zcL I Q hs he m (i+1) k y Oz Oz c
theorem zl{a ρ:Type}{B:(a->Option ρ)->a->Option ρ}(n:Nat)(I:Nat->a->Prop)(Q:Option ρ->Prop){k:Nat}{x:a}(hk:n<k)(h0:I 0 x)
 (hs:∀i x g,i<n->I i x->(∀y,I (i+1) y->Q (g y))->Q (B g x)) (he:∀x g,I n x->Q (B g x)):Q (zk B (zi k) x):=by
 rw[zF]
 exact zcL I Q hs he n 0 k x Oz hk h0
theorem xW{x:Int}(h:x.natAbs<9000000000000000000):i64 x=some x:=by
 unfold i64
 rw[aG]
 unfold xc
 omega
theorem xd{x:Int}(h:x.natAbs<1000000000):i64 x=some x:=xW Oz
theorem zu{α:Type}{l:List α}{i:Nat}(h:i<l.length):ae l (i:Int)=some l[i]:=by
 unfold ae
 rw[aG Oz,Int.toNat_natCast,aE h]
theorem zV{i n:Nat}(h:i<n):decide ((i:Int)<(n:Int))=true:=aH Oz
theorem zo{i:Nat}(h:i<100000):i64 ((i:Int)+1)=some ((i+1:Nat):Int):=by rw[xd Oz];rfl
theorem yP{α:Type}{l m:List α}(h:l.length+m.length<=60000):app l m=some (l++m):=aG Oz
theorem xy{l:List Int}{i:Nat}(h:i<l.length):ae l (i:Int)=some (l.getD i 0):=by
 rw[zu h,aB,aE h];rfl
def sg(s:Bool)(n:Nat):Int:=if s=true then -(n:Int)else n
abbrev NZ:=Bool×List Int
def zG(n:Int):NZ:=(decide (n<0),dg n.natAbs)
theorem kB:zG 0=(false,[]):=by show(_,dg 0)=_;rw[qw];rfl
theorem zaZ{s:Bool}{n:Nat}(h:n≠0):zG (sg s n)=(s,dg n):=by
 unfold zG sg
 cases s<;>simp<;>omega
theorem HJ(s:Bool):sg s 0=0:=by unfold sg;cases s<;>rfl
theorem Ky(n:Int):sg (decide (n<0)) n.natAbs=n:=by
 unfold sg
 split
 .next h=>have:=cO h;omega
 .next h=>have:¬n<0:=(λg=>h (aH g));omega
theorem Ri(n:Nat):sg false n=n:=rfl
theorem Xo{a n:Int}{k:Nat}(h:True->(a<0/\n = -(k:Int))\/(0<=a/\n=k)):sg (decide (a<0)) k=n:=by
 unfold sg
 rcases h trivial with⟨h1,h2⟩|⟨h1,h2⟩
 .rw[aG (aH h1),h2]
 .rw[aD (by simp;omega),h2]
theorem nrm_end{l:List Int}(h:b8 l)(s:Bool){m:Nat}(hm:ud l l.length=m) :
 (if decide ((m:Int)=0)=true then some (false,[])else(qK l 0 (m:Int)).bind λa=>some (s,a))=some (zG (sg s (z5 l))):=by
 have e:=WI h
 rw[hm]at e
 have h0:=Om h
 rw[hm]at h0
 by_cases c:m=0
 .rw[aG (by simp[c]),h0.mp c,HJ,kB]
 .have hl:=zaw l l.length
  rw[aD (by simp[c]),qK,aG Oz,aA,zaZ (λx=>c (h0.mpr x)),<-e]
  simp
theorem ZJ{l:List Int}(h:b8 l)(hl:l.length<=5)(s:Bool):jB s l=some (zG (sg s (z5 l))):=by
 unfold jB
 refine zl l.length (λi (x:Int)=>∃m:Nat,x=m/\m+i=l.length/\ud l l.length=ud l m) (λo=>o=some (zG (sg s (z5 l)))) Oz ⟨_,rfl,rfl,rfl⟩ ?_ ?_
 .rintro i x g hi ⟨m,rfl,hm,hn⟩ hg
  obtain⟨k,rfl⟩:∃k,m=k+1:=⟨m-1,by omega⟩
  have e1:((k+1:Nat):Int)-1=(k:Int):=by omega
  rw[aG Y8,e1,xW Oz,aA,show max (k:Int) 0=k by omega,xy Oz,aA]
  rw[ud]at hn
  split
  .next c=>rw[aG (by simpa using c)]at hn;exact hg _ ⟨k,rfl,by omega,hn⟩
  .next c=>rw[aD (by simpa using c)]at hn;exact nrm_end h s hn
 .rintro x g ⟨m,rfl,hm,hn⟩
  obtain rfl:m=0:=by omega
  rw[aD Y8]
  exact nrm_end h s (m:=0) hn
theorem YZ(l:List Int)(i:Nat):Yk l (i:Int)=some (l.getD i 0):=by
 unfold Yk
 by_cases h:i<l.length
 .rw[aG (zV h),xy h];rfl
 .rw[aD (by simp;omega),aB,cU Oz];rfl
theorem tm9{w:Int}(h:0<=w):Int.tmod w 1000000000=w % 1000000000:=Int.tmod_eq_emod_of_nonneg h
theorem U4{w:Int}(h:0<=w):Int.tdiv w 1000000000=w / 1000000000:=Int.tdiv_eq_ediv_of_nonneg h
theorem oK{l:List Int}{i:Nat}(h:b8 l)(g:l.length<=i):dv l<1000000000 ^ i:=by
 have h1:=Ns h
 have h2:(1000000000:Nat) ^ l.length<=1000000000 ^ i:=Nat.pow_le_pow_right Uz g
 have a:((1000000000 ^ l.length:Nat):Int)<=((1000000000 ^ i:Nat):Int):=by omega
 rw[Int.natCast_pow,Int.natCast_pow]at a
 exact Int.lt_of_lt_of_le h1 a
theorem Bz{la lb:List Int}(ha:b8 la)(hb:b8 lb)(la3:la.length<=3)(lb3:lb.length<=3) :
 ∃l,sU la lb=some l/\b8 l/\l.length<=4/\z5 l=z5 la+z5 lb:=by
 unfold sU
 obtain⟨N,hN⟩:∃N,N=max la.length lb.length:=⟨_,rfl⟩
 have fin:∀l,b8 l->dv l=dv la+dv lb->z5 l=z5 la+z5 lb:=by
  intro l h e
  rw[qb h,qb ha,qb hb]at e
  omega
 refine zl (N+1) (λi (x:Int×Int×List Int)=>x.2.1=(i:Int)/\x.2.2.length=i/\b8 x.2.2/\0<=x.1/\x.1<=1/\(N<i->x.1=0)/\dv x.2.2+1000000000 ^ i*x.1=dv (la.take i)+dv (lb.take i)) (λo=>∃l,o=some l/\b8 l/\l.length<=4/\z5 l=z5 la+z5 lb) Oz ⟨rfl,rfl,b8.nil,by decide,by decide,by omega,rfl⟩ ?_ ?_
 .rintro i ⟨c,j,out⟩ g hi ⟨rfl,hl,hd,c0,c1,d,hv⟩ hg
  dsimp only at hl hd c0 c1 d hv |-
  have d1:=ha.at i
  have d2:=hb.at i
  obtain⟨w,hw⟩:∃w,w=la.getD i 0+lb.getD i 0+c:=⟨_,rfl⟩
  have f:=hg (w / 1000000000,((i+1:Nat):Int),out++[w % 1000000000]) ⟨rfl,by simp[hl],hd.app (b8.one Oz Oz),by dsimp only;omega,by dsimp only;omega,?_,?_⟩
  .simp only[YZ,aA,xW (show(la.getD i 0+lb.getD i 0).natAbs<_ by omega),<-hw,xW (show w.natAbs<_ by omega),tm9 (show 0<=w by omega),U4 (show 0<=w by omega),yP (show out.length+[w % 1000000000].length<=60000 by simp;omega),xW (show(w / 1000000000).natAbs<_ by omega),zo (show i<100000 by omega),aD (show ¬(1000000000:Int)=0 by decide)]
   split
   .exact f
   .split
    .exact f
    .split
     .exact f
     .next a b e=>
      have a:la.length<=i:=by simp at a;omega
      have b:lb.length<=i:=by simp at b;omega
      have e:c=0:=by simp at e;omega
      rw[qp a,qp b,e]at hv
      exact⟨out,rfl,hd,by omega,fin _ hd Oz⟩
  .intro h
   dsimp only
   have z1:la.getD i 0=0:=by rw[aB,cU Oz];rfl
   have z2:lb.getD i 0=0:=by rw[aB,cU Oz];rfl
   omega
  .dsimp only
   rw[zbc,hl,yj,yj,Int.pow_succ]
   have:=zbS hv hw
   rw[Int.mul_add]at this
   omega
 .rintro⟨c,j,out⟩ g ⟨rfl,hl,hd,c0,c1,d,hv⟩
  dsimp only at hl hd c0 c1 d hv |-
  rw[aD (by simp;omega),aD (by simp;omega),aD (by simp;omega)]
  rw[qp Oz,qp Oz,d Oz]at hv
  exact⟨out,rfl,hd,by omega,fin _ hd Oz⟩
theorem zcH{la lb:List Int}(ha:b8 la)(hb:b8 lb)(la3:la.length<=3)(hle:lb.length<=la.length)(hv:z5 lb<=z5 la) :
 ∃l,FL la lb=some l/\b8 l/\l.length<=3/\z5 l=z5 la-z5 lb:=by
 unfold FL
 have e1:=qb ha
 have e2:=qb hb
 refine zl la.length (λi (x:Int×Int×List Int)=>x.2.1=(i:Int)/\x.2.2.length=i/\b8 x.2.2/\0<=x.1/\x.1<=1/\dv x.2.2-1000000000 ^ i*x.1=dv (la.take i)-dv (lb.take i)) (λo=>∃l,o=some l/\b8 l/\l.length<=3/\z5 l=z5 la-z5 lb) Oz ⟨rfl,rfl,b8.nil,by decide,by decide,rfl⟩ ?_ ?_
 .rintro i ⟨c,j,out⟩ g hi ⟨rfl,hl,hd,c0,c1,hv⟩ hg
  dsimp only at hl hd c0 c1 hv |-
  have d1:=ha.at i
  have d2:=hb.at i
  obtain⟨w,hw⟩:∃w,w=la.getD i 0-lb.getD i 0-c:=⟨_,rfl⟩
  rw[aG (zV hi)]
  simp only[xy hi,YZ,aA,xW (show(la.getD i 0-lb.getD i 0).natAbs<_ by omega),<-hw,xW (show w.natAbs<_ by omega),xW (show(w+1000000000).natAbs<_ by omega),yP (show out.length+[w+1000000000].length<=60000 by simp;omega),yP (show out.length+[w].length<=60000 by simp;omega),zo (show i<100000 by omega)]
  split
  .next h=>
   have h:=cO h
   refine hg _ ⟨rfl,by simp[hl],hd.app (b8.one Oz Oz),by simp,by simp,?_⟩
   dsimp only
   rw[zbc,hl,yj,yj,Int.pow_succ,hw]
   simp only[Int.mul_add,Int.mul_sub]
   omega
  .next h=>
   have h:¬w<0:=λx=>h (aH x)
   refine hg _ ⟨rfl,by simp[hl],hd.app (b8.one Oz Oz),by simp,by simp,?_⟩
   dsimp only
   rw[zbc,hl,yj,yj,Int.pow_succ,hw]
   simp only[Int.mul_add,Int.mul_sub]
   omega
 .rintro⟨c,j,out⟩ g ⟨rfl,hl,hd,c0,c1,a⟩
  dsimp only at hl hd c0 c1 a |-
  rw[aD Y8]
  rw[bE,qp Oz]at a
  have:=oK hd (Nat.le_of_eq hl)
  have hc:c=0:=by
   rcases(show c=0\/c=1 by omega)with h|h
   .exact h
   .rw[h]at a;omega
  rw[hc]at a
  have e3:=qb hd
  exact⟨out,rfl,hd,by omega,by omega⟩
theorem gz{la lb:List Int}(la3:la.length<=3):JU la lb=some (C14.cmpZ la lb):=by
 unfold JU C14.cmpZ
 by_cases h1:la.length<lb.length
 .rw[aG (zV h1),aG h1]
 rw[aD (by simp;omega),aD h1]
 by_cases h2:lb.length<la.length
 .rw[aG (zV h2),aG h2]
 rw[aD (by simp;omega),aD h2,xW Oz,aA]
 refine zl la.length (λi (x:Int)=>∃m:Nat,x=(m:Int)-1/\m+i=la.length/\Z6 la lb la.length=Z6 la lb m) (λo=>o=some (Z6 la lb la.length)) Oz ⟨_,rfl,rfl,rfl⟩ ?_ ?_
 .rintro i x g hi ⟨m,rfl,hm,hn⟩ hg
  obtain⟨k,rfl⟩:∃k,m=k+1:=⟨m-1,by omega⟩
  have e1:((k+1:Nat):Int)-1=(k:Int):=by omega
  rw[e1,aG Y8,hn,Z6]
  simp only[xy (show k<la.length by omega),xy (show k<lb.length by omega),aA,aC,xW (show((k:Int)-1).natAbs<_ by omega)]
  split
  .rfl
  .split
   .rfl
   .next a b=>
    rw[Z6,aD a,aD b]at hn
    have:=hg _ ⟨k,rfl,by omega,hn⟩
    rw[hn]at this
    exact this
 .rintro x g ⟨m,rfl,hm,hn⟩
  obtain rfl:m=0:=by omega
  rw[aD Y8,hn]
  rfl
theorem RX{m n:Nat}(h:m<=n):(dg m).length<=(dg n).length:=by
 apply cX
 intro c
 have:=XG (m:=n) (n:=m) Oz
 omega
abbrev cz(n:Int):Prop:=n.natAbs<1000000000000000000
theorem Gq{a b:Int}(ha:cz a)(hb:cz b):Re (zG a) (zG b)=some (zG (a+b)):=by
 unfold Re
 have la:=xv ha
 have lb:=xv hb
 have d:=kU a.natAbs
 have f:=kU b.natAbs
 show(if (decide (a<0)==decide (b<0))=true then _ else _)=_
 by_cases h:a<0↔b<0
 .rw[aG (by simpa using h)]
  show(sU (dg a.natAbs) (dg b.natAbs)).bind _=_
  obtain⟨l,e,hd,hl,hv⟩:=Bz d f Oz Oz
  rw[e,aA,ZJ hd Oz,hv,yy,yy]
  refine congrArg (λx=>some (zG x)) ?_
  exact Xo λ_=>by omega
 .rw[aD (by simpa using h)]
  show(JU (dg a.natAbs) (dg b.natAbs)).bind _=_
  rw[gz Oz,Zk,aA]
  have hc:decide (uQ a.natAbs b.natAbs<0)=decide (a.natAbs<b.natAbs):=by
   unfold uQ
   split
   .next c=>simp[c]
   .next c=>rw[aX c];split<;>rfl
  rw[hc]
  by_cases c:a.natAbs<b.natAbs
  .rw[aG (aH c)]
   show(FL (dg b.natAbs) (dg a.natAbs)).bind _=_
   obtain⟨l,e,hd,hl,hv⟩:=zcH f d Oz (RX Oz) (by rw[yy,yy];omega)
   rw[e,aA,ZJ hd Oz,hv,yy,yy]
   refine congrArg (λx=>some (zG x)) ?_
   exact Xo λ_=>by omega
  .rw[aD (by simpa using c)]
   show(FL (dg a.natAbs) (dg b.natAbs)).bind _=_
   obtain⟨l,e,hd,hl,hv⟩:=zcH d f Oz (RX Oz) (by rw[yy,yy];omega)
   rw[e,aA,ZJ hd Oz,hv,yy,yy]
   refine congrArg (λx=>some (zG x)) ?_
   exact Xo λ_=>by omega
structure MI(la lb:List Int)(i k:Nat)(c:Int)(out:List Int):Prop where
 len:out.length=la.length+lb.length
 dig:b8 out
 c0:0<=c
 c1:c<1000000000
 val:dv out+1000000000 ^ (i+k)*c=dv (la.take i)*dv lb+1000000000 ^ i*(la.getD i 0*dv (lb.take k))
 zer:∀j,i+lb.length<=j->out.getD j 0=0
theorem vD{l:List Int}{k j:Nat}{x:Int}(h:k≠j):(l.set k x).getD j 0=l.getD j 0:=by
 rw[aB,aB,List.getElem?_set_ne h]
theorem wC{l:List Int}{k:Nat}{x:Int}(h:k<l.length):(l.set k x).getD k 0=x:=by
 rw[aB,List.getElem?_set_self h];rfl
theorem MI.start(la lb:List Int):MI la lb 0 0 0 (List.replicate (la.length+lb.length) 0):=
 ⟨dE,JD _,by decide,by decide,by rw[oL];simp[dv],λj _=>by rw[aB,List.getElem?_replicate];split<;>rfl⟩
theorem MI.w{la lb:List Int}{i k:Nat}{c:Int}{out:List Int}(h:MI la lb i k c out)(ha:b8 la)(hb:b8 lb):0<=la.getD i 0*lb.getD k 0/\la.getD i 0*lb.getD k 0<=999999999*999999999/\0<=out.getD (i+k) 0/\out.getD (i+k) 0<1000000000:=by
 have d1:=ha.at i
 have d2:=hb.at k
 have d3:=h.dig.at (i+k)
 exact⟨Int.mul_nonneg d1.1 d2.1,Int.mul_le_mul Oz Oz d2.1 Uz,d3⟩
theorem MI.step{la lb:List Int}{i k:Nat}{c w:Int}{out:List Int}(h:MI la lb i k c out)(ha:b8 la)(hb:b8 lb)(hi:i<la.length)(hk:k<lb.length)(hw:w=out.getD (i+k) 0+la.getD i 0*lb.getD k 0+c) :
 MI la lb i (k+1) (w / 1000000000) (out.set (i+k) (w % 1000000000)):=by
 obtain⟨w0,w1,o0,o1⟩:=h.w ha hb (i:=i) (k:=k)
 have c0:=h.c0
 have c1:=h.c1
 refine⟨by rw[bR];exact h.len,h.dig.set Oz Oz,by omega,by omega,?_,λj hj=>by rw[vD Oz];exact h.zer j hj⟩
 rw[VE (by rw[h.len];omega),yj,<-Nat.add_assoc,Int.pow_succ]
 have e:=zbS (P:=1000000000 ^ (i+k)) (A:=dv out-1000000000 ^ (i+k)*out.getD (i+k) 0) (c:=c+out.getD (i+k) 0) (x:=la.getD i 0*lb.getD k 0) (w:=w) rfl Oz
 have hv:=h.val
 have e2:(1000000000:Int) ^ i*(la.getD i 0*(dv (lb.take k)+1000000000 ^ k*lb.getD k 0))=1000000000 ^ i*(la.getD i 0*dv (lb.take k))+1000000000 ^ (i+k)*(la.getD i 0*lb.getD k 0):=by
  rw[Int.mul_add,Int.mul_add,Int.pow_add]
  congr 1
  ac_rfl
 rw[e2]
 rw[Int.mul_add]at e
 rw[Int.mul_sub]
 omega
theorem MI.next{la lb:List Int}{i:Nat}{c:Int}{out:List Int}(h:MI la lb i lb.length c out)(hi:i<la.length):MI la lb (i+1) 0 0 (out.set (i+lb.length) c):=by
 have hv:=h.val
 have hl:=h.len
 refine⟨by rw[bR];exact h.len,h.dig.set h.c0 h.c1,by decide,by decide,?_,λj hj=>by rw[vD Oz];exact h.zer j Oz⟩
 rw[VE Oz,h.zer _ (aN _),List.take_zero,show dv []=0 from rfl,Int.mul_zero,Int.mul_zero,Int.mul_zero,yj,Int.add_mul,Int.mul_assoc,Int.sub_zero]
 rw[bE]at hv
 omega
theorem MI.fin{la lb:List Int}{out:List Int}(h:MI la lb la.length 0 0 out)(ha:b8 la)(hb:b8 lb):z5 out=z5 la*z5 lb:=by
 have hv:=h.val
 rw[bE,List.take_zero,show dv []=0 from rfl,Int.mul_zero,Int.mul_zero,Int.mul_zero,Int.add_zero,Int.add_zero,qb h.dig,qb ha,qb hb,<-Int.natCast_mul]at hv
 omega
theorem He{la lb:List Int}(ha:b8 la)(hb:b8 lb)(la2:la.length<=2)(lb2:lb.length<=2)(s t:Bool) :
 m9 (s,la) (t,lb)=some (zG (sg (!(s==t)) (z5 la*z5 lb))):=by
 unfold m9
 dsimp only
 have e:(la.length:Int)+(lb.length:Int)=((la.length+lb.length:Nat):Int):=by omega
 rw[e,xW Oz,aA,aG Oz,Int.toNat_natCast]
 refine zl la.length (λi (x:Int×List Int)=>x.1=(i:Int)/\MI la lb i 0 0 x.2) (λo=>o=some (zG (sg (!(s==t)) (z5 la*z5 lb)))) Oz ⟨rfl,MI.start la lb⟩ ?_ ?_
 .rintro i ⟨x,out⟩ g hi ⟨rfl,b⟩ hg
  have b:MI la lb i 0 0 out:=b
  dsimp only
  rw[aG (zV hi)]
  refine zl lb.length (λk (y:Int×Int×List Int)=>y.2.1=(k:Int)/\MI la lb i k y.1 y.2.2) (λo=>o=some (zG (sg (!(s==t)) (z5 la*z5 lb)))) Oz ⟨rfl,b⟩ ?_ ?_
  .rintro k ⟨c,y,o⟩ f hk ⟨rfl,a⟩ d
   have a:MI la lb i k c o:=a
   obtain⟨w,hw⟩:∃w,w=o.getD (i+k) 0+la.getD i 0*lb.getD k 0+c:=⟨_,rfl⟩
   obtain⟨w0,w1,o0,o1⟩:=a.w ha hb
   have c0:=a.c0
   have c1:=a.c1
   have hl:=a.len
   have e1:(i:Int)+(k:Int)=((i+k:Nat):Int):=by omega
   have h:=d (w / 1000000000,((k+1:Nat):Int),o.set (i+k) (w % 1000000000)) ⟨rfl,a.step ha hb hi hk hw⟩
   dsimp only
   rw[aG (zV hk),e1]
   simp only[xW (show((i+k:Nat):Int).natAbs<_ by omega),aA,xy (show i+k<o.length by omega),xy hi,xy hk,xW (show(la.getD i 0*lb.getD k 0).natAbs<_ by omega),xW (show(o.getD (i+k) 0+la.getD i 0*lb.getD k 0).natAbs<_ by omega),<-hw,xW (show w.natAbs<_ by omega),aD (show ¬(1000000000:Int)=0 by decide),tm9 (show 0<=w by omega),U4 (show 0<=w by omega),xW (show(w / 1000000000).natAbs<_ by omega),zo (show k<100000 by omega),yQ,Int.toNat_natCast]
   exact h
  .rintro⟨c,y,o⟩ f ⟨rfl,a⟩
   have a:MI la lb i lb.length c o:=a
   have hl:=a.len
   have e1:(i:Int)+(lb.length:Int)=((i+lb.length:Nat):Int):=by omega
   dsimp only
   rw[aD Y8,e1]
   simp only[xW (show((i+lb.length:Nat):Int).natAbs<_ by omega),aA,xy (show i+lb.length<o.length by omega),zo (show i<100000 by omega),yQ,Int.toNat_natCast]
   exact hg _ ⟨rfl,a.next hi⟩
 .rintro⟨x,out⟩ g ⟨rfl,b⟩
  have b:MI la lb la.length 0 0 out:=b
  have hl:=b.len
  dsimp only
  rw[aD Y8,ZJ b.dig Oz,b.fin ha hb]
  rfl
theorem rP(a b:Int):sg (!(decide (a<0)==decide (b<0))) (a.natAbs*b.natAbs)=a*b:=by
 have e:((a.natAbs*b.natAbs:Nat):Int)=(a.natAbs:Int)*(b.natAbs:Int):=Int.natCast_mul ..
 unfold sg
 rw[e]
 by_cases ha:a<0<;>by_cases hb:b<0<;>simp only[ha,hb,decide_true,dR,eJ,Bool.not_false,beq_self_eq_true,dQ,cK,show(true==false)=false from rfl,show(false==true)=false from rfl,aV]
 .rw[Int.ofNat_natAbs_of_nonpos Oz,Int.ofNat_natAbs_of_nonpos Oz,Int.neg_mul_neg]
 .rw[Int.ofNat_natAbs_of_nonpos Oz,Int.natAbs_of_nonneg Oz,Int.neg_mul,Int.neg_neg]
 .rw[Int.natAbs_of_nonneg Oz,Int.ofNat_natAbs_of_nonpos Oz,Int.mul_neg,Int.neg_neg]
 .rw[Int.natAbs_of_nonneg Oz,Int.natAbs_of_nonneg Oz]
theorem ug{a b:Int}(ha:cz a)(hb:cz b):m9 (zG a) (zG b)=some (zG (a*b)):=by
 have:=He (kU a.natAbs) (kU b.natAbs) (xv ha) (xv hb) (decide (a<0)) (decide (b<0))
 rw[yy,yy,rP]at this
 exact this
theorem Xw{n:Int}(hn:cz n):m8 n=some (zG n):=by
 unfold m8
 refine zl 2 (λi (x:Int×List Int)=>x.2.length=i/\b8 x.2/\x.1.natAbs<1000000000 ^ (2-i)/\z5 x.2+1000000000 ^ i*x.1.natAbs=n.natAbs) (λo=>o=some (zG n)) Uz ⟨rfl,b8.nil,hn,by simp[z5]⟩ ?_ ?_
 .rintro i ⟨x,out⟩ g hi ⟨hl,hd,hx,hv⟩ hg
  dsimp only at hl hd hx hv |-
  have hx2:x.natAbs<1000000000000000000:=bL hx (by rcases(show i=0\/i=1 by omega)with rfl|rfl<;>decide)
  by_cases h0:x=0
  .rw[aD (by simp[h0]),ZJ hd Oz]
   rw[h0,Int.natAbs_zero,Nat.mul_zero,bM]at hv
   rw[hv,Ky]
   rfl
  .rw[aG (by simp[h0])]
   have m1:=Int.natAbs_tmod x 1000000000
   have d1:(Int.tdiv x 1000000000).natAbs=x.natAbs / 1000000000:=Int.natAbs_tdiv x 1000000000
   have m1:(Int.tmod x 1000000000).natAbs=x.natAbs % 1000000000:=m1
   have b:∀k:Int,k=((x.natAbs % 1000000000:Nat):Int)->g (Int.tdiv x 1000000000,out++[k])=some (zG n):=by
    rintro k rfl
    refine hg _ ⟨by simp[hl],hd.app (b8.one Oz Oz),?_,?_⟩
    .show(Int.tdiv x 1000000000).natAbs<_
     rw[d1]
     rcases(show i=0\/i=1 by omega)with rfl|rfl
     .have:x.natAbs<1000000000 ^ 2:=hx
      show _<1000000000 ^ 1
      omega
     .have:x.natAbs<1000000000 ^ 1:=hx
      show _<1000000000 ^ 0
      omega
    .show z5 (out++[_])+1000000000 ^ (i+1)*(Int.tdiv x 1000000000).natAbs=_
     rw[d1,VD,hl,Nat.pow_succ,show z5 [((x.natAbs % 1000000000:Nat):Int)]=x.natAbs % 1000000000 from(show(((x.natAbs % 1000000000:Nat):Int)).toNat+1000000000*0=_ by omega),Nat.mul_assoc,Nat.add_assoc,<-Nat.mul_add,Nat.mod_add_div]
     exact hv
   have a:i64 (Int.tdiv x 1000000000)=some (Int.tdiv x 1000000000):=xW Oz
   have c:i64 (0-Int.tmod x 1000000000)=some (0-Int.tmod x 1000000000):=xW Oz
   rw[aD Uz]
   by_cases h:Int.tmod x 1000000000<0
   .rw[aG (aH h),c,aA,yP (by simp;omega),aA,aD Uz,a,aA]
    exact b _ Oz
   .rw[aD (by simpa using h),yP (by simp;omega),aA,aD Uz,a,aA]
    exact b _ Oz
 .rintro⟨x,out⟩ g ⟨hl,hd,hx,hv⟩
  dsimp only at hl hd hx hv |-
  have h0:x=0:=by
   have:x.natAbs<1000000000 ^ 0:=hx
   omega
  rw[aD (by simp[h0]),ZJ hd Oz]
  rw[h0,Int.natAbs_zero,Nat.mul_zero,bM]at hv
  rw[hv,Ky]
  rfl
theorem VH{m:Nat}(h:m<1000000000000000000):(m=0/\dg m=[])\/(m≠0/\m / 1000000000=0/\dg m=[((m % 1000000000:Nat):Int)])\/(m / 1000000000≠0/\dg m=[((m % 1000000000:Nat):Int),((m / 1000000000:Nat):Int)]):=by
 by_cases h0:m=0
 .exact .inl ⟨h0,e9.mpr h0⟩
 .by_cases h1:m / 1000000000=0
  .exact .inr (.inl ⟨h0,h1,by rw[uy h0,e9.mpr h1]⟩)
  .refine .inr (.inr ⟨h1,?_⟩)
   rw[uy h0,VI h1 Oz]
theorem Aq{m:Nat}(h:m<1000000000000000000):(dg m).getD 0 0=((m % 1000000000:Nat):Int)/\(dg m).getD 1 0=((m / 1000000000:Nat):Int):=by
 rcases VH h with⟨h0,e⟩|⟨h0,h1,e⟩|⟨h1,e⟩
 .rw[e,h0];exact⟨rfl,rfl⟩
 .rw[e,h1];exact⟨rfl,rfl⟩
 .rw[e];exact⟨rfl,rfl⟩
theorem QJ{m:Nat}(h:m<1000000000000000000):JT (dg m)=some (m:Int):=by
 unfold JT
 obtain⟨c,e1⟩:=Aq h
 have h0:=YZ (dg m) 0
 have h1:=YZ (dg m) 1
 rw[c]at h0
 rw[e1]at h1
 have h2:((m % 1000000000:Nat):Int)+1000000000*((m / 1000000000:Nat):Int)=m:=by omega
 have h3:((m / 1000000000:Nat):Int).natAbs<1000000000:=by omega
 have h4:((m % 1000000000:Nat):Int).natAbs<1000000000:=by omega
 generalize ((m % 1000000000:Nat):Int)=a at *
 generalize ((m / 1000000000:Nat):Int)=b at *
 have h0:Yk (dg m) 0=some a:=h0
 have h1:Yk (dg m) 1=some b:=h1
 rw[h1,aA,xW (x:=b*1000000000) Oz,aA,h0,aA,xW (x:=b*1000000000+a) Oz,aA,<-h2]
 congr 1
 omega
theorem iy{n:Nat}(h:n<1000000000000000000):cz (n:Int):=by show Int.natAbs n<_;rw[Int.natAbs_natCast];exact h
theorem Vo{n:Nat}(h:n<1000000000000000000):i64 (n:Int)=some (n:Int):=xW (by rw[Int.natAbs_natCast];omega)
theorem xX(n:Nat):zG (n:Int)=(false,dg n):=by
 unfold zG
 rw[Int.natAbs_natCast,aX Oz]
theorem zfA{m n:Nat}(hm:m<1000000000000000000)(hn:n<1000000000000000000)(h0:n≠0):sW (dg m) (dg n)=some (dg (m / n),dg (m % n)):=by
 unfold sW
 have l1:=xv hm
 have l2:=xv hn
 have a:m / n<1000000000000000000:=cD (Nat.div_le_self m n) hm
 have c:m % n<1000000000000000000:=cD (Nat.mod_le m n) hm
 have eq:Int.tdiv (m:Int) (n:Int)=((m / n:Nat):Int):=rfl
 have b:Int.tmod (m:Int) (n:Int)=((m % n:Nat):Int):=rfl
 rw[aG (by simp;omega),aG (by simp;omega),QJ hm,aA,QJ hn,aA,aD Oz,eq,Vo a,aA,Xw (iy a),aA,aA,aA,aD Oz,b,Xw (iy c),aA,xX,xX]
theorem K1(m:Nat)(h:m<1000000000000000000)(s:Bool):jB s (dg m)=some (zG (sg s m)):=by
 rw[ZJ (kU m) (by have:=xv h;omega),yy]
theorem rO{a g:Int}(hg:0<g)(hd:g∣a):sg (!(decide (a<0)==decide (g<0))) (a.natAbs / g.natAbs)=a / g:=by
 obtain⟨k,rfl⟩:=hd
 rw[dW,Nat.mul_div_cancel_left _ Oz,Int.mul_ediv_cancel_left _ Oz]
 have e:decide (g<0)=false:=by simp;omega
 have e2:decide (g*k<0)=decide (k<0):=by
  rw[decide_eq_decide]
  refine⟨λh=>?_,λh=>Int.mul_neg_of_pos_of_neg hg h⟩
  apply cX
  intro c
  have:=Int.mul_nonneg (Int.le_of_lt hg) (show 0<=k by omega)
  omega
 rw[e,e2,show(!(decide (k<0)==false))=decide (k<0)by cases decide (k<0)<;>rfl]
 exact Ky k
theorem oC{a g:Int}(ha:cz a)(hg:0<g)(b:cz g)(hd:g∣a):I4 (zG a) (zG g)=some (zG (a / g),zG 0):=by
 unfold I4
 have hm:a.natAbs % g.natAbs=0:=Nat.mod_eq_zero_of_dvd (Int.natAbs_dvd_natAbs.mpr hd)
 have hq:a.natAbs / g.natAbs<=a.natAbs:=Nat.div_le_self ..
 have c:¬(decide (((zG g).2.length:Int)=0))=true:=by
  have:(zG g).2.length≠0:=λh=>by have:=bl.mp h;omega
  rw[aC];omega
 rw[aD c,show sW (zG a).2 (zG g).2=_ from zfA ha b Oz,aA,hm,K1 _ Oz,aA,K1 0 Uz,aA,HJ]
 show(if decide (a<0)=true then _ else _)=_
 have hs:sg (!((zG a).1==(zG g).1)) (a.natAbs / g.natAbs)=a / g:=rO hg hd
 rw[hs]
 have:¬decide (0<((zG 0).2.length:Int))=true:=by rw[kB];decide
 rw[aD this]
 split<;>rfl
theorem zdd(m n:Nat):Nat.gcd m n=Nat.gcd n (m % n):=by rw[Nat.gcd_comm m n,Nat.gcd_rec n m,Nat.gcd_comm]
theorem zfq{ρ:Type}{B:(Int×Int->Option ρ)->Int×Int->Option ρ}(E:Int->Option ρ)(h0:∀g m,B g (m,0)=E m)(h1:∀g (m n:Nat),n≠0->B g ((m:Int),(n:Int))=g ((n:Int),((m % n:Nat):Int))) :
 ∀(j m n k:Nat),n<2 ^ j->2*j<k->zk B k ((m:Int),(n:Int))=E (Nat.gcd m n:Nat)
 |0,m,n,k+1,hn,_=>by
  obtain rfl:n=0:=by have:n<1:=hn;omega
  rw[ze,Nat.gcd_zero_right]
  exact h0 _ _
 |j+1,m,n,k+2,hn,hk=>by
  by_cases a:n=0
  .subst a
   rw[ze,Nat.gcd_zero_right]
   exact h0 _ _
  rw[ze,h1 _ _ _ a,ze,zdd m n]
  have d:=Nat.mod_lt m (show 0<n by omega)
  generalize m % n=r at d
  by_cases b:r=0
  .subst b
   rw[Nat.gcd_zero_right]
   exact h0 _ _
  rw[h1 _ _ _ b,zdd n r]
  refine zfq E h0 h1 j r (n % r) k ?_ Oz
  have h2:=Nat.mod_lt n (show 0<r by omega)
  have h3:=Nat.div_add_mod n r
  have c:1<=n / r:=Nat.div_pos Oz Oz
  have h5:r*1<=r*(n / r):=cI r c
  rw[Nat.pow_succ]at hn
  omega
 |0,_,_,0,_,h=>by omega
 |j+1,_,_,0,_,h=>by omega
 |j+1,_,_,1,_,h=>by omega
theorem QY{m n:Nat}(hn:n<1000000000000000000)(h:n≠0):Nat.gcd m n<1000000000000000000:=cD (Nat.gcd_le_right m Oz) hn
theorem o8{a b:Int}(ha:cz a)(hb:cz b)(h0:b≠0):sC (zG a) (zG b)=some (zG (Nat.gcd a.natAbs b.natAbs:Nat)):=by
 unfold sC
 rw[show jB false (zG a).2=_ from K1 a.natAbs ha false,show jB false (zG b).2=_ from K1 b.natAbs hb false,aA,aA,Ri,Ri,xX,xX,zF 2,ze]
 have l1:=xv ha
 have l2:=xv hb
 have l0:(dg b.natAbs).length≠0:=λh=>by have:=bl.mp h;omega
 have hg:=QY (m:=a.natAbs) hb Oz
 dsimp only
 rw[aG (by rw[aC];omega),aG (by rw[aC];omega),aG (by rw[aC];omega),QJ ha,aA,QJ hb,aA,zF 130]
 rw[zfq (λx=>(m8 x).bind λc=>some c) (λg m=>aD Y8) (λg m n hn=>by rw[aG (by rw[aC];show(0:Int)<n;omega),aD (by show ¬(n:Int)=0;omega)];rfl) 60 a.natAbs b.natAbs 130 (Nat.lt_trans hb Uz) Uz]
 rw[Xw (iy hg)]
 rfl
theorem Sa{n:Int}(hn:cz n):FQ (zG n)=some (decide (n=1)):=by
 unfold FQ
 show(if decide (n<0)=true then _ else(if decide (((dg n.natAbs).length:Int)≠1)=true then _ else(ae (dg n.natAbs) 0).bind _))=_
 by_cases h:n<0
 .rw[aG (aH h),aX Oz]
 rw[aD (by rw[aC];exact h)]
 rcases VH hn with⟨h0,e⟩|⟨h0,h1,e⟩|⟨h1,e⟩<;>rw[e]
 .rw[aG Uz,aX Oz]
 .rw[aD Y8,show ae [((n.natAbs % 1000000000:Nat):Int)] 0=some ((n.natAbs % 1000000000:Nat):Int)from rfl,aA]
  congr 1
  rw[decide_eq_decide]
  omega
 .rw[aG Y8,aX Oz]
theorem zeR{n:Int}(hn:cz n):LB (zG n)=some (zG (-n)):=by
 unfold LB
 rw[show jB (!(zG n).1) (zG n).2=_ from K1 n.natAbs hn (!decide (n<0)),aA]
 congr 2
 unfold sg
 by_cases h:n<0
 .rw[aH h]
  show((n.natAbs:Nat):Int) = -n
  omega
 .rw[aX h]
  show -((n.natAbs:Nat):Int) = -n
  omega
theorem kL(q:Rat):yg q=(zG q.num,if q.den=1 then(false,[])else zG (q.den:Int)):=by
 unfold yg
 rw[xX]
 split<;>rfl
theorem KA{a:Int}{g:Nat}(ha:cz a)(hd:(g:Int)∣a):cz (a / (g:Int)):=by
 obtain⟨k,rfl⟩:=hd
 unfold cz at *
 by_cases h0:g=0
 .subst h0;rw[Int.natCast_zero,Int.ediv_zero];decide
 .rw[Int.mul_ediv_cancel_left _ Oz]
  rw[dW,Int.natAbs_natCast]at ha
  exact cD (Nat.le_mul_of_pos_left _ Oz) ha
theorem zgI{a:Int}(h:cz a):cz (-a):=by unfold cz at *;rw[Int.natAbs_neg];exact h
theorem zaz{p q:Int}(hp:cz p)(c:cz q)(h0:q≠0):Lx (zG p) (zG q)=some (yg (Rat.divInt p q)):=by
 unfold Lx
 have lq:(zG q).2.length≠0:=λh=>by have:=bl.mp h;omega
 rw[aD (by rw[aC];omega)]
 by_cases e:p=0
 .subst e
  rw[aG (by rw[kB];rfl),Rat.zero_divInt,kL,aG (show(0:Rat).den=1 from rfl),show(0:Rat).num=0 from rfl,kB]
 have lp:(zG p).2.length≠0:=λh=>by have:=bl.mp h;omega
 rw[aD (by rw[aC];omega),o8 hp c h0,aA]
 have hg:=QY (m:=p.natAbs) c Oz
 have hgp:=zaI (p:=p) h0
 have e1:=Zr (p:=p) h0
 have e2:=zds (p:=p) h0
 have d:=YV (p:=p) h0
 have d1:((Nat.gcd p.natAbs q.natAbs:Nat):Int)∣p:=Int.ofNat_dvd_left.mpr (Nat.gcd_dvd_left _ _)
 have d2:((Nat.gcd p.natAbs q.natAbs:Nat):Int)∣q:=Int.ofNat_dvd_left.mpr (Nat.gcd_dvd_right _ _)
 generalize Nat.gcd p.natAbs q.natAbs=G at *
 rw[oC hp Oz (iy hg) d1,oC c Oz (iy hg) d2,aA,aA]
 have s1:=KA hp d1
 have s2:=KA c d2
 rw[kL,e1]
 generalize p / (G:Int)=P at *
 generalize q / (G:Int)=U at *
 have hd:∀z:Int,((Rat.divInt p q).den:Int)=z->(if (Rat.divInt p q).den=1 then(false,([]:List Int))else zG ((Rat.divInt p q).den:Int))=if decide (z=1)=true then(false,[])else zG z:=by
  rintro z rfl
  by_cases h:(Rat.divInt p q).den=1
  .rw[aG h,aG (aH Oz)]
  .rw[aD h,aD (by rw[aC];omega)]
 rw[hd _ e2]
 show(if decide (U<0)=true then _ else _)=_
 by_cases a:U<0
 .rw[aG (aH a),aG (d.mp a),aG (d.mp a),zeR s1,zeR s2,aA,aA,Sa (zgI s2),aA]
  split<;>rfl
 .have b:¬q<0:=λh=>a (d.mpr h)
  rw[aD (by rw[aC];exact a),aD b,aD b,Sa s2,aA]
  split<;>rfl
def Sm(q:Rat):Prop:=q.num.natAbs<500000000/\q.den<500000000
def Sg(q:Rat):Prop:=q.num.natAbs<250000000000/\q.den<1000000
def S1(q:Rat):Prop:=q.num.natAbs<1000000000000000000/\q.den<1000000000000000000
def S2(a b:Rat):Prop:=(S1 a/\S1 b)/\(a.num*(b.den:Int)).natAbs<=250000000000000000/\(b.num*(a.den:Int)).natAbs<=250000000000000000/\a.den*b.den<=250000000000000000
instance {q:Rat}:Decidable (Sm q):=inferInstanceAs (Decidable (_/\_))
instance {q:Rat}:Decidable (S1 q):=inferInstanceAs (Decidable (_/\_))
instance {a b:Rat}:Decidable (S2 a b):=inferInstanceAs (Decidable (_/\_))
theorem S1.n{q:Rat}(h:S1 q):cz q.num:=h.1
theorem S1.d{q:Rat}(h:S1 q):cz (q.den:Int):=iy h.2
theorem Sm.s1{q:Rat}(h:Sm q):S1 q:=⟨by have:=h.1;omega,by have:=h.2;omega⟩
theorem Sg.s1{q:Rat}(h:Sg q):S1 q:=⟨by have:=h.1;omega,by have:=h.2;omega⟩
theorem Sm.n{q:Rat}(h:Sm q):cz q.num:=h.s1.n
theorem Sm.d{q:Rat}(h:Sm q):cz (q.den:Int):=h.s1.d
theorem Sm.neg{q:Rat}(h:Sm q):Sm (-q):=⟨by rw[Rat.neg_num,Int.natAbs_neg];exact h.1,by rw[Rat.neg_den];exact h.2⟩
theorem S1.neg{q:Rat}(h:S1 q):S1 (-q):=⟨by rw[Rat.neg_num,Int.natAbs_neg];exact h.1,by rw[Rat.neg_den];exact h.2⟩
theorem S2.neg{a b:Rat}(h:S2 a b):S2 a (-b):=⟨⟨h.1.1,h.1.2.neg⟩,by rw[Rat.neg_den,Rat.neg_num,Int.neg_mul,Int.natAbs_neg];exact h.2⟩
theorem QT{a b c A B:Nat}(h:a<=A)(g:b<=B)(e:A*B<=c):a*b<=c:=bK (eE h g) e
theorem Fc{N D:Nat}{a b:Rat}(ha:S1 a)(hb:S1 b)(h1:a.num.natAbs<=N/\a.den<=D)(h2:b.num.natAbs<=N/\b.den<=D)(h:N*D<=250000000000000000/\D*D<=250000000000000000):S2 a b:=by
 refine⟨⟨ha,hb⟩,?_,?_,QT h1.2 h2.2 h.2⟩
 .rw[dW,Int.natAbs_natCast];exact QT h1.1 h2.2 h.1
 .rw[dW,Int.natAbs_natCast];exact QT h2.1 h1.2 h.1
theorem Sm.s2{a b:Rat}(ha:Sm a)(hb:Sm b):S2 a b:=Fc (N:=500000000) (D:=500000000) ha.s1 hb.s1 ⟨Nat.le_of_lt ha.1,Nat.le_of_lt ha.2⟩ ⟨Nat.le_of_lt hb.1,Nat.le_of_lt hb.2⟩ ⟨by decide,by decide⟩
theorem Sg.s2{a b:Rat}(ha:Sg a)(hb:Sg b):S2 a b:=Fc (N:=250000000000) (D:=1000000) ha.s1 hb.s1 ⟨Nat.le_of_lt ha.1,Nat.le_of_lt ha.2⟩ ⟨Nat.le_of_lt hb.1,Nat.le_of_lt hb.2⟩ ⟨by decide,by decide⟩
theorem rZ{a b:Nat}(h:a<500000000)(g:b<500000000):a*b<=250000000000000000:=QT (Nat.le_of_lt h) (Nat.le_of_lt g) Uz
theorem Sm.dd{a b:Rat}(ha:Sm a)(hb:Sm b):a.den*b.den<=250000000000000000:=rZ ha.2 hb.2
theorem zft{q:Rat}(h:S1 q):(q.den=1/\(yg q).2=(false,[]))\/(q.den≠1/\(yg q).2=zG (q.den:Int)/\(zG (q.den:Int)).2.length≠0):=by
 rw[kL]
 by_cases hd:q.den=1
 .exact .inl ⟨hd,aG hd⟩
 .refine .inr ⟨hd,aD hd,?_⟩
  intro g
  rw[xX]at g
  exact q.den_nz (bl.mp g)
theorem kC(q:Rat):(yg q).1=zG q.num:=rfl
theorem Oo:m8 1=some (zG 1):=Xw Uz
theorem XH{q:Rat}(h:S1 q):tC (yg q)=some (zG (q.den:Int)):=by
 unfold tC
 rcases zft h with⟨hd,e⟩|⟨hd,e,hl⟩<;>rw[e]
 .rw[aG (by rfl),Oo,hd];rfl
 .rw[aD (by rw[aC];omega)]
theorem zhR{a b:Rat}:Rat.divInt (a.num*(b.den:Int)+b.num*(a.den:Int)) ((a.den:Int)*(b.den:Int))=a+b:=by
 rw[Rat.add_def',<-Rat.divInt_ofNat,Int.natCast_mul]
theorem AQ{a b:Rat}:Rat.divInt (a.num*b.num) ((a.den:Int)*(b.den:Int))=a*b:=by
 rw[Rat.mul_def',<-Rat.divInt_ofNat,Int.natCast_mul]
theorem ox(a b:Rat):(a.den:Int)*(b.den:Int)≠0:=by
 have h1:=a.den_nz
 have h2:=b.den_nz
 exact Int.mul_ne_zero Oz Oz
theorem zhT{a b:Rat}(h:S2 a b):RN (yg a) (yg b)=some (yg (a+b)):=by
 unfold RN
 have h1:=h.2.1
 have h2:=h.2.2.1
 have h3:=h.2.2.2
 have e:((a.den:Int)*(b.den:Int))=((a.den*b.den:Nat):Int):=(Int.natCast_mul ..).symm
 simp only[kC,XH h.1.1,XH h.1.2,aA]
 rw[ug h.1.1.n h.1.2.d,aA,ug h.1.2.n h.1.1.d,aA,Gq (by unfold cz;omega) (by unfold cz;omega),aA,ug h.1.1.d h.1.2.d,aA,zaz (by unfold cz;omega) (by rw[e];exact iy Oz) (ox a b),aA,zhR]
theorem zha{a:Rat}(ha:S1 a):RO (yg a)=some (yg (-a)):=by
 unfold RO
 rw[kC,zeR ha.n,aA,kL (-a),kL a,Rat.neg_num,Rat.neg_den]
theorem BN{a b:Rat}(h:S2 a b):z98 (yg a) (yg b)=some (yg (a-b)):=by
 unfold z98
 rw[zha h.1.2,aA,zhT h.neg,aA,Rat.sub_eq_add_neg]
theorem Sm.nn{a b:Rat}(ha:Sm a)(hb:Sm b):(a.num*b.num).natAbs<=250000000000000000:=by
 rw[dW];exact rZ ha.1 hb.1
theorem AP{a b:Rat}(ha:Sm a)(hb:Sm b):z99 (yg a) (yg b)=some (yg (a*b)):=by
 unfold z99
 have h1:=ha.nn hb
 have h3:=ha.dd hb
 have e:((a.den:Int)*(b.den:Int))=((a.den*b.den:Nat):Int):=(Int.natCast_mul ..).symm
 simp only[kC,XH ha.s1,XH hb.s1,aA]
 rw[ug ha.n hb.n,aA,ug ha.d hb.d,aA,zaz (by unfold cz;omega) (by rw[e];exact iy Oz) (ox a b),aA,AQ]
theorem zhb{m n:Int}(hm:cz m)(hn:cz n):tc (zG m) (zG n)=some (yz m n):=by
 unfold tc
 have l1:=xv hm
 have l2:=xv hn
 show(if (!(decide (m<0)==decide (n<0)))=true then(if decide (m<0)=true then _ else _)else(if decide (m<0)=true then(JU (dg n.natAbs) (dg m.natAbs)).bind _ else(JU (dg m.natAbs) (dg n.natAbs)).bind _))=_
 rw[gz Oz,gz Oz,Zk,Zk,aA,aA]
 by_cases h1:m<0<;>by_cases h2:n<0
 .rw[aH h1,aH h2,aD Uz,aG rfl]
  congr 1
  unfold uQ yz
  split<;>split<;>(try split)<;>(try split)<;>first|rfl|omega
 .rw[aH h1,aX h2,aG Uz,aG rfl,yz,aG Oz]
 .rw[aX h1,aH h2,aG Uz,aD Uz,yz,aD Oz,aG Oz]
 .rw[aX h1,aX h2,aD Uz,aD Uz]
  congr 1
  unfold uQ yz
  split<;>split<;>(try split)<;>(try split)<;>first|rfl|omega
theorem Ai{a b:Rat}(h:S2 a b):Ir (yg a) (yg b)=some (kV a b):=by
 unfold Ir
 have h1:=h.2.1
 have h2:=h.2.2.1
 simp only[kC,XH h.1.1,XH h.1.2,aA]
 rw[ug h.1.1.n h.1.2.d,aA,ug h.1.2.n h.1.1.d,aA,zhb (by unfold cz;omega) (by unfold cz;omega),aA,zbh]
theorem rX{a:Rat}(ha:S1 a):z80 (yg a)=some (yz a.num 0):=by
 unfold z80 Is
 rw[kC,<-kB,zhb ha.n Uz]
 rfl
theorem Hk{p q:Int}(hp:p.natAbs<1000000000)(hq:q.natAbs<1000000000)(h0:0<q):Yp p q=some (yg (Rat.divInt p q)):=by
 unfold Yp
 rw[Xw (by unfold cz;omega),aA,Xw (by unfold cz;omega),aA,zaz (by unfold cz;omega) (by unfold cz;omega) Oz]
 rfl
theorem WJ{l:List Int}{i:Nat}(h:i<l.length):l.take (i+1)=l.take i++[l.getD i 0]:=by
 rw[List.take_succ_eq_append_getElem h,aB,aE h];rfl
theorem Fe{la lb:List Int}(hl:la.length=lb.length)(h3:la.length<=2){k:Nat}(hk:2<k) :
 zk (λg1 (b:Int)=>(if (decide (b<(la.length:Int)))=true then((ae la b).bind λx2=>((ae lb b).bind λd=>(if (decide (x2≠d))=true then some false else((i64 (b+1)).bind λn4=>g1 n4))))else some true)) (zi k) 0=some (decide (la=lb)):=by
 refine zl la.length (λi (x:Int)=>x=(i:Int)/\la.take i=lb.take i) (λo=>o=some (decide (la=lb))) Oz ⟨rfl,rfl⟩ ?_ ?_
 .rintro i x g hi ⟨rfl,a⟩ hg
  rw[aG (zV hi),xy hi,xy (show i<lb.length by omega),aA,aA]
  by_cases h:la.getD i 0=lb.getD i 0
  .rw[aD (by rw[aC];exact λc=>c h),zo Oz,aA]
   exact hg _ ⟨rfl,by rw[WJ hi,WJ Oz,a,h]⟩
  .rw[aG (by rw[aC];exact h),aX]
   rintro rfl
   exact h rfl
 .rintro x g ⟨rfl,a⟩
  rw[bE,hl,bE]at a
  rw[aD Y8,aH a]
theorem WS{s t:Bool}{la lb:List Int}(a:la.length<=2):IZ (s,la) (t,lb)=some (decide ((s,la)=(t,lb))):=by
 unfold IZ
 show(if (!(s==t))=true then _ else(if decide ((la.length:Int)≠(lb.length:Int))=true then _ else _))=_
 by_cases h:s=t
 .subst h
  rw[aD Y8]
  by_cases hl:la.length=lb.length
  .rw[aD (by simp[hl]),Fe hl a Uz]
   congr 1
   rw[decide_eq_decide,Prod.mk.injEq]
   simp
  .rw[aG (by rw[aC];omega),aX]
   rintro h
   exact hl (congrArg (λx=>x.2.length) h)
 .rw[aG (by simpa using h),aX]
  rintro g
  exact h (congrArg Prod.fst g)
theorem oP{m n:Int}(h:zG m=zG n):m=n:=by
 have h1:=congrArg Prod.fst h
 have h2:=oy (congrArg Prod.snd h)
 have h1:(m<0)=(n<0):=by simpa[zG]using h1
 by_cases c:m<0
 .have:n<0:=h1▸c
  omega
 .have:¬n<0:=h1▸c
  omega
theorem oO{a b:Rat}(h:yg a=yg b):a=b:=by
 have h1:=oP (congrArg Prod.fst h)
 have h2:=congrArg (λx=>x.2.2) h
 have h2:(if a.den=1 then []else dg a.den)=(if b.den=1 then []else dg b.den):=h2
 refine Rat.ext h1 ?_
 split at h2
 .split at h2
  .omega
  .exact absurd (e9.mp h2.symm) b.den_nz
 .split at h2
  .exact absurd (e9.mp h2) a.den_nz
  .exact oy h2
theorem zdj{a:Rat}(ha:S1 a):(yg a).1.2.length<=2/\(yg a).2.2.length<=2:=by
 refine⟨xv ha.n,?_⟩
 show(if a.den=1 then []else dg a.den).length<=2
 split
 .simp
 .exact xv ha.2
theorem zca{a b:Rat}{r1 r2:Bool}(h1:r1=decide ((yg a).1=(yg b).1))(h2:r2=decide ((yg a).2=(yg b).2)):(if r1=true then some r2 else some false)=some (decide (a=b)):=by
 subst h1 h2
 by_cases c1:(yg a).1=(yg b).1
 .rw[aG (aH c1)]
  congr 1
  rw[decide_eq_decide]
  exact⟨λc=>oO (Prod.ext c1 c),λe=>by rw[e]⟩
 .rw[aD (by rw[aC];exact c1),aX]
  rintro rfl
  exact c1 rfl
theorem rJ{a b:Rat}(ha:S1 a):Ii (yg a) (yg b)=some (decide (a=b)):=by
 unfold Ii
 obtain⟨c,d⟩:=zdj ha
 rw[show IZ (yg a).1 (yg b).1=_ from WS c,show IZ (yg a).2 (yg b).2=_ from WS d,aA]
 exact zca rfl rfl
theorem zhj{m:Nat}(h:m<1000000000000000000)(h0:(dg m).length≠0):(dg m).getD ((dg m).length-1) 0≠0:=by
 rcases VH h with⟨h1,e⟩|⟨h1,h2,e⟩|⟨h1,e⟩
 .rw[e]at h0;exact absurd rfl h0
 .rw[e];show((m % 1000000000:Nat):Int)≠0;omega
 .rw[e];show((m / 1000000000:Nat):Int)≠0;omega
theorem ZD{n:Int}(hn:cz n):mN (zG n)=some true:=by
 unfold mN
 have hl:=xv hn
 have hd:=kU n.natAbs
 show zk (λg1 (a:Int)=>(if decide (a<((dg n.natAbs).length:Int))=true then(ae (dg n.natAbs) a).bind _ else(if decide (((dg n.natAbs).length:Int)=0)=true then some (!decide (n<0))else(i64 (((dg n.natAbs).length:Int)-1)).bind λb=>(ae (dg n.natAbs) b).bind _))) _ _=_
 refine zl (dg n.natAbs).length (λi (x:Int)=>x=(i:Int)) (λo=>o=some true) Oz rfl ?_ ?_
 .rintro i x g hi rfl hg
  have:=hd.at i
  rw[aG (zV hi),xy hi,aA,aD (by rw[aC];omega)]
  show(ae (dg n.natAbs) (i:Int)).bind _=_
  rw[xy hi,aA,aD (by rw[aC];omega),zo Oz,aA]
  exact hg _ rfl
 .rintro x g rfl
  rw[aD Y8]
  by_cases h0:(dg n.natAbs).length=0
  .have:=bl.mp h0
   rw[aG (by rw[h0];rfl),aX Oz]
   rfl
  .have e:((dg n.natAbs).length:Int)-1=(((dg n.natAbs).length-1:Nat):Int):=by omega
   have h:=zhj hn h0
   rw[aD (by rw[aC];omega),e,xW Oz,aA,xy Oz,aA,aH h]
theorem sD:FQ (false,[])=some false:=rfl
theorem VA{a:Rat}(ha:S1 a):(a.den≠1->Nat.gcd a.num.natAbs (a.den:Int).natAbs=1):=λ_=>by
 rw[Int.natAbs_natCast];exact a.reduced
theorem mF{a:Rat}(ha:S1 a):Ik (yg a)=some true:=by
 unfold Ik
 have v0:mN (false,[])=some true:=by rw[<-kB];exact ZD Uz
 have b:(a.den:Int)≠0:=by have:=a.den_nz;omega
 rw[kC,ZD ha.n,aA,aD Uz]
 rcases zft ha with⟨hd,e⟩|⟨hd,e,hl⟩<;>rw[e]
 .rw[v0,aA,aD Uz,aD Uz,sD,aA,aD Uz,aG (by rfl)]
 .have e1:(zG (a.den:Int)).1=false:=by rw[xX]
  rw[ZD ha.d,aA,aD Uz,e1,aD Uz,Sa ha.d,aA,aD (by rw[aC];omega),aD (by rw[aC];omega),o8 ha.n ha.d b,VA ha hd,aA,Sa Uz]
  rfl
theorem Tu{α:Type}{p q:Prop}[Decidable p][Decidable q]{F X:α}(h:¬(p/\q)):(if p then(if q then F else X)else X)=X:=by
 by_cases hp:p
 .rw[aG hp,aD λa=>h ⟨hp,a⟩]
 .rw[aD hp]
theorem Rk{l:List Int}(h:b8 l)(hl:l.length<=5)(s:Bool):uU s l=some (zG (sg s (z5 l))):=by
 unfold uU
 refine zl l.length (λi (x:Int)=>∃m:Nat,x=m/\m+i=l.length/\ud l l.length=ud l m) (λo=>o=some (zG (sg s (z5 l)))) Oz ⟨_,rfl,rfl,rfl⟩ ?_ ?_
 .rintro i x g hi ⟨m,rfl,hm,hn⟩ hg
  obtain⟨k,rfl⟩:∃k,m=k+1:=⟨m-1,by omega⟩
  have e1:((k+1:Nat):Int)-1=(k:Int):=by omega
  rw[aG Y8,e1,xW Oz,aA,xy Oz,aA,aG rfl]
  rw[ud]at hn
  split
  .next c=>rw[aG (by simpa using c)]at hn;exact hg _ ⟨k,rfl,by omega,hn⟩
  .next c=>rw[aD (by simpa using c)]at hn;exact nrm_end h s hn
 .rintro x g ⟨m,rfl,hm,hn⟩
  obtain rfl:m=0:=by omega
  rw[aD Y8,aG rfl]
  exact nrm_end h s (m:=0) hn
theorem Fa(m:Nat)(h:m<1000000000000000000)(s:Bool):uU s (dg m)=some (zG (sg s m)):=by
 rw[Rk (kU m) (by have:=xv h;omega),yy]
theorem Qj{l:List Int}{i:Nat}{x:Int}:dv ((l.set i x).take i)=dv (l.take i):=by
 rw[List.take_set,List.set_eq_of_length_le (by rw[bX];omega)]
theorem zcZ{l:List Int}{i:Nat}(h:l.length<=i):l.getD i 0=0:=by
 rw[aB,cU h];rfl
theorem zct{la lb:List Int}(ha:b8 la)(hb:b8 lb)(la2:la.length<=2)(hle:lb.length<=la.length) :
 ∃l,Wo la lb=some l/\b8 l/\l.length<=3/\z5 l=z5 la+z5 lb:=by
 unfold Wo
 have q:(la.length:Int)+1=((la.length+1:Nat):Int):=by omega
 rw[aD (by rw[aC];omega),q,xW Oz,aA,aG Oz,Int.toNat_natCast]
 refine zl la.length (λi (x:Int×Int×List Int)=>x.2.1=(i:Int)/\x.2.2.length=la.length+1/\b8 x.2.2/\0<=x.1/\x.1<=1/\dv (x.2.2.take i)+1000000000 ^ i*x.1=dv (la.take i)+dv (lb.take i)) (λo=>∃l,o=some l/\b8 l/\l.length<=3/\z5 l=z5 la+z5 lb) Oz ⟨rfl,dE,JD _,by simp,by simp,by simp[dv]⟩ ?_ ?_
 .rintro i ⟨c,j,out⟩ g hi ⟨rfl,hl,hd,c0,c1,hv⟩ hg
  dsimp only at hl hd c0 c1 hv |-
  have d1:=ha.at i
  have d2:=hb.at i
  have fin:∀w:Int,w=la.getD i 0+c+lb.getD i 0->∃l,(if (decide (1000000000<=w))=true then((i64 (w-1000000000)).bind λr=>((ae out (i:Int)).bind λx8=>((ae out (i:Int)).bind λx9=>((i64 ((i:Int)+1)).bind λb=>g (1,b,(zM out (Int.toNat (i:Int)) r))))))else((ae out (i:Int)).bind λx11=>((ae out (i:Int)).bind λx12=>((i64 ((i:Int)+1)).bind λd=>g (0,d,(zM out (Int.toNat (i:Int)) w))))))=some l/\b8 l/\l.length<=3/\z5 l=z5 la+z5 lb:=by
   intro w hw
   have key:∀(c' v:Int),0<=c'->c'<=1->0<=v->v<1000000000->w=v+1000000000*c'->∃l,g (c',((i+1:Nat):Int),out.set i v)=some l/\b8 l/\l.length<=3/\z5 l=z5 la+z5 lb:=by
    intro c' v f m n p e
    refine hg _ ⟨rfl,by rw[bR];exact hl,hd.set n p,f,m,?_⟩
    dsimp only
    rw[yj,yj,yj,Qj,wC Oz,Int.pow_succ]
    have e2:(1000000000:Int) ^ i*v+1000000000 ^ i*1000000000*c'=1000000000 ^ i*w:=by rw[e,Int.mul_add,Int.mul_assoc]
    rw[hw,Int.mul_add,Int.mul_add]at e2
    omega
   by_cases h:1000000000<=w
   .rw[aG (aH h),xW Oz,aA,xy Oz,aA,aA,zo Oz,aA,yQ,Int.toNat_natCast]
    exact key 1 _ Uz Uz Oz Oz Oz
   .rw[aD (by rw[aC];exact h),xy Oz,aA,aA,zo Oz,aA,yQ,Int.toNat_natCast]
    exact key 0 _ Uz Uz Oz Oz Oz
  rw[aG (zV hi),xy hi,aA,xW Oz,aA]
  by_cases h:i<lb.length
  .rw[aG (zV h),xy h,aA,xW Oz,aA]
   exact fin _ rfl
  .rw[aD (by rw[aC];omega)]
   exact fin _ (by rw[zcZ (l:=lb) Oz];omega)
 .rintro⟨c,j,out⟩ g ⟨rfl,hl,hd,c0,c1,hv⟩
  dsimp only at hl hd c0 c1 hv |-
  rw[aD Y8,xy Oz,aA,aA,yQ]
  have a:=hd.set (k:=la.length) (x:=c) c0 Oz
  refine⟨_,rfl,a,by rw[bR];omega,?_⟩
  have e1:dv (out.set la.length c)=dv ((out.set la.length c).take (la.length+1)):=(qp V3).symm
  rw[yj,Qj,wC Oz]at e1
  rw[bE,qp hle]at hv
  rw[qb a]at e1
  rw[qb ha,qb hb]at hv
  omega
theorem zeG(la lb:List Int)(h:la.length<lb.length):Wo la lb=Wo lb la:=by
 unfold Wo
 rw[aG (zV h),aD (by rw[aC];omega)]
theorem ON{la lb:List Int}(ha:b8 la)(hb:b8 lb)(a:la.length<=2)(b:lb.length<=2) :
 ∃l,Wo la lb=some l/\b8 l/\l.length<=3/\z5 l=z5 la+z5 lb:=by
 by_cases h:la.length<lb.length
 .obtain⟨l,e,h1,h2,h3⟩:=zct hb ha b Oz
  exact⟨l,by rw[zeG _ _ h];exact e,h1,h2,by omega⟩
 .exact zct ha hb a Oz
structure NI(la lb:List Int)(i:Nat)(out:List Int):Prop where
 len:out.length=la.length
 dig:∀j,j≠i->0<=out.getD j 0/\out.getD j 0<1000000000
 mid : -1<=out.getD i 0/\out.getD i 0<1000000000
 val:dv out=dv la-dv (lb.take i)
theorem NI.stay{la lb:List Int}{i:Nat}{out:List Int}{w:Int}(h:NI la lb i out)(hb:b8 lb)(hi:i<la.length)(hw:w=out.getD i 0-lb.getD i 0)(h0:0<=w):NI la lb (i+1) (out.set i w):=by
 have d:=hb.at i
 have m:=h.mid
 have hl:=h.len
 refine⟨by rw[bR];exact hl,λj hj=>?_,?_,?_⟩
 .by_cases c:i=j
  .subst c;rw[wC Oz];omega
  .rw[vD c];exact h.dig j Oz
 .rw[vD Oz];have:=h.dig (i+1) Oz;omega
 .rw[VE Oz,h.val,yj,show w-out.getD i 0 = -lb.getD i 0 by omega,Int.mul_neg]
  omega
theorem NI.borrow{la lb:List Int}{i:Nat}{out:List Int}{w v:Int}(h:NI la lb i out)(hb:b8 lb)(hi:i+1<la.length)(hw:w=out.getD i 0-lb.getD i 0)(h0:w<0)(hv:v=out.getD (i+1) 0-1):NI la lb (i+1) ((out.set i (w+1000000000)).set (i+1) v):=by
 have d:=hb.at i
 have m:=h.mid
 have hl:=h.len
 have d1:=h.dig (i+1) Oz
 have a:i+1<(out.set i (w+1000000000)).length:=by rw[bR];omega
 refine⟨by rw[bR,bR];exact hl,λj hj=>?_,?_,?_⟩
 .rw[vD Oz]
  by_cases c:i=j
  .subst c;rw[wC Oz];omega
  .rw[vD c];exact h.dig j Oz
 .rw[wC a];omega
 .rw[VE a,vD Oz,VE Oz,h.val,yj,show w+1000000000-out.getD i 0=1000000000-lb.getD i 0 by omega,show v-out.getD (i+1) 0 = -1 by omega,Int.pow_succ,Int.mul_sub]
  omega
theorem NI.last{la lb:List Int}{i:Nat}{out:List Int}{w:Int}(h:NI la lb i out)(ha:b8 la)(hb:b8 lb)(hi:i<la.length)(hle:lb.length<=la.length)(hv:z5 lb<=z5 la)(hw:w=out.getD i 0-lb.getD i 0)(h0:w<0):i+1<la.length:=by
 apply cX
 intro c
 have hl:=h.len
 have e1:=yj out i
 have e2:=yj lb i
 rw[qp Oz]at e1 e2
 have hd:b8 (out.take i):=λx hx=>by
  obtain⟨j,hj,rfl⟩:=List.getElem_of_mem hx
  rw[bX]at hj
  have:=h.dig j Oz
  rw[aB,aE Oz]at this
  rw[List.getElem_take]
  exact this
 have e3:=oK hd (i:=i) (by rw[bX];omega)
 have e4:=h.val
 have e5:=qb ha
 have e6:=qb hb
 have e7:(1000000000:Int) ^ i*out.getD i 0-1000000000 ^ i*lb.getD i 0=1000000000 ^ i*w:=by rw[hw,Int.mul_sub]
 have e8:(1000000000:Int) ^ i*w<=1000000000 ^ i*(-1):=Int.mul_le_mul_of_nonneg_left Oz (Int.le_of_lt (Tz i))
 omega
theorem rN{l:List Int}{i:Nat}(h:i<l.length):l.set i (l.getD i 0)=l:=by
 rw[aB,aE h]
 exact List.set_getElem_self h
theorem pD{la lb:List Int}(ha:b8 la)(hb:b8 lb)(la2:la.length<=2)(h0:0<la.length)(hle:lb.length<=la.length)(hv:z5 lb<=z5 la) :
 ∃l,FO la lb=some l/\b8 l/\l.length<=2/\z5 l=z5 la-z5 lb:=by
 unfold FO
 rw[aG Oz,aG (by rw[dE];omega)]
 refine zl la.length (λi (x:Int×List Int)=>x.1=(i:Int)/\NI la lb i x.2) (λo=>∃l,o=some l/\b8 l/\l.length<=2/\z5 l=z5 la-z5 lb) Oz ⟨rfl,rfl,λj _=>ha.at j,by have:=ha.at 0;dsimp only;omega,by simp[dv]⟩ ?_ ?_
 .rintro i ⟨j,out⟩ g hi ⟨rfl,a⟩ hg
  have a:NI la lb i out:=a
  have hl:=a.len
  have m:=a.mid
  have d2:=hb.at i
  have k:∀x,i<(out.set i x).length:=λx=>by rw[bR];omega
  have d:i64 ((i:Int)+1)=some ((i+1:Nat):Int):=zo Oz
  dsimp only
  rw[aG (zV hi)]
  have go:∀w,w=out.getD i 0-lb.getD i 0->w<0->i+1<la.length:=λw=>a.last ha hb hi hle hv
  by_cases h:i<lb.length
  .rw[aG (zV h)]
   obtain⟨w,hw⟩:∃w,w=out.getD i 0-lb.getD i 0:=⟨_,rfl⟩
   simp only[xy (show i<out.length by omega),xy h,aA,<-hw,xW (show w.natAbs<_ by omega),yQ,Int.toNat_natCast,xy (k _),wC (show i<out.length by omega),List.set_set]
   by_cases c:w<0
   .have b:=go w hw c
    have f:∀x,i+1<(out.set i x).length:=λx=>by rw[bR];omega
    have d3:=a.dig (i+1) Oz
    rw[aG (aH c),xW Oz,aA]
    simp only[d,aA,xy (f _),vD (show i≠i+1 by omega),xW (show(out.getD (i+1) 0-1).natAbs<_ by omega),Int.toNat_natCast]
    exact hg _ ⟨rfl,a.borrow hb b hw c rfl⟩
   .rw[aD (by rw[aC];exact c),d,aA]
    exact hg _ ⟨rfl,a.stay hb hi hw Oz⟩
  .rw[aD (by rw[aC];omega)]
   have hz:=zcZ (l:=lb) (i:=i) Oz
   simp only[xy (show i<out.length by omega),aA,yQ,Int.toNat_natCast,xy (k _),List.set_set]
   by_cases c:out.getD i 0<0
   .have b:=go (out.getD i 0) Oz c
    have f:∀x,i+1<(out.set i x).length:=λx=>by rw[bR];omega
    have d3:=a.dig (i+1) Oz
    rw[aG (aH c),xW Oz,aA]
    simp only[d,aA,xy (f _),vD (show i≠i+1 by omega),xW (show(out.getD (i+1) 0-1).natAbs<_ by omega),Int.toNat_natCast]
    exact hg _ ⟨rfl,a.borrow hb b Oz c rfl⟩
   .rw[aD (by rw[aC];exact c),d,aA]
    have hs:=a.stay hb hi (w:=out.getD i 0) Oz Oz
    rw[rN Oz]at hs
    exact hg _ ⟨rfl,hs⟩
 .rintro⟨j,out⟩ g ⟨rfl,a⟩
  have a:NI la lb la.length out:=a
  have hl:=a.len
  dsimp only
  rw[aD Y8]
  have hd:b8 out:=λx hx=>by
   obtain⟨j,hj,rfl⟩:=List.getElem_of_mem hx
   have:=a.dig j Oz
   rw[aB,aE hj]at this
   exact this
  refine⟨out,rfl,hd,by omega,?_⟩
  have e:=a.val
  rw[qp hle,qb ha,qb hb,qb hd]at e
  omega
theorem VN{la lb:List Int}(la3:la.length<=2):Xc la lb=some (C14.cmpZ la lb):=by
 unfold Xc C14.cmpZ
 by_cases h1:la.length<lb.length
 .rw[aG (by rw[aC];omega),aD Y8,aD Y8,aG (zV h1),aG h1]
 by_cases h2:lb.length<la.length
 .rw[aG (by rw[aC];omega),aD Y8,aD Y8,aD (by rw[aC];omega),aG (zV h2),aD h1,aG h2]
 rw[aD (by rw[aC];omega),aD h1,aD h2,xW Oz,aA]
 refine zl la.length (λi (x:Int)=>∃m:Nat,x=(m:Int)-1/\m+i=la.length/\Z6 la lb la.length=Z6 la lb m) (λo=>o=some (Z6 la lb la.length)) Oz ⟨_,rfl,rfl,rfl⟩ ?_ ?_
 .rintro i x g hi ⟨m,rfl,hm,hn⟩ hg
  obtain⟨k,rfl⟩:∃k,m=k+1:=⟨m-1,by omega⟩
  have e1:((k+1:Nat):Int)-1=(k:Int):=by omega
  rw[e1,aG Y8,hn,Z6]
  simp only[xy (show k<la.length by omega),xy (show k<lb.length by omega),aA,aC,xW (show((k:Int)-1).natAbs<_ by omega),ne_eq,not_true_eq_false,cK]
  by_cases c:la.getD k 0=lb.getD k 0
  .rw[aD (λx=>x c),aD Oz,aD Oz]
   rw[Z6,aD Oz,aD Oz]at hn
   have:=hg _ ⟨k,rfl,by omega,hn⟩
   rw[hn]at this
   exact this
  .rw[aG c]
   split
   .rfl
   .rw[aG Oz,aG Oz]
 .rintro x g ⟨m,rfl,hm,hn⟩
  obtain rfl:m=0:=by omega
  rw[aD Y8,hn]
  rfl
theorem zhU{a b:Int}(ha:cz a)(hb:cz b):LA (zG a) (zG b)=some (zG (a+b)):=by
 unfold LA
 have la:=xv ha
 have lb:=xv hb
 have d:=kU a.natAbs
 have f:=kU b.natAbs
 have pos:∀n:Nat,n≠0->0<(dg n).length:=λn h=>by
  have:(dg n).length≠0:=λg=>h (bl.mp g)
  omega
 show(if (decide (a<0)==decide (b<0))=true then _ else _)=_
 by_cases h:a<0↔b<0
 .rw[aG (by simpa using h)]
  show(Wo (dg a.natAbs) (dg b.natAbs)).bind _=_
  obtain⟨l,e,hd,hl,hv⟩:=ON d f Oz Oz
  rw[e,aA,Rk hd Oz,hv,yy,yy]
  refine congrArg (λx=>some (zG x)) ?_
  exact Xo λ_=>by omega
 .rw[aD (by simpa using h)]
  show(Xc (dg a.natAbs) (dg b.natAbs)).bind _=_
  rw[VN Oz,Zk,aA]
  have hc:decide (uQ a.natAbs b.natAbs<0)=decide (a.natAbs<b.natAbs):=by
   unfold uQ
   split
   .next c=>simp[c]
   .next c=>rw[aX c];split<;>rfl
  rw[hc]
  by_cases c:a.natAbs<b.natAbs
  .rw[aG (aH c)]
   show(FO (dg b.natAbs) (dg a.natAbs)).bind _=_
   obtain⟨l,e,hd,hl,hv⟩:=pD f d Oz (pos _ Oz) (RX Oz) (by rw[yy,yy];omega)
   rw[e,aA,Rk hd Oz,hv,yy,yy]
   refine congrArg (λx=>some (zG x)) ?_
   exact Xo λ_=>by omega
  .rw[aD (by simpa using c)]
   show(FO (dg a.natAbs) (dg b.natAbs)).bind _=_
   obtain⟨l,e,hd,hl,hv⟩:=pD d f Oz (pos _ Oz) (RX Oz) (by rw[yy,yy];omega)
   rw[e,aA,Rk hd Oz,hv,yy,yy]
   refine congrArg (λx=>some (zG x)) ?_
   exact Xo λ_=>by omega
theorem wY{n:Nat}(h:n<1000000000000000000)(s:Bool):Q9 s (n:Int)=some (zG (sg s n)):=by
 unfold Q9
 by_cases h0:n=0
 .subst h0
  rw[aG (by rfl),HJ,kB]
 rw[aD (by rw[aC];omega),zaZ h0]
 by_cases h1:n<1000000000
 .rw[aG (by rw[aC];omega),Vo h,VI h0 h1]
  rfl
 .have b:n / 1000000000<1000000000:=by omega
  have a:n / 1000000000≠0:=by omega
  have hr:n % 1000000000<1000000000:=by omega
  have e1:Int.tmod (n:Int) 1000000000=((n % 1000000000:Nat):Int):=rfl
  have e2:Int.tdiv (n:Int) 1000000000=((n / 1000000000:Nat):Int):=rfl
  rw[aD (by rw[aC];omega),aG (by rw[aC];omega),aD Uz,uy h0,VI a b,e1,e2,Vo Oz,aA,aD Uz]
  generalize n / 1000000000=q at *
  rw[uZ,aG Oz,aA,Vo Oz,aA]
theorem KX{n:Int}(hn:cz n):Wm n=some (zG n):=by
 unfold Wm
 unfold cz at hn
 by_cases h:n<0
 .have e:(0-n % 18446744073709551616) % 18446744073709551616=((n.natAbs:Nat):Int):=by omega
  rw[aH h,aG rfl,e,wY hn,aA,<-aH h,Ky]
 .have e:n % 18446744073709551616=((n.natAbs:Nat):Int):=by omega
  rw[aX h,aD Uz,e,wY hn,aA,<-aX h,Ky]
end Go.Proofs.YtocnbjjmmgolfaaGreat
