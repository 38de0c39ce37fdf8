/- zH law: the greatest solution of a system of bounds, as the program finds it. -/
import Derived.Test.YtocnbjjmmgolfaaGreatA25
import Derived.Test.YtocnbjjmmgolfaaGreatA29
import Derived.Test.YtocnbjjmmgolfaaGreatA12
import Derived.Test.YtocnbjjmmgolfaaGreatA30
import Derived.Test.YtocnbjjmmgolfaaGreatA31
set_option linter.unusedSimpArgs false
set_option linter.unusedVariables false
set_option linter.unusedSectionVars false
namespace Go.Proofs.YtocnbjjmmgolfaaGreat
open Go Go.M Go.Proofs.C14
def toE(c:Int×Int×Rat):Ed:=⟨c.1.toNat,c.2.1.toNat,c.2.2⟩
def fx(x:List Rat)(v:Nat):Rat:=x.getD v 0
theorem X2{x:List Rat}{v:Nat}(h:v<x.length):idx x (v:Int)=some (fx x v):=by
 rw[zt h,fx,aC,aE h];rfl
theorem zat{x:List Rat}{k v:Nat}{q:Rat}(h:k<x.length):fx (x.set k q) v=if k=v then q else fx x v:=by
 unfold fx
 rw[aC,aC]
 split
 ·next e=>subst e;rw[List.getElem?_set_self h];rfl
 ·next e=>rw[List.getElem?_set_ne e]
theorem zgV(a b:Rat):decide (wd a b<0)=decide (a<b):=by
 unfold wd
 split
 ·next h=>rw[aH h];rfl
 ·next h=>rw[bA h];split<;>rfl
section
variable{n d B:Nat}{L:List (Int×Int×Rat)}(hL:L.length≤60)(hi:∀c∈L,(0≤c.1∧c.1<(n:Int)∧0≤c.2.1∧c.2.1<(n:Int))∧QV d B c.2.2)
include hi in
theorem Km:∀c∈L.map toE,c.fr<n∧c.to<n:=by
 intro c hc
 obtain⟨e,he,rfl⟩:=List.mem_map.mp hc
 have:=(hi e he).1
 exact⟨by show e.1.toNat<n;omega,by show e.2.1.toNat<n;omega⟩
include hL hi in
theorem zcD(h0:0<n)(h12:n≤12)(hs:SB d (B*((n+1)*60+1))) :
 (∃x,z137 ((n:Int),L)=some (x,true)∧x.length=n∧Rx (L.map toE) n (fx x)∧UB (L.map toE) n 0 (fx x)∧Sat (L.map toE) (fx x)∧∀v,v<n→QV d (B*((n+1)*60)) (fx x v)) ∨
 (z137 ((n:Int),L)=some ([],false)∧¬ ∃y,Sat (L.map toE) y):=by
 have C:=Km hi
 have N:(L.map toE).length=L.length:=bI _
 unfold z137
 dsimp only
 rw[aF Oz,zp Oz,aA,Int.toNat_natCast]
 have M:fx (List.replicate n ((0:Int):Rat))=fun _=>0:=by
  funext v
  unfold fx
  rw[aC,List.getElem?_replicate]
  split<;>rfl
 refine zk (n+1) (fun i (x:Int×List Rat)=>x.1=(i:Int)∧x.2.length=n∧Rx (L.map toE) n (fx x.2)∧UB (L.map toE) n i (fx x.2)∧((∃y,Sat (L.map toE) y)→i<n)∧∀v,v<n→QV d (B*(i*60)) (fx x.2 v))
  (fun o=>(∃x,o=some (x,true)∧x.length=n∧Rx (L.map toE) n (fx x)∧UB (L.map toE) n 0 (fx x)∧Sat (L.map toE) (fx x)∧∀v,v<n→QV d (B*((n+1)*60)) (fx x v))∨(o=some ([],false)∧¬ ∃y,Sat (L.map toE) y)) Oz ⟨rfl,dB,by show Rx _ _ (fx (List.replicate n ((0:Int):Rat)));rw[M];exact Rx.zero,by show UB _ _ _ (fx (List.replicate n ((0:Int):Rat)));rw[M];exact UB.zero,fun _=>h0,fun v _=>?_⟩ ?_ ?_
 ·show QV d _ (fx (List.replicate n ((0:Int):Rat)) v)
  rw[M]
  exact⟨0,by simp,by simp⟩
 ·rintro i ⟨_,x⟩ g G ⟨rfl,hx,H,hu,hf,J⟩ hg
  dsimp only at hx H hu hf J ⊢
  rw[aF (by rw[aB];omega)]
  refine zk L.length (fun j (y:Bool×Int×List Rat)=>y.2.1=(j:Int)∧y.2.2.length=n∧Rx (L.map toE) n (fx y.2.2)∧(∀v,v<n→fx y.2.2 v≤fx x v)∧(∀c∈(L.map toE).take j,fx y.2.2 c.to≤fx x c.fr+c.m)∧(y.1=false→y.2.2=x)∧(Sat (L.map toE) (fx x)→y.1=false)∧∀v,v<n→QV d (B*(i*60+j)) (fx y.2.2 v))
   (fun o=>(∃x,o=some (x,true)∧x.length=n∧Rx (L.map toE) n (fx x)∧UB (L.map toE) n 0 (fx x)∧Sat (L.map toE) (fx x)∧∀v,v<n→QV d (B*((n+1)*60)) (fx x v))∨(o=some ([],false)∧¬ ∃y,Sat (L.map toE) y)) Oz ⟨rfl,hx,H,fun _ _=>eL,fun c h=>(by simp at h),fun _=>rfl,fun _=>rfl,fun v hv=>J v hv⟩ ?_ ?_
  ·rintro j ⟨P,_,y⟩ V hj ⟨rfl,D,s,q,f,t,l,p⟩ F
   dsimp only at D s q f t l p ⊢
   obtain⟨⟨a0,a1,U,b1⟩,R⟩:=hi L[j] (aK hj)
   obtain⟨a,ha⟩:=Int.eq_ofNat_of_zero_le a0
   obtain⟨b,hb⟩:=Int.eq_ofNat_of_zero_le U
   have w:a<n∧b<n:=by omega
   have Q:toE L[j]=⟨a,b,L[j].2.2⟩:=by unfold toE;rw[ha,hb];rfl
   have z:toE L[j]∈L.map toE:=dS (aK hj)
   rw[Q]at z
   have I:(L.map toE).take (j+1)=(L.map toE).take j++[⟨a,b,L[j].2.2⟩]:=by
    rw[←Q,List.take_succ_eq_append_getElem Oz,List.getElem_map]
   have S:QV d (B*(i*60+j)) (fx y a):=p a w.1
   have X:QV d (B*(i*60+j)) (fx y b):=p b w.2
   have hB:i*60+j+1≤(n+1)*60:=by
    have:(i+1)*60≤(n+1)*60:=bN 60 G
    omega
   have T:QV d (B*(i*60+(j+1))) (fx y a+L[j].2.2):=by
    have:=S.add R
    rw[←Nat.mul_succ]at this
    exact this
   have K:∀k,k≤(n+1)*60+1→SB d (B*k):=fun k hk=>⟨hs.1,cC (bX _ (Nat.succ_le_succ (bX _ hk))) hs.2⟩
   have s1:=S.sm (K _ Oz)
   have s2:=X.sm (K _ Oz)
   have Y:=T.sm (K _ Oz)
   have Z:Sm L[j].2.2:=R.sm (by have:=K 1 Oz;rw[cG]at this;exact this)
   rw[aF (zM hj),zt hj,aA,ha,hb,X2 Oz,X2 Oz,aA,aA,xr s1 Z,aA,aA,aA,q8 Y s2,aA,zgV]
   by_cases c:fx y a+L[j].2.2<fx y b
   ·rw[aF (aH c),aA,aA,zp Oz,aA,yT,Int.toNat_natCast]
    have low:∀v,v<n→fx (y.set b (fx y a+L[j].2.2)) v≤fx y v:=fun v _=>by
     rw[zat Oz]
     split
     ·next e=>rw[←e];exact Rat.le_of_lt c
     ·exact eL
    refine F _ ⟨rfl,by rw[bP];exact D,⟨fun v hv=>?_⟩,fun v hv=>dO (low v hv) (q v hv),fun e he=>?_,fun h=>(by cases h),fun h=>?_,fun v hv=>?_⟩
    ·rw[zat Oz]
     split
     ·next e=>
      subst e
      obtain⟨r,u,hp,he⟩:=s.way a w.1
      exact⟨⟨a,b,L[j].2.2⟩::r,u,⟨rfl,z,hp⟩,by rw[wt,he,Rat.add_comm]⟩
     ·exact s.way v hv
    ·rw[I]at he
     rcases aU.mp he with he|he
     ·exact dO (low _ (C e (eI he)).2) (f e he)
     ·rw[aV.mp he]
      show fx _ b≤fx x a+_
      rw[zat Oz,aF rfl]
      exact Yd (q a w.1)
    ·exfalso
     have e:=t (l h)
     have:=h _ z
     rw[e]at c
     exact absurd c (Rat.not_lt.mpr this)
    ·rw[zat Oz]
     split
     ·exact T
     ·exact(p v hv).le (bX _ Oz)
   ·rw[aD (by rw[aB];exact c),zp Oz,aA]
    refine F _ ⟨rfl,D,s,q,fun e he=>?_,t,l,fun v hv=>(p v hv).le (bX _ Oz)⟩
    rw[I]at he
    rcases aU.mp he with he|he
    ·exact f e he
    ·rw[aV.mp he]
     show fx y b≤fx x a+_
     exact dO (Rat.not_lt.mp c) (Yd (q a w.1))
  ·rintro⟨P,_,y⟩ V ⟨rfl,D,s,q,f,t,l,p⟩
   dsimp only at D s q f t l p ⊢
   rw[aD Y8]
   have A:∀c∈L.map toE,fx y c.to≤fx x c.fr+c.m:=fun c hc=>f c (by rw[←N,aY];exact hc)
   cases P with
   |false=>
    obtain rfl:=t rfl
    rw[aF (show(!false)=true from rfl)]
    refine .inl ⟨y,rfl,D,s,fun v r u a b c=>hu v r u a b Oz,A,fun v hv=>(p v hv).le (bX _ ?_)⟩
    have:(i+1)*60≤(n+1)*60:=bN 60 G
    omega
   |true=>
    rw[aD (show ¬(!true)=true by decide),zp Oz,aA]
    refine hg _ ⟨rfl,D,s,?_,fun E=>?_,fun v hv=>(p v hv).le (bX _ Oz)⟩
    ·intro v r u hv hp O
     cases r with
     |nil=>exact dO (q v hv) (hu v [] u hv hp (cJ _))
     |cons c r=>
      obtain⟨p1,p2,W⟩:=hp
      have:=A c p2
      rw[p1]at this
      refine dO this ?_
      rw[wt,Rat.add_comm c.m]
      exact Yd (hu c.fr r u (C c p2).1 W (by simp at O;omega))
    ·apply cY
     intro hc
     obtain⟨y',E⟩:=E
     have:=l (done C E H hu Oz)
     cases this
 ·rintro⟨_,x⟩ g ⟨rfl,hx,H,hu,hf,J⟩
  dsimp only at hx H hu hf J ⊢
  rw[aD (by rw[aB];omega)]
  exact .inr ⟨rfl,fun h=>by have:=hf h;omega⟩
end
def FW(l:List Ed):Nat→List Ed→Nat→Prop
 |a,[],v=>a=v
 |a,c::r,v=>c.fr=a∧c∈l∧FW l c.to r v
theorem FW.app{l:List Ed}:∀{a b c:Nat} {r s:List Ed},FW l a r b→FW l b s c→FW l a (r++s) c
 |_,_,_,[],_,h,g=>by obtain rfl:_=_:=h;exact g
 |_,_,_,_::_,_,⟨h1,h2,d⟩,g=>⟨h1,h2,FW.app d g⟩
theorem PR.fw{l:List Ed}:∀{v u:Nat} {r:List Ed},PR l v r u→FW l u r.reverse v
 |v,u,[],h=>by obtain rfl:v=u:=h;exact rfl
 |v,u,c::r,⟨h1,h2,a⟩=>by rw[List.reverse_cons];exact(PR.fw a).app ⟨rfl,h2,h1⟩
theorem wt_rev:∀r:List Ed,wt r.reverse=wt r
 | []=>rfl
 |c::r=>by rw[List.reverse_cons,Zz,wt_rev r,wt,wt,wt,Rat.add_zero,Rat.add_comm]
def bf(l:List Ed):Nat→Nat→Rat
 |0,_=>0
 |k+1,v=>((l.filter fun c=>c.to=v).map fun c=>c.m+bf l k c.fr).foldl mnR (bf l k v)
theorem zfJ{l:List Ed}:∀(k v:Nat),∃r u,PR l v r u∧r.length≤k∧bf l k v=wt r
 |0,v=>⟨[],v,rfl,aO _,rfl⟩
 |k+1,v=>by
  rw[bf]
  rcases(ua ((l.filter fun c=>c.to=v).map fun c=>c.m+bf l k c.fr) (bf l k v)).2 with h|h
  ·obtain⟨r,u,h1,h2,a⟩:=zfJ k v
   exact⟨r,u,h1,by omega,by rw[h,a]⟩
  ·obtain⟨c,hc,e⟩:=List.mem_map.mp h
   obtain⟨hc,b⟩:=List.mem_filter.mp hc
   obtain⟨r,u,h1,h2,a⟩:=zfJ k c.fr
   exact⟨c::r,u,⟨dE b,hc,h1⟩,by simp;omega,by rw[←e,a,wt]⟩
theorem zhc{l:List Ed}:∀{k v u:Nat} {r:List Ed},PR l v r u→r.length≤k→bf l k v≤wt r
 |0,v,u,r,h,a=>by
  obtain rfl:r=[]:=bO.mp Oz
  exact eL
 |k+1,v,u,[],h,a=>by
  rw[bf]
  exact dO (ua _ _).1.1 (zhc (l:=l) (k:=k) (v:=v) (r:=[]) (u:=v) rfl Y8)
 |k+1,v,u,c::r,⟨h1,h2,b⟩,a=>by
  rw[bf]
  refine dO ((ua _ _).1.2 (c.m+bf l k c.fr) (List.mem_map.mpr ⟨c,List.mem_filter.mpr ⟨h2,aH h1⟩,rfl⟩)) ?_
  rw[wt]
  exact Rat.add_le_add_left.mpr (zhc b (by simpa using a))
theorem PR.lt{l:List Ed}{n:Nat}(hn:∀c∈l,c.fr<n∧c.to<n):∀{r:List Ed} {v w:Nat},v<n→PR l v r w→w<n
 | [],v,w,h,g=>by obtain rfl:v=w:=g;exact h
 |c::r,v,w,_,⟨_,h2,a⟩=>PR.lt hn (hn c h2).1 a
theorem sat_of{l:List Ed}{n:Nat}(hn:∀c∈l,c.fr<n∧c.to<n)(h:∀v r,v<n→FW l v r v→r.length≤n→r≠[]→0≤wt r):∃y,Sat l y:=by
 refine⟨bf l (n-1),fun c hc=>?_⟩
 obtain⟨r,u,h1,h2,p⟩:=zfJ (l:=l) (n-1) c.fr
 obtain⟨hf,j⟩:=hn c hc
 have hp:PR l c.to (c::r) u:=⟨rfl,hc,h1⟩
 rw[p,Rat.add_comm]
 show _≤wt (c::r)
 by_cases hl:r.length+1≤n-1
 ·exact zhc hp hl
 have mem:∀(r:List Ed) (v:Nat),v<n→PR l v r u→∀w∈vs v r,w<n:=by
  intro r
  induction r with
  |nil=>intro v hv _ w f;rw[aV.mp f];exact hv
  |cons c r q=>
   intro v hv hp w f
   rcases aL.mp f with rfl|f
   ·exact hv
   ·exact q c.fr (hn c hp.2.1).1 hp.2.2 w f
 have g:¬(vs c.to (c::r)).Nodup:=fun g=>by
  have:=YG g (t:=List.range n) fun w f=>dT.mpr (mem (c::r) c.to j hp w f)
  rw[zdV,List.length_range]at this
  simp only[aW]at this
  omega
 obtain⟨w,a,b,d,e,g1,g2,o,i⟩:=hp.twice g
 have hb:0<b.length:=List.length_pos_iff.mpr i
 have m:=congrArg List.length e
 simp only[aQ,aW]at m
 have f:w<n:=PR.lt hn j g1
 have k:=h w b.reverse f (PR.fw g2) (by rw[List.length_reverse];omega) (by simpa using i)
 rw[wt_rev]at k
 refine dO (zhc (g1.app o) (by rw[aQ];omega)) ?_
 rw[e,Zz,Zz,Zz]
 refine Rat.add_le_add_left.mpr ?_
 have:=Yd (c:=wt d) k
 rw[Rat.zero_add]at this
 exact this
abbrev Lb:=Bool×Rat
section
variable{n d B:Nat}{L:List Bd}(hn:0<n∧n≤4)(hL:L.length≤60)(hi:∀c∈L,(0≤c.1∧c.1<(n:Int)∧0≤c.2.1∧c.2.1<(n:Int))∧QV d B c.2.2)(hs:SB d (B*8))
structure LnP(L:List Bd)(d B v k a:Nat)(p:Lb):Prop where
 way:p.1=true→∃r,FW (L.map toE) a r v∧r.length=k∧wt r=p.2
 least:∀r,FW (L.map toE) a r v→r.length=k→p.1=true∧p.2≤wt r
 num:QV d (B*k) p.2
structure LnOK(L:List Bd)(n d B v k:Nat)(w:List Lb):Prop where
 len:w.length=n
 at':∀a,a<n→LnP L d B v k a (w.getD a (false,0))
theorem W7{α:Type}{l:List α}{i j:Nat}{x e:α}(h:i<l.length):(zE l i x).getD j e=if j=i then x else l.getD j e:=by
 rw[yT]
 exact wp h
theorem xo{α:Type}{l:List α}{i:Nat}{e:α}(h:i<l.length):idx l (i:Int)=some (l.getD i e):=by rw[zt h,zD h]
theorem qv0{d B:Nat}:QV d B 0:=⟨0,by rw[Rat.zero_mul];rfl,by simp⟩
theorem WC{d B C:Nat}(h:SB d B)(g:C≤B):SB d C:=⟨h.1,cC (bX _ Oz) h.2⟩
include hn in
omit hL hi hs in
theorem ends_pl{v:Nat}(hv:v<n):∃g,z210 ((n:Int),L) (v:Int)=some [g]∧LnOK L n d B v 0 g:=by
 have b:v<(List.replicate n ((false,0):Lb)).length:=by rw[dB];exact hv
 unfold z210
 dsimp only
 rw[aF ⟨by omega,rfl,by omega⟩,Int.toNat_natCast,xo (e:=(false,0)) b]
 refine⟨_,rfl,by rw[yE,dB],fun a ha=>?_⟩
 rw[Int.toNat_natCast,W7 b]
 have f:∀j,(List.replicate n ((false,0):Lb)).getD j (false,0)=(false,0):=fun j=>by
  rw[aC,List.getElem?_replicate];split<;>rfl
 rw[f,f]
 by_cases c:a=v
 ·subst c
  rw[aF rfl]
  exact⟨fun _=>⟨[],rfl,rfl,rfl⟩,fun r h b=>by
   obtain rfl:r=[]:=bO.mp b
   exact⟨rfl,eL⟩,qv0⟩
 ·rw[aD c]
  exact⟨fun h=>(nomatch h),fun r h b=>by
   obtain rfl:r=[]:=bO.mp b
   exact absurd h c,qv0⟩
include hn hL hi hs in
theorem longer_pl{v k:Nat}(hk:k<n){w:List Lb}(Q:LnOK L n d B v k w):∃w',z211 ((n:Int),L) w=some w'∧LnOK L n d B v (k+1) w':=by
 have N:∀j,j≤8→SB d (B*j):=fun j hj=>WC hs (bX _ hj)
 have R:∀j,(List.replicate n ((false,0):Lb)).getD j (false,0)=(false,0):=fun j=>by
  rw[aC,List.getElem?_replicate];split<;>rfl
 unfold z211
 dsimp only
 rw[aF ⟨by omega,rfl,by omega⟩,Int.toNat_natCast]
 refine zk L.length (fun i (x:Int×List Lb)=>x.1=(i:Int)∧x.2.length=n∧∀a,a<n→((x.2.getD a (false,0)).1=true→∃r,FW (L.map toE) a r v∧r.length=k+1∧wt r=(x.2.getD a (false,0)).2)∧(∀c∈L.take i,c.1=(a:Int)→∀r,FW (L.map toE) c.2.1.toNat r v→r.length=k→(x.2.getD a (false,0)).1=true∧(x.2.getD a (false,0)).2≤c.2.2+wt r)∧QV d (B*(k+1)) (x.2.getD a (false,0)).2)
  (fun o=>∃w',o=some w'∧LnOK L n d B v (k+1) w') Oz ⟨rfl,by simp,fun a ha=>?_⟩ ?_ ?_
 ·rw[R]
  exact⟨fun h=>(nomatch h),fun c hc=>by simp at hc,qv0⟩
 ·rintro i ⟨_,x⟩ g s ⟨rfl,C,hx⟩ hg
  dsimp only at C hx ⊢
  obtain⟨⟨S,f1,t0,t1⟩,P⟩:=hi _ (aK s)
  obtain⟨f,hf⟩:=Int.eq_ofNat_of_zero_le S
  obtain⟨t,G⟩:=Int.eq_ofNat_of_zero_le t0
  have A:f<n:=by omega
  have H:t<n:=by omega
  have u:=Q.at' t H
  have lw:=Q.len
  have hc:toE L[i]∈L.map toE:=dS (aK s)
  have efr:(toE L[i]).fr=f:=by show L[i].1.toNat=f;rw[hf];rfl
  have eto:(toE L[i]).to=t:=by show L[i].2.1.toNat=t;rw[G];rfl
  -- the invariant,when the cell at f becomes p
  have step:∀p:Lb,(p.1=true→∃r,FW (L.map toE) f r v∧r.length=k+1∧wt r=p.2)→((x.getD f (false,0)).1=true→p.1=true∧p.2≤(x.getD f (false,0)).2)→(∀r,FW (L.map toE) t r v→r.length=k→p.1=true∧p.2≤L[i].2.2+wt r)→QV d (B*(k+1)) p.2 →
   ∀y:List Lb,y.length=n→(∀j,j<n→y.getD j (false,0)=if j=f then p else x.getD j (false,0))→∀a,a<n→((y.getD a (false,0)).1=true→∃r,FW (L.map toE) a r v∧r.length=k+1∧wt r=(y.getD a (false,0)).2)∧(∀c∈L.take (i+1),c.1=(a:Int)→∀r,FW (L.map toE) c.2.1.toNat r v→r.length=k→(y.getD a (false,0)).1=true∧(y.getD a (false,0)).2≤c.2.2+wt r)∧QV d (B*(k+1)) (y.getD a (false,0)).2:=by
   intro p p1 p2 W X y ly V a ha
   rw[V a ha]
   obtain⟨E,m,M⟩:=hx a ha
   by_cases O:a=f
   ·subst O
    rw[aF rfl]
    refine⟨p1,fun c hc z r l b=>?_,X⟩
    rw[yz s,aU,aV]at hc
    rcases hc with hc|rfl
    ·obtain⟨Z,u2⟩:=m c hc z r l b
     obtain⟨v1,v2⟩:=p2 Z
     exact⟨v1,dO v2 u2⟩
    ·rw[G,Int.toNat_natCast]at l
     exact W r l b
   ·rw[aD O]
    refine⟨E,fun c hc z r l b=>?_,M⟩
    rw[yz s,aU,aV]at hc
    rcases hc with hc|rfl
    ·exact m c hc z r l b
    ·rw[hf]at z;omega
  have keep:(∀r,FW (L.map toE) t r v→r.length=k→(x.getD f (false,0)).1=true∧(x.getD f (false,0)).2≤L[i].2.2+wt r)→∃w',((i64 ((i:Int)+1)).bind fun K=>g (K,x))=some w'∧LnOK L n d B v (k+1) w':=fun h=>by
   rw[zp Oz,aA]
   exact hg _ ⟨rfl,C,step _ (hx f A).1 (fun h=>⟨h,eL⟩) h (hx f A).2.2 x C fun j hj=>by split<;>simp[*]⟩
  rw[aF (zM s),zt s,aA]
  simp only[hf,G]
  rw[xo (e:=(false,0)) (by omega:t<w.length),aA]
  generalize w.getD t (false,0)=q at u ⊢
  obtain⟨E,m⟩:=q
  cases E with
  |false=>
   rw[aF (by rfl)]
   exact keep fun r l b=>absurd (u.least r l b).1 Y8
  |true=>
   have D:QV d (B*k) m:=u.num
   obtain⟨r0,F,lr0,er0⟩:=u.way rfl
   have er0:wt r0=m:=er0
   have sum:QV d (B*(k+1)) (L[i].2.2+m):=by
    have:=P.add D
    rw[show B+B*k=B*(k+1)by rw[Nat.mul_add,cG,Nat.add_comm]]at this
    exact this
   have new:∃r,FW (L.map toE) f r v∧r.length=k+1∧wt r=L[i].2.2+m:=⟨toE L[i]::r0,⟨efr,hc,by rw[eto];exact F⟩,by simp[lr0],by rw[wt,er0];rfl⟩
   have least:∀r,FW (L.map toE) t r v→r.length=k→L[i].2.2+m≤L[i].2.2+wt r:=fun r l b=>Rat.add_le_add_left.mpr (u.least r l b).2
   have put:((x.getD f (false,0)).1=true→L[i].2.2+m≤(x.getD f (false,0)).2)→∃w',((i64 ((i:Int)+1)).bind fun J=>g (J,zE x (Int.toNat (f:Int)) (true,L[i].2.2+m)))=some w'∧LnOK L n d B v (k+1) w':=fun h=>by
    rw[zp Oz,aA,Int.toNat_natCast]
    exact hg _ ⟨rfl,by rw[yE];exact C,step (true,L[i].2.2+m) (fun _=>new) (fun T=>⟨rfl,h T⟩) (fun r l b=>⟨rfl,least r l b⟩) sum _ (by rw[yE];exact C) fun j hj=>W7 Oz⟩
   have s1:=N k Oz
   have s2:=N (k+1) Oz
   have Y:SB d B:=by have:=N 1 Oz;rw[cG]at this;exact this
   have ex:idx x (f:Int)=some (x.getD f (false,0)):=xo Oz
   rw[aD Y8,xr (P.sm Y) (D.sm s1),aA]
   simp only[ex,aA]
   have I:=(hx f A).2.2
   have hx1:=(hx f A).2.1
   cases hp:(x.getD f (false,0)).1 with
   |false=>
    rw[aF (by rfl)]
    exact put fun h=>by rw[hp]at h;cases h
   |true=>
    rw[aD Y8,q8 (sum.sm s2) (I.sm s2),aA,zgV]
    by_cases c:L[i].2.2+m<(x.getD f (false,0)).2
    ·rw[aF (aH c)]
     exact put fun _=>Rat.le_of_lt c
    ·rw[aD (by rw[aB];exact c)]
     exact keep fun r l b=>⟨hp,dO (Rat.not_lt.mp c) (least r l b)⟩
 ·rintro⟨_,x⟩ g ⟨rfl,C,hx⟩
  dsimp only at C hx ⊢
  rw[aD Y8]
  refine⟨x,rfl,C,fun a ha=>?_⟩
  obtain⟨E,m,M⟩:=hx a ha
  rw[aY]at m
  refine⟨E,fun r l b=>?_,M⟩
  cases r with
  |nil=>cases b
  |cons c r=>
   obtain⟨h1,h2,U⟩:=l
   obtain⟨e,he,rfl⟩:=List.mem_map.mp h2
   have h0:=(hi e he).1
   exact m e he (by have:e.1.toNat=a:=h1;omega) r U (by simpa using b)
end
def IW(L:List Bd):Nat→List Int→Nat→Rat→Prop
 |a,[],v,s=>a=v∧s=0
 |a,x::r,v,s=>∃i,x=((i:Nat):Int)∧∃h:i<L.length,L[i].1.toNat=a∧∃s',s=L[i].2.2+s'∧IW L L[i].2.1.toNat r v s'
section
variable{n d B:Nat}{L:List Bd}(hn:0<n∧n≤4)(hL:L.length≤60)(hi:∀c∈L,(0≤c.1∧c.1<(n:Int)∧0≤c.2.1∧c.2.1<(n:Int))∧QV d B c.2.2)(hs:SB d (B*8))
include hn hL hi hs
theorem zFst_pl{v k a:Nat}(hk:k<n){tb:List (List Lb)}(C:k<tb.length)(H:LnOK L n d B v k (tb.getD k []))(ha:a<n){sum:Rat}{j:Nat}(hj:j≤4)(p:QV d (B*j) sum) :
 (zFst L tb (k:Int) (a:Int) sum=some (-1)∧∀r,FW (L.map toE) a r v→r.length=k+1→¬sum+wt r<0) ∨
 ∃i,∃h:i<L.length,zFst L tb (k:Int) (a:Int) sum=some (i:Int)∧L[i].1=(a:Int)∧∃r,FW (L.map toE) L[i].2.1.toNat r v∧r.length=k∧sum+(L[i].2.2+wt r)<0:=by
 have z:∀j,j≤8→SB d (B*j):=fun j hj=>WC hs (bX _ hj)
 have I:idx tb (k:Int)=some (tb.getD k []):=xo C
 generalize tb.getD k []=w at *
 have lw:=H.len
 unfold zFst
 refine zk L.length (fun i (x:Int)=>x=(i:Int)∧∀c∈L.take i,c.1=(a:Int)→∀r,FW (L.map toE) c.2.1.toNat r v→r.length=k→¬sum+(c.2.2+wt r)<0) (fun o=>(o=some (-1)∧∀r,FW (L.map toE) a r v→r.length=k+1→¬sum+wt r<0) ∨
  ∃i,∃h:i<L.length,o=some (i:Int)∧L[i].1=(a:Int)∧∃r,FW (L.map toE) L[i].2.1.toNat r v∧r.length=k∧sum+(L[i].2.2+wt r)<0) Oz ⟨rfl,fun c hc=>by simp at hc⟩ ?_ ?_
 ·rintro i x g f ⟨rfl,hx⟩ hg
  obtain⟨⟨f0,f1,t0,t1⟩,G⟩:=hi _ (aK f)
  obtain⟨t,E⟩:=Int.eq_ofNat_of_zero_le t0
  have F:t<n:=by omega
  have l:=H.at' t F
  have next:(L[i].1=(a:Int)→∀r,FW (L.map toE) t r v→r.length=k→¬sum+(L[i].2.2+wt r)<0)→∀o,o=((i64 ((i:Int)+1)).bind fun K=>g K)→(o=some (-1)∧∀r,FW (L.map toE) a r v→r.length=k+1→¬sum+wt r<0) ∨
   ∃i,∃h:i<L.length,o=some (i:Int)∧L[i].1=(a:Int)∧∃r,FW (L.map toE) L[i].2.1.toNat r v∧r.length=k∧sum+(L[i].2.2+wt r)<0:=by
   rintro h o rfl
   rw[zp Oz,aA]
   refine hg _ ⟨rfl,fun c hc u r m b=>?_⟩
   rw[yz f,aU,aV]at hc
   rcases hc with hc|rfl
   ·exact hx c hc u r m b
   ·rw[E,Int.toNat_natCast]at m
    exact h u r m b
  rw[aF (zM f),zt f,aA,I,aA]
  simp only[E]
  rw[xo (e:=(false,0)) (by omega:t<w.length),aA]
  generalize w.getD t (false,0)=q at l ⊢
  obtain⟨M,s⟩:=q
  by_cases A:L[i].1=(a:Int)
  ·rw[aF (aH A)]
   cases M with
   |false=>
    rw[aD Y8]
    exact next (fun _ r m b=>absurd (l.least r m b).1 Y8) _ rfl
   |true=>
    have y:QV d (B*k) s:=l.num
    obtain⟨r0,D,lr0,er0⟩:=l.way rfl
    have er0:wt r0=s:=er0
    have s1:=z k Oz
    have s2:=z (k+1) Oz
    have N:SB d B:=by have:=z 1 Oz;rw[cG]at this;exact this
    have O:=z j Oz
    have P:=z (j+(k+1)) Oz
    have sum1:QV d (B*(k+1)) (L[i].2.2+s):=by
     have:=G.add y
     rw[show B+B*k=B*(k+1)by rw[Nat.mul_add,cG,Nat.add_comm]]at this
     exact this
    have sum2:QV d (B*(j+(k+1))) (sum+(L[i].2.2+s)):=by
     have:=p.add sum1
     rw[←Nat.mul_add]at this
     exact this
    rw[aF rfl,xr (G.sm N) (y.sm s1),aA,xr (p.sm O) (sum1.sm s2),aA,ZF (sum2.sm P),aA]
    by_cases c:sum+(L[i].2.2+s)<0
    ·rw[aF (aH (sgR_neg.mpr c))]
     exact .inr ⟨i,f,rfl,A,r0,by rw[E,Int.toNat_natCast];exact D,lr0,by rw[er0];exact c⟩
    ·rw[aD (by rw[aB];exact fun h=>c (sgR_neg.mp h))]
     refine next (fun _ r m b h=>c ?_) _ rfl
     have:=(l.least r m b).2
     have this:s≤wt r:=this
     grind
  ·rw[aD (by rw[aB];exact A)]
   exact next (fun h=>absurd h A) _ rfl
 ·rintro x g ⟨rfl,hx⟩
  rw[aD Y8,aY]at *
  refine .inl ⟨rfl,fun r m b=>?_⟩
  cases r with
  |nil=>cases b
  |cons c r=>
   obtain⟨h1,h2,J⟩:=m
   obtain⟨e,he,rfl⟩:=List.mem_map.mp h2
   have h0:=(hi e he).1
   exact hx e he (by have:e.1.toNat=a:=h1;omega) r J (by simpa using b)
theorem fst_pl{v:Nat}{tb:List (List Lb)}:∀(k:Nat) (_:k≤n) (_:k≤tb.length) (_:∀j,j<k→LnOK L n d B v j (tb.getD j [])) (a:Nat) (_:a<n) (sum:Rat) (j:Nat) (_:j+k≤4) (_:QV d (B*j) sum) (out:List Int) (_:out.length≤j),
 ∃w,zau L tb k (a:Int) sum out=some w∧(w=[]∨∃new s,w=out++new∧new.length=k∧IW L a new v s∧(k=0∨sum+s<0)∨k=0∧w=out)∧((∃r,FW (L.map toE) a r v∧r.length=k∧sum+wt r<0)→w=[]→k=0)
 |0,_,_,_,a,_,sum,j,_,_,out,_=>⟨out,rfl,.inr ⟨[],0,.inr ⟨rfl,rfl⟩⟩,fun _ _=>rfl⟩
 |k+1,hk,hkt,A,a,ha,sum,j,hj,f,out,ho=>by
  have D:∀j,j≤8→SB d (B*j):=fun j hj=>WC hs (bX _ hj)
  rw[zau]
  rcases zFst_pl hn hL hi hs Oz Oz (A k Oz) ha (show j≤4 by omega) f with⟨e,h⟩|⟨i,g,e,ea,r0,m,lr0,b⟩
  ·rw[e,aA,aF Uz]
   exact⟨[],rfl,.inl rfl,fun⟨r,h1,h2,p⟩=>absurd p (h r h1 h2)⟩
  ·obtain⟨⟨f0,f1,t0,t1⟩,z⟩:=hi _ (aK g)
   obtain⟨t,l⟩:=Int.eq_ofNat_of_zero_le t0
   have E:SB d B:=by have:=D 1 Oz;rw[cG]at this;exact this
   have sum1:QV d (B*(j+1)) (sum+L[i].2.2):=by
    have:=f.add z
    rw[show B*j+B=B*(j+1)by rw[Nat.mul_add,cG]]at this
    exact this
   rw[e,aA,aD Oz,zt g,aA,yF (by simp;omega),aA,xr (f.sm (D j Oz)) (z.sm E),aA,l]
   obtain⟨w,o,h1,h2⟩:=fst_pl k Oz Oz (fun j hj=>A j Oz) t Oz (sum+L[i].2.2) (j+1) Oz sum1 (out++[(i:Int)]) (by simp;omega)
   rw[l,Int.toNat_natCast]at m
   have q:w=[]→k=0:=h2 ⟨r0,m,lr0,by rw[Rat.add_assoc];exact b⟩
   refine⟨w,o,.inr ?_,fun _ C=>?_⟩
   ·rcases h1 with rfl|⟨new,s,(⟨p,u,y,x⟩|⟨p,u⟩)⟩
    ·obtain rfl:=q rfl
     rw[zau]at o
     exact absurd (cR o) Y8
    ·refine⟨(i:Int)::new,L[i].2.2+s,.inl ⟨by rw[p,bD];rfl,by simp[u],⟨i,rfl,g,by rw[ea,Int.toNat_natCast],s,rfl,by rw[l,Int.toNat_natCast];exact y⟩,.inr ?_⟩⟩
     rcases x with rfl|x
     ·obtain rfl:new=[]:=bO.mp u
      obtain⟨-,rfl⟩:=y
      obtain rfl:r0=[]:=bO.mp lr0
      exact b
     ·rw[←Rat.add_assoc];exact x
    ·subst p
     obtain rfl:r0=[]:=bO.mp lr0
     refine⟨[(i:Int)],L[i].2.2+0,.inl ⟨u,rfl,⟨i,rfl,g,by rw[ea,Int.toNat_natCast],0,rfl,?_,rfl⟩,.inr b⟩⟩
     rw[l,Int.toNat_natCast]
     exact m
   ·exfalso
    obtain rfl:=q C
    rw[zau]at o
    have:=cR o
    rw[C]at this
    simp at this
end
def Cyc(L:List Bd)(n:Nat)(w:List Int):Prop:=(0<w.length∧w.length≤n)∧∃v s,IW L v w v s∧s<0
theorem z205_tot(c out:List Int)(hc:c.length<64):∃r,z205 c out=some r:=by
 unfold z205
 refine zk c.length (fun i (x:Int)=>x=(i:Int)) (fun o=>∃r,o=some r) hc rfl ?_ ?_
 ·rintro i x g hi rfl hg
  rw[aF (zM hi),zt hi,aA]
  by_cases h:(out.length:Int)≤(i:Int)
  ·rw[aF (aH h)]
   exact⟨1,rfl⟩
  ·rw[aD (by rw[aB];exact h),zt (show i<out.length by omega),aA]
   have:∃r,zdL c[i] out[i]=some r:=by
    unfold zdL JA
    simp only[aA]
    repeat' (first|exact⟨_,rfl⟩|(split;skip))
   obtain⟨r,e⟩:=this
   rw[e,aA]
   by_cases h0:r=0
   ·rw[aD (by rw[aB];omega),zp Oz,aA]
    exact hg _ rfl
   ·rw[aF (by rw[aB];exact h0)]
    exact⟨r,rfl⟩
 ·rintro x g rfl
  rw[aD Y8]
  split
  ·exact⟨_,rfl⟩
  ·exact⟨_,rfl⟩
section
variable{n d B:Nat}{L:List Bd}(hn:0<n∧n≤4)(hL:L.length≤60)(hi:∀c∈L,(0≤c.1∧c.1<(n:Int)∧0≤c.2.1∧c.2.1<(n:Int))∧QV d B c.2.2)(hs:SB d (B*8))
structure TvOK(L:List Bd)(n d B v q:Nat)(t:List (List Lb)):Prop where
 len:t.length=q+1
 at':∀k,k≤q→LnOK L n d B v k (t.getD k [])
structure TsOK(L:List Bd)(n d B q:Nat)(ts:List (List (List Lb))):Prop where
 len:ts.length=n
 at':∀v,v<n→TvOK L n d B v q (ts.getD v [])
include hn in
theorem cyA_pl:∀(k v:Nat) (_:v+k=n) (ts:List (List (List Lb))) (_:ts.length=n) (_:∀j,j<v→TvOK L n d B j 0 (ts.getD j [])),∃a,cyA ((n:Int),L) k (v:Int) ts=some a∧TsOK L n d B 0 a
 |0,v,hv,ts,hl,h=>⟨ts,rfl,hl,fun j hj=>h j Oz⟩
 |k+1,v,hv,ts,hl,h=>by
  obtain⟨l0,e,b⟩:=ends_pl (L:=L) (d:=d) (B:=B) hn (show v<n by omega)
  rw[cyA,e,aA,Int.toNat_natCast]
  refine cyA_pl k (v+1) Oz _ (by rw[bP];exact hl) fun j hj=>?_
  rw[wp Oz]
  by_cases c:j=v
  ·subst c
   rw[aF rfl]
   exact⟨rfl,fun i hi=>by
    obtain rfl:i=0:=by omega
    exact b⟩
  ·rw[aD c]
   exact h j Oz
include hn hL hi hs in
theorem cyB_pl{q:Nat}(m:q<n):∀(k v:Nat) (_:v+k=n) (ts:List (List (List Lb))) (_:ts.length=n) (_:∀j,j<n→TvOK L n d B j (if j<v then q+1 else q) (ts.getD j [])),∃a,cyB ((n:Int),L) ((q:Int)+1) k (v:Int) ts=some a∧TsOK L n d B (q+1) a
 |0,v,hv,ts,hl,h=>⟨ts,rfl,hl,fun j hj=>by have:=h j hj;rw[aF Oz]at this;exact this⟩
 |k+1,v,hv,ts,hl,h=>by
  have g:v<n:=by omega
  have f:=h v g
  rw[aD Oz]at f
  obtain⟨w',e,l⟩:=longer_pl hn hL hi hs (v:=v) m (f.at' q (aO _))
  have o:=f.len
  rw[cyB,xo (e:=[]) (show v<ts.length by omega),aA,show((q:Int)+1-1)=(q:Int)by omega,xo (e:=[]) (show q<(ts.getD v []).length by omega),aA,e,aA,yF (by show _+1≤_;omega),aA,Int.toNat_natCast]
  refine cyB_pl m k (v+1) Oz _ (by rw[bP];exact hl) fun j hj=>?_
  rw[wp Oz]
  by_cases c:j=v
  ·subst c
   rw[aF rfl,aF Oz]
   refine⟨by rw[aQ,o];rfl,fun i hi=>?_⟩
   by_cases b:i=q+1
   ·subst b
    rw[aC,List.getElem?_append_right Oz,o,Nat.sub_self]
    exact l
   ·rw[aC,bY Oz,←aC]
    exact f.at' i Oz
  ·rw[aD c]
   have:=h j hj
   by_cases b:j<v
   ·rw[aF b]at this;rw[aF Oz];exact this
   ·rw[aD b]at this;rw[aD Oz];exact this
def Neg(L:List Bd)(n q:Nat):Prop:=∃v r,v<n∧FW (L.map toE) v r v∧r.length=q∧wt r<0
include hn hs in
theorem cyC_pl{q:Nat}(t:q≤n){ts:List (List (List Lb))}(i:TsOK L n d B q ts):∀(k v:Nat) (_:v+k=n) (_:∀j r,j<v→FW (L.map toE) j r j→r.length=q→¬wt r<0),∃b:Bool,cyC (q:Int) k (v:Int) ts=some b∧(b=true↔Neg L n q)
 |0,v,hv,h=>⟨false,rfl,fun h=>(nomatch h),fun⟨j,r,h1,h2,f,s⟩=>absurd s (h j r Oz h2 f)⟩
 |k+1,v,hv,h=>by
  have a:v<n:=by omega
  have m:=i.at' v a
  have tl:=m.len
  have l:=m.at' q (aO _)
  have p:=l.at' v a
  have ll:=l.len
  have hl:=i.len
  rw[cyC,xo (e:=[]) (show v<ts.length by omega),aA,xo (e:=[]) (show q<(ts.getD v []).length by omega),aA,xo (e:=(false,0)) (by omega:v<((ts.getD v []).getD q []).length),aA]
  generalize ((ts.getD v []).getD q []).getD v (false,0)=e at p ⊢
  obtain⟨e1,e2⟩:=e
  have next:(∀r,FW (L.map toE) v r v→r.length=q→¬wt r<0)→∃b:Bool,cyC (q:Int) k (v+1:Int) ts=some b∧(b=true↔Neg L n q):=fun o=>cyC_pl t i k (v+1) Oz fun j r hj h1 h2=>by
   by_cases c:j=v
   ·subst c;exact o r h1 h2
   ·exact h j r Oz h1 h2
  cases e1 with
  |false=>exact next fun r h1 h2=>absurd (p.least r h1 h2).1 Y8
  |true=>
   have g:QV d (B*q) e2:=p.num
   obtain⟨r0,h1,h2,f⟩:=p.way rfl
   have f:wt r0=e2:=f
   rw[aF rfl,ZF (g.sm (WC hs (bX _ Oz))),aA]
   by_cases c:e2<0
   ·rw[aF (sgR_neg.mpr c)]
    exact⟨true,rfl,fun _=>⟨v,r0,a,h1,h2,by rw[f];exact c⟩,fun _=>rfl⟩
   ·rw[aD fun h=>c (sgR_neg.mp h)]
    refine next fun r g1 g2 g3=>c ?_
    have:=(p.least r g1 g2).2
    have this:e2≤wt r:=this
    grind
include hn hL hi hs in
theorem cyD_pl:∀(k q:Nat) (_:q+k=n) (ts:List (List (List Lb))) (_:TsOK L n d B q ts) (_:∃j,q<j∧j≤n∧Neg L n j),∃m a,cyD ((n:Int),L) k q ts=some (m,a)∧(0<m∧m≤n)∧TsOK L n d B m a∧Neg L n m
 |0,q,i,ts,g,⟨j,h1,h2,_⟩=>by omega
 |k+1,q,i,ts,g,⟨j,h1,h2,h⟩=>by
  obtain⟨a,e,f⟩:=cyB_pl hn hL hi hs (q:=q) Oz n 0 Oz ts g.len (fun j hj=>by rw[aD Oz];exact g.at' j hj)
  obtain⟨b,eb,hb⟩:=cyC_pl hn hs (q:=q+1) Oz f n 0 Oz (fun j r hj=>by omega)
  rw[cyD]
  dsimp only
  rw[Int.toNat_natCast,show(0:Int)=((0:Nat):Int)from rfl,e,aA,show((q:Int)+1)=((q+1:Nat):Int)by omega,eb,aA]
  cases b with
  |true=>
   rw[aF rfl]
   exact⟨q+1,a,rfl,⟨by omega,by omega⟩,f,hb.mp rfl⟩
  |false=>
   rw[aD Y8]
   refine cyD_pl k (q+1) Oz a f ⟨j,?_,h2,h⟩
   by_cases c:j=q+1
   ·subst c;exact absurd (hb.mpr h) Y8
   ·omega
include hn hL hi hs in
theorem first_pl{m v:Nat}(hm:0<m∧m≤n)(hv:v<n){t:List (List Lb)}(g:TvOK L n d B v m t):∃w,z212 ((n:Int),L) t (v:Int) (m:Int)=some w∧(w=[]∨Cyc L n w)∧((∃r,FW (L.map toE) v r v∧r.length=m∧wt r<0)→w≠[])∧w.length≤n:=by
 have tl:=g.len
 unfold z212
 rw[aF ⟨by omega,by omega⟩,Int.toNat_natCast]
 obtain⟨w,e,h1,h2⟩:=fst_pl hn hL hi hs (v:=v) (tb:=t) m Oz Oz (fun j hj=>g.at' j Oz) v hv 0 0 Oz qv0 [] Y8
 refine⟨w,e,?_,fun⟨r,g1,g2,h⟩ k=>?_,?_⟩
 ·rcases h1 with rfl|⟨new,s,(⟨a,i,f,b⟩|⟨a,_⟩)⟩
  ·exact .inl rfl
  ·rw[cI]at a
   subst a
   refine .inr ⟨⟨by omega,by omega⟩,v,s,f,?_⟩
   rcases b with b|b
   ·omega
   ·rw[Rat.zero_add]at b;exact b
  ·omega
 ·have:=h2 ⟨r,g1,g2,by rw[Rat.zero_add];exact h⟩ k
  omega
 ·rcases h1 with rfl|⟨new,s,(⟨a,i,f,b⟩|⟨a,_⟩)⟩
  ·simp
  ·rw[cI]at a;subst a;omega
  ·omega
include hn hL hi hs in
theorem cyE_pl{m:Nat}(l:0<m∧m≤n){ts:List (List (List Lb))}(b:TsOK L n d B m ts):∀(k v:Nat) (_:v+k=n) (out:List Int) (_:out=[]∨Cyc L n out) (_:out≠[]∨∃j r,v≤j∧j<n∧FW (L.map toE) j r j∧r.length=m∧wt r<0),∃w,cyE ((n:Int),L) (m:Int) ts k (v:Int) out=some w∧Cyc L n w
 |0,v,hv,out,ho,a=>⟨out,rfl,by
  rcases a with h|⟨j,r,h1,h2,_⟩
  ·exact ho.resolve_left h
  ·omega⟩
 |k+1,v,hv,out,ho,a=>by
  have hl:=b.len
  obtain⟨c,e,h1,h2,h3⟩:=first_pl hn hL hi hs l (show v<n by omega) (b.at' v Oz)
  rw[cyE,xo (e:=[]) (show v<ts.length by omega),aA,e,aA]
  have rec':∀o:List Int,(o=[]∨Cyc L n o)→(o=[]→out=[]∧c=[])→∃w,cyE ((n:Int),L) (m:Int) ts k (v+1:Int) o=some w∧Cyc L n w:=fun o g1 g2=>by
   refine cyE_pl l b k (v+1) Oz o g1 ?_
   by_cases c0:o=[]
   ·right
    obtain⟨u,x⟩:=g2 c0
    obtain⟨j,r,h4,s,i⟩:=a.resolve_left fun h=>h u
    refine⟨j,r,?_,s,i⟩
    by_cases p:j=v
    ·subst p;exact absurd x (h2 ⟨r,i⟩)
    ·omega
   ·exact .inl c0
  by_cases c0:c.length=0
  ·rw[aF c0]
   have c0:=bO.mp c0
   exact rec' out ho fun h=>⟨h,c0⟩
  rw[aD c0]
  have cn:c≠[]:=fun h=>c0 (by rw[h];rfl)
  have g:=h1.resolve_left cn
  by_cases f:out.length=0
  ·rw[aF f]
   exact rec' c (.inr g) fun h=>absurd h cn
  rw[aD f]
  have t:out≠[]:=fun h=>f (by rw[h];rfl)
  obtain⟨r,q⟩:=z205_tot c out Oz
  rw[q,aA]
  split
  ·exact rec' c (.inr g) fun h=>absurd h cn
  ·exact rec' out ho fun h=>absurd h t
include hn hL hi hs in
theorem cycle_pl(b:¬ ∃y,Sat (L.map toE) y):∃w,zdQ ((n:Int),L)=some w∧Cyc L n w:=by
 obtain⟨ts,e,s⟩:=cyA_pl (L:=L) (d:=d) (B:=B) hn n 0 Oz (List.replicate n []) Y8 (fun j hj=>by omega)
 have a:∃j,0<j∧j≤n∧Neg L n j:=by
  apply eD
  intro h
  refine b (sat_of (n:=n) (Km hi) fun v r hv q hl h0=>Rat.not_lt.mp fun g=>h ⟨r.length,?_,hl,v,r,hv,q,rfl,g⟩)
  have:=List.length_pos_iff.mpr h0
  omega
 obtain⟨m,ts',i,p,f,j,r,g1,g2,l,o⟩:=cyD_pl hn hL hi hs n 0 Oz ts s a
 obtain⟨w,k,g⟩:=cyE_pl hn hL hi hs p f n 0 Oz [] (.inl rfl) (.inr ⟨j,r,by omega,g1,g2,l,o⟩)
 refine⟨w,?_,g⟩
 unfold zdQ
 dsimp only
 rw[aF ⟨by omega,by omega⟩,Int.toNat_natCast,show(0:Int)=((0:Nat):Int)from rfl,e,aA,i,aA]
 exact k
end
def Wp(d e x y:Rat):Prop:=y≤x+(d+e)∧x≤y+(e-d)
def zdE(P:List Pc)(T:List Q2)(F:List Fq)(x:Nat→Rat):Prop:=∀f∈F,∀k,k≤many f→Wp (dif P T f k).1 (ju P f) (x f.1.toNat) (x f.2.1.toNat)
def zdD(P:List Pc)(T:List Q2)(F:List Fq)(x:Nat→Rat):Prop:=∀f∈F,∀k,k≤many f→Wp (dif P T f k).2 (ju P f) (x f.1.toNat) (x f.2.1.toNat)
theorem zgc{F:List Fq}{d:Fq→Nat→Rat}{e:Fq→Rat}{x:Nat→Rat}:Sat ((F.flatMap fun f=>(List.range (many f+1)).flatMap fun k=>bdl f.1 f.2.1 (d f k) (e f)).map toE) x↔∀f∈F,∀k,k≤many f→Wp (d f k) (e f) (x f.1.toNat) (x f.2.1.toNat):=by
 constructor
 ·intro h f hf k hk
  have a:∀c∈bdl f.1 f.2.1 (d f k) (e f),toE c∈(F.flatMap fun f=>(List.range (many f+1)).flatMap fun k=>bdl f.1 f.2.1 (d f k) (e f)).map toE:=fun c hc=>
   dS (List.mem_flatMap.mpr ⟨f,hf,List.mem_flatMap.mpr ⟨k,dT.mpr Oz,hc⟩⟩)
  exact⟨h _ (a _ (aP ..)),h _ (a _ (aN _ (aP ..)))⟩
 ·intro h c hc
  obtain⟨b,hb,rfl⟩:=List.mem_map.mp hc
  obtain⟨f,hf,hb⟩:=List.mem_flatMap.mp hb
  obtain⟨k,hk,hb⟩:=List.mem_flatMap.mp hb
  have hk:=dT.mp hk
  obtain⟨h1,h2⟩:=h f hf k Oz
  unfold bdl at hb
  simp only[aL,cH,or_false]at hb
  rcases hb with rfl|rfl
  ·exact h1
  ·exact h2
theorem sat_X{P:List Pc}{T:List Q2}{F:List Fq}{x:Nat→Rat}:Sat ((Zq P T F).map toE) x↔zdE P T F x:=zgc (d:=fun f k=>(dif P T f k).1) (e:=ju P)
theorem sat_Y{P:List Pc}{T:List Q2}{F:List Fq}{x:Nat→Rat}:Sat ((Yc P T F).map toE) x↔zdD P T F x:=zgc (d:=fun f k=>(dif P T f k).2) (e:=ju P)
section
variable{P P':List Pc}{T T':List Q2}{F F':List Fq}{x y:Nat→Rat}
def Qu(g:Q2):Prop:=g=(1,0)∨g=(-1,0)∨g=(0,1)∨g=(0,-1)
theorem zgf(g t p:Q2):xL (aft g t) p=xL g (xL t p):=by
 unfold xL aft
 refine Prod.ext ?_ ?_<;>dsimp only<;>grind
theorem rot_sub(g p q:Q2):xL g (wv p q)=wv (xL g p) (xL g q):=by
 unfold xL wv
 refine Prod.ext ?_ ?_<;>dsimp only<;>grind
theorem zcx{g d:Q2}{e a c b f:Rat}(hg:Qu g)(hx:Wp d.1 e a b)(h:Wp d.2 e c f):Wp (xL g d).1 e (xL g (a,c)).1 (xL g (b,f)).1∧Wp (xL g d).2 e (xL g (a,c)).2 (xL g (b,f)).2:=by
 obtain⟨h1,h2⟩:=hx
 obtain⟨h3,h4⟩:=h
 unfold Wp xL
 rcases hg with rfl|rfl|rfl|rfl<;>dsimp only<;>refine⟨⟨?_,?_⟩,⟨?_,?_⟩⟩<;>grind
theorem sol_turn{g:Nat→Q2}(hg:∀v,Qu (g v))(hx:zdE P T F x)(b:zdD P T F y)(hs:∀f∈F',f∈F)(a:∀f∈F',g f.1.toNat=g f.2.1.toNat∧qW T' f.1=aft (g f.1.toNat) (qW T f.1)∧qW T' f.2.1=aft (g f.2.1.toNat) (qW T f.2.1)) :
 zdE P T' F' (fun v=>(xL (g v) (x v,y v)).1)∧zdD P T' F' (fun v=>(xL (g v) (x v,y v)).2):=by
 have key:∀f∈F',∀k,dif P T' f k=xL (g f.1.toNat) (dif P T f k):=fun f hf k=>by
  obtain⟨h1,h2,c⟩:=a f hf
  unfold dif
  rw[h2,c,←h1,zgf,zgf,rot_sub]
 refine⟨fun f hf k hk=>?_,fun f hf k hk=>?_⟩
 ·have:=zcx (hg f.1.toNat) (hx f (hs f hf) k hk) (b f (hs f hf) k hk)
  rw[key f hf k]
  dsimp only
  rw[←(a f hf).1]
  exact this.1
 ·have:=zcx (hg f.1.toNat) (hx f (hs f hf) k hk) (b f (hs f hf) k hk)
  rw[key f hf k]
  dsimp only
  rw[←(a f hf).1]
  exact this.2
end
theorem tn_qv{D:Nat}{t:Rat×Rat}(h:Tn D t)(hD:D≤25):∃d,Kd d∧V2 d 1 t∧Y4 t=true:=by
 have h1:=h.one
 obtain⟨d,x,y,h0,hd,hs,e1,e2⟩:=h
 have a:(0:Int)<d:=by omega
 have hx:=XN a hs
 have b:=XN (x:=y) (y:=x) a (by rw[←hs];omega)
 rw[Int.natAbs_natCast]at hx b
 have key:∀{z:Int},z.natAbs≤d→QV d 1 (mkRat z d):=fun{z} hz=>by
  refine⟨z,?_,by omega⟩
  rw[Rat.mkRat_eq_div]
  exact Rat.div_mul_cancel (by exact_mod_cast (by omega:d≠0))
 exact⟨d,⟨h0,by omega⟩,⟨by rw[e1];exact key hx,by rw[e2];exact key b⟩,aH h1⟩
theorem fit_tu{f:Fq}(h:FitOK f):TuOK f:=tn_qv h.tn Uz
theorem still_eq:z65=some (qI 1,0)∧z37=some (qI 1,0):=by
 have a:ofG 1 1=some (qI 1):=ofI Uz
 unfold z65 z37
 rw[a]
 exact⟨rfl,rfl⟩
theorem Yy{d e B C:Nat}{a b:Rat×Rat}(h:V2 d B a)(g:V2 e C b)(s:SB d B)(s':SB e C):z47 a b=some (decide (a=b))∧z66 a b=some (decide (a=b))∧z51 a b=some (decide (a=b))∧z133 a b=some (decide (a=b)):=by
 have e1:(decide (a=b))=(decide (a.1=b.1)&&decide (a.2=b.2)):=by
  rw[←Bool.decide_and]
  congr 1
  exact propext ⟨fun q=>by rw[q];exact⟨rfl,rfl⟩,fun q=>Prod.ext q.1 q.2⟩
 have e2:z47 a b=some (decide (a=b)):=by
  unfold z47
  rw[uX (h.1.sm s) (g.1.sm s'),uX (h.2.sm s) (g.2.sm s'),e1]
  simp only[aA]
  cases decide (a.1=b.1)<;>rfl
 exact⟨e2,e2,e2,e2⟩
theorem zdA{d e:Nat}{t u:Rat×Rat}(hd:Kd d)(he:Kd e)(h:V2 d 1 t)(g:V2 e 1 u):z67 t u=some (xL t u)∧z73 t u=some (xL t u)∧V2 (d*e) 2 (xL t u)∧SB (d*e) 2:=by
 have b:d*e≤289*289:=eE hd.2 he.2
 have a:0<d*e:=Nat.mul_pos hd.1 he.1
 have r:=Xf h g (hd.s0 Uz) (he.s0 Uz) ⟨a,by omega⟩
 refine⟨?_,Jy r,V2.rot h g,⟨a,by omega⟩⟩
 unfold z67
 rw[uS r]
 rfl
theorem Q5{a m:Int}(ha:yy a)(h0:0<m)(h1:m<100000):∃r,z10 a m=some r∧0≤r∧r<m:=by
 unfold z10
 have t:∀{x:Int},0≤x→0≤Int.tmod x m∧Int.tmod x m<m:=fun hx=>⟨Int.tmod_nonneg _ hx,Int.tmod_lt_of_pos _ h0⟩
 by_cases h:a<0
 ·have e1:i64 (a+1)=some (a+1):=by unfold i64;rw[aF];unfold yy at *;omega
  have e2:i64 (0-(a+1))=some (0-(a+1)):=by unfold i64;rw[aF];unfold yy at *;omega
  rw[aF (aH h),e1,aA,e2,aA,aD Oz]
  exact⟨_,rfl,t Oz⟩
 ·rw[aD (by simp only[aB];exact h),aD Oz]
  exact⟨_,rfl,t Oz⟩
theorem z10_nn{a m:Int}(h0:0≤a)(hm:0<m):z10 a m=some (Int.tmod a m):=by
 unfold z10
 rw[aD (by simp only[aB];omega),aD Oz]
def L64(l:List Int):Prop:=∀x∈l,yy x
theorem v8{l:List Int}(hl:L64 l){i m:Int}(hi:0≤i)(h0:0<m)(h1:m<100000):∃r,z21 l i m=some r∧0≤r∧r<m:=by
 unfold z21
 rw[aD (by simp only[aB];omega)]
 by_cases h:(l.length:Int)≤i
 ·rw[aF (aH h)]
  exact⟨0,rfl,by omega,h0⟩
 ·rw[aD (by simp only[aB];exact h)]
  obtain⟨x,hx,e⟩:=YH (l:=l) hi Oz
  obtain⟨r,b,h2,a⟩:=Q5 (hl x hx) h0 h1
  rw[e,aA,b]
  exact⟨r,rfl,h2,a⟩
theorem W4{x:Int}(h:x.natAbs<1000000000):yy x:=by unfold yy;omega
theorem Xn{p q:Int}(hp:p.natAbs<1000000)(a:0<q∧q<1000000):ofG p q=some (Rat.divInt p q):=aF ⟨by omega,by omega,a.1⟩
theorem Vy{p:Int}{q d:Nat}{B:Nat}(hq:0<q)(k:Nat)(hd:q*k=d)(hp:p.natAbs≤q*B):QV d B (Rat.divInt p (q:Int)):=by
 subst hd
 have:QV q B (Rat.divInt p (q:Int)):=by
  refine⟨p,?_,hp⟩
  rw[Rat.divInt_eq_div]
  exact Rat.div_mul_cancel (by exact_mod_cast (by omega:q≠0))
 exact this.up
theorem z43_ok{n:Int}(hn:0≤n∧n<32):∃t,z43 n=some t∧Tn 17 t:=by
 obtain⟨r,e,h0,h1⟩:∃r,z10 n 64=some r∧0≤r∧r<32:=⟨_,z10_nn hn.1 Uz,by rw[Int.tmod_eq_of_lt hn.1 Oz];exact hn.1,by rw[Int.tmod_eq_of_lt hn.1 Oz];exact hn.2⟩
 have a0:0≤Int.tdiv r 4:=Int.tdiv_nonneg h0 Uz
 have a1:Int.tdiv r 4≤16:=by rw[dL h0];omega
 have b0:=Int.tmod_nonneg 4 a0
 have b1:=Int.tmod_lt_of_pos (Int.tdiv r 4) (show(0:Int)<4 by decide)
 have c0:0≤Int.tdiv r 16:=Int.tdiv_nonneg h0 Uz
 have c1:Int.tdiv r 16≤1:=by rw[dL h0];omega
 have q0:=Int.tmod_nonneg 4 h0
 have q1:=Int.tmod_lt_of_pos r (show(0:Int)<4 by decide)
 unfold z43
 rw[e,aA,aD Uz,xh Oz,aA,aD Uz,xh Oz,aA,aD Uz,xh Oz,aA]
 generalize Int.tmod (Int.tdiv r 4) 4=u at *
 generalize Int.tdiv r 16=v at *
 have b:∀{x:Int} (M:Nat),0≤x→x≤M→0≤x*x∧x*x≤M*M:=fun M g0 g1=>⟨Int.mul_nonneg g0 g0,Int.mul_le_mul g1 g1 g0 Oz⟩
 have s1:=b (x:=1+u) 4 Oz Oz
 have s2:=b (x:=v) 1 Oz Oz
 have s1':1≤(1+u)*(1+u):=by
  have:(1:Int)*1≤(1+u)*(1+u):=Int.mul_le_mul Oz Oz Oz Oz
  omega
 have s3:0≤(1+u)*v∧(1+u)*v≤4*1:=⟨Int.mul_nonneg Oz Oz,Int.mul_le_mul Oz Oz Oz Oz⟩
 have e3:2*(1+u)*v=2*((1+u)*v):=Int.mul_assoc ..
 have a:((1+u)*(1+u)-v*v)*((1+u)*(1+u)-v*v)+(2*(1+u)*v)*(2*(1+u)*v)=((1+u)*(1+u)+v*v)*((1+u)*(1+u)+v*v):=by grind
 rw[xh Oz,aA,xh Oz,aA,xh Oz,aA,aA,aA,xh Oz,aA,Xn Oz Oz,aA,xh Oz,aA,xh Oz,aA,Xn Oz Oz,aA]
 generalize 2*(1+u)*v=Y at *
 generalize (1+u)*(1+u)=U at *
 generalize v*v=V at *
 obtain⟨d,hd⟩:=Int.eq_ofNat_of_zero_le (show 0≤U+V by omega)
 have tn:Tn 17 (Rat.divInt (U-V) (U+V),Rat.divInt Y (U+V)):=by
  refine⟨d,U-V,Y,by omega,by omega,by rw[a,hd],?_,?_⟩
  ·show Rat.divInt _ _=_
   rw[hd];rfl
  ·show Rat.divInt _ _=_
   rw[hd];rfl
 generalize Rat.divInt (U-V) (U+V)=c at *
 generalize Rat.divInt Y (U+V)=s at *
 obtain⟨k,hk⟩:=Int.eq_ofNat_of_zero_le q0
 rw[hk]
 refine zk k (fun i x=>x.1=(i:Int)∧Tn 17 x.2) (fun o=>∃t,o=some t∧Tn 17 t) Oz ⟨rfl,tn⟩ ?_ ?_
 ·rintro i ⟨x,c,s⟩ g hi ⟨rfl,h⟩ hg
  rw[aD Uz,aF (zM hi)]
  have hb:=(show Tn 17 (c,s)from h).bd.2
  have hb1:s.num.natAbs≤17:=hb.1
  have hb2:s.den≤17:=hb.2
  have sm:Sm s:=⟨by omega,by omega⟩
  simp only[kL sm,aA,zp (show i<100000 by omega)]
  exact hg _ ⟨rfl,h.quarter⟩
 ·rintro⟨x,c,s⟩ g ⟨rfl,h⟩
  rw[aD Uz,aD Y8]
  exact⟨_,rfl,h⟩
theorem gf{α:Type}{P:α→Prop}:∀{l:List α} {n:Nat} {x:α},(∀y∈l,P y)→P x→∀y∈zE l n x,P y
 | [],_,_,_,_,y,b=>nomatch b
 |a::l,0,x,h,hx,y,b=>by
  rcases aL.mp b with rfl|b
  ·exact hx
  ·exact h y (aN _ b)
 |a::l,n+1,x,h,hx,y,b=>by
  rcases aL.mp b with rfl|b
  ·exact h _ (aP ..)
  ·exact gf (fun y b=>h y (aN _ b)) hx y b
theorem jG{f g:Fq}(h:FitOK f)(a:yy g.1)(b:yy g.2.1)(e:g.2.2.2.2.2=f.2.2.2.2.2):FitOK g:=⟨a,b,by rw[e];exact h.tn⟩
theorem fit_turn{f:Fq}{t:Rat×Rat}(h:FitOK f)(c:Tn 17 t):FitOK (f.1,f.2.1,f.2.2.1,f.2.2.2.1,f.2.2.2.2.1,t,f.2.2.2.2.2.2):=⟨h.a,h.b,c⟩
inductive KL:List Fq→Nat→Prop
 |nil:KL [] 1
 |cons {f:Fq} {F:List Fq} {d K:Nat}:Tx d f.2.2.2.2.2.1→KL F K→KL (f::F) (d*K)
theorem KL.pos:∀{F:List Fq} {K:Nat},KL F K→0<K
 |_,_,.nil=>by omega
 |_,_,.cons h g=>Nat.mul_pos h.1 g.pos
def Gr(G:List Fq)(K:Nat):Prop:=∃a,a≤17*K∧KL G a
theorem Gr.same{G:List Fq}{K:Nat}(h:KL G K):Gr G K:=⟨K,by omega,h⟩
theorem kl_set:∀{F:List Fq} {K i:Nat} {x:Fq},KL F K→Tn 17 x.2.2.2.2.2.1→Gr (zE F i x) K
 |_,_,_,_,.nil,_=>.same .nil
 |_,_,0,x,.cons (d:=d) (K:=K) h g,hx=>by
  obtain⟨e,he,hx⟩:=hx.ex
  refine⟨e*K,?_,.cons hx g⟩
  have:=eE he (aO K)
  have h1:=h.1
  have:K*1≤K*d:=bX _ h1
  rw[Nat.mul_comm d K]
  omega
 |_,_,i+1,x,.cons (d:=d) (K:=K) h g,hx=>by
  obtain⟨a,h1,h2⟩:=kl_set (i:=i) g hx
  refine⟨d*a,?_,.cons h h2⟩
  have:=eE (aO d) h1
  rw[Nat.mul_left_comm]at this
  exact this
theorem zal:∀{F:List Fq} {K i:Nat} {x:Fq},KL F K→(∀f,F[i]? = some f→x.2.2.2.2.2.1=f.2.2.2.2.2.1)→KL (zE F i x) K
 |_,_,_,_,.nil,_=>.nil
 |_,_,0,x,.cons (f:=f) h g,hx=>by
  have:=hx f rfl
  exact .cons (by rw[this];exact h) g
 |_,_,i+1,x,.cons h g,hx=>.cons h (zal g hx)
theorem zeC:∀{F:List Fq} {K i:Nat},KL F K→∃a,a≤K∧KL (F.take i++F.drop (i+1)) a
 |_,_,_,.nil=>⟨1,aO _,by simp;exact .nil⟩
 |_,_,0,.cons (d:=d) (K:=K) h g=>⟨K,by have:K*1≤K*d:=bX _ h.1;rw[Nat.mul_comm d K];omega,g⟩
 |_,_,i+1,.cons (d:=d) (K:=K) h g=>by
  obtain⟨a,h1,h2⟩:=zeC (i:=i) g
  exact⟨d*a,bX _ h1,.cons h h2⟩
theorem kl_app:∀{F:List Fq} {K:Nat} {x:Fq},KL F K→Tn 17 x.2.2.2.2.2.1→Gr (F++[x]) K
 |_,_,x,.nil,hx=>by
  obtain⟨e,he,hx⟩:=hx.ex
  exact⟨e*1,by omega,.cons hx .nil⟩
 |_,_,x,.cons (d:=d) (K:=K) h g,hx=>by
  obtain⟨a,h1,h2⟩:=kl_app g hx
  refine⟨d*a,?_,.cons h h2⟩
  have:=eE (aO d) h1
  rw[Nat.mul_left_comm]at this
  exact this
theorem KL.fn:∀{F:List Fq} {K:Nat},KL F K→∃D:Nat→Nat,pr D (List.range F.length)=K∧∀k,k<F.length→Tx (D k) (F.getD k default).2.2.2.2.2.1
 |_,_,.nil=>⟨fun _=>1,rfl,fun k hk=>absurd hk Y8⟩
 |_,_,.cons (f:=f) (F:=F) (d:=d) h g=>by
  obtain⟨D,h1,h2⟩:=g.fn
  refine⟨fun k=>match k with|0=>d|k+1=>D k,?_,fun k hk=>?_⟩
  ·rw[aW,List.range_succ_eq_map,pr,pr_map,←h1]
  ·match k,hk with
   |0,_=>exact h
   |k+1,hk=>exact h2 k (by simpa using hk)
theorem zhd{F:List Fq}{K:Nat}(h1:F.length≤5)(hf:∀f∈F,FitOK f)(q:KL F K){how c:Int}(M:yy how)(hb:yy c):∃G,z9 F how c=some G∧G.length≤F.length+1∧(∀f∈G,FitOK f)∧Gr G K:=by
 by_cases h0:0<F.length
 case neg=>
  obtain rfl:F=[]:=bO.mp Oz
  exact⟨[],by unfold z9;rfl,by simp,by simp,.same q⟩
 obtain⟨r2,e2,o,p⟩:=Q5 (m:=(F.length:Int)) hb Oz Oz
 have w:yy (Int.tdiv c 4):=by
  unfold yy at *
  rcases Int.le_total 0 c with h|h
  ·rw[dL h];omega
  ·have:Int.tdiv c 4 = -(Int.tdiv (-c) 4):=by rw[Int.neg_tdiv,Int.neg_neg]
   rw[this,dL Oz]
   omega
 obtain⟨d,H,e,g41⟩:=Q5 (m:=32) w Oz Oz
 obtain⟨j,I,g50,g51⟩:=Q5 (m:=7) M Oz Oz
 obtain⟨f,u,C⟩:=YH (l:=F) o p
 have ok:=hf f u
 obtain⟨t,J,N⟩:=z43_ok (n:=d) Oz
 have O:i64 (Int.tdiv c 4)=some (Int.tdiv c 4):=aF w
 have m0:=Int.tmod_nonneg 5 e
 have m1:=Int.tmod_lt_of_pos d (show(0:Int)<5 by decide)
 have Q:¬((5:Nat)=0):=by decide
 have n4:¬((4:Nat)=0):=by decide
 have E:0≤Int.tdiv d 5∧Int.tdiv d 5≤31:=by rw[dL e];omega
 have d4:0≤Int.tdiv d 4∧Int.tdiv d 4≤31:=by rw[dL e];omega
 have k0:=Int.tmod_nonneg 5 E.1
 have v:=Int.tmod_lt_of_pos (Int.tdiv d 5) (show(0:Int)<5 by decide)
 have fin:∀{x:Fq},FitOK x→∃G,some (zE F r2.toNat x)=some G∧G.length≤F.length+1∧(∀f∈G,FitOK f)∧Gr G K:=fun{x} hx=>⟨_,rfl,by rw[yE];omega,gf hf hx,kl_set q hx.tn⟩
 unfold z9
 rw[aD (by simp only[aB];omega),show app ([]:List Fq) F=some F by rw[yF (by simp;omega)];rfl]
 simp only[aA,e2,aD n4,aD Q,O,H,I,C,J]
 by_cases c0:j=0
 ·rw[aF (aH c0),xh Oz,aA]
  unfold cutZ
  rw[aF Oz]
  obtain⟨D,v,P⟩:=zeC (i:=r2.toNat) q
  refine⟨_,rfl,by simp;omega,fun x hx=>?_,D,by omega,?_⟩
  ·rcases aU.mp hx with hx|hx
   ·exact hf x (eI hx)
   ·exact hf x (List.mem_of_mem_drop hx)
  ·rw[show(r2+1).toNat=r2.toNat+1 by omega]
   exact P
 rw[aD (by simp only[aB];exact c0)]
 by_cases c1:j=1
 ·rw[aF (aH c1)]
  exact fin (fit_turn ok N)
 rw[aD (by simp only[aB];exact c1)]
 by_cases y:j=2
 ·rw[aF (aH y)]
  exact fin (jG ok ok.a ok.b rfl)
 rw[aD (by simp only[aB];exact y)]
 by_cases z:j=3
 ·rw[aF (aH z)]
  exact fin (jG ok ok.a ok.b rfl)
 rw[aD (by simp only[aB];exact z)]
 by_cases A:j=4
 ·rw[aF (aH A)]
  exact fin (jG ok ok.a ok.b rfl)
 rw[aD (by simp only[aB];exact A)]
 by_cases B:j=5
 ·rw[aF (aH B),xh Oz,aA,xh Oz,aA]
  have ok1:FitOK (Int.tmod d 5-1,f.2):=jG ok (W4 (show(Int.tmod d 5-1).natAbs<_ by omega)) ok.b rfl
  have all:=gf (l:=F) (n:=r2.toNat) hf ok1
  obtain⟨L,r,k⟩:=YH (l:=zE F r2.toNat (Int.tmod d 5-1,f.2)) o (by rw[yE];exact p)
  have s:=all L r
  simp only[k,aA]
  refine⟨_,rfl,by rw[yE,yE];omega,gf all (jG s s.a (W4 (show(Int.tmod (Int.tdiv d 5) 5).natAbs<_ by omega)) rfl),.same ?_⟩
  have v:KL (zE F r2.toNat (Int.tmod d 5-1,f.2)) K:=zal q fun g hg=>by
   rw[(qF C).2.2]at hg
   rw[←cR hg]
  exact zal v fun g hg=>by
   rw[(qF k).2.2]at hg
   rw[←cR hg]
 rw[aD (by simp only[aB];exact B),xh Oz,aA,yF (by simp;omega),aA]
 refine⟨_,rfl,by simp,fun x hx=>?_,kl_app q ok.tn⟩
 rcases aU.mp hx with hx|hx
 ·exact hf x hx
 ·rw[aV.mp hx]
  exact jG ok ok.a ok.b rfl
structure CaseOK(P:List Pc)(F:List Fq)(K:Nat):Prop where
 n:0<P.length∧P.length≤4
 pc:∀p∈P,PcOK p
 fl:F.length≤6
 ft:∀f∈F,FitOK f
 kl:KL F K
 kd:K≤289
def okB(P:List Pc)(F:List Fq):Bool:=jb P.length F&&F.all Ko
theorem tx_v2{d:Nat}{t:Rat×Rat}(h:Tx d t):V2 d 1 t:=by
 obtain⟨h0,x,y,hs,e1,e2⟩:=h
 have a:(0:Int)<d:=by omega
 have hx:=XN a hs
 have b:=XN (x:=y) (y:=x) a (by rw[←hs];omega)
 rw[Int.natAbs_natCast]at hx b
 have key:∀{z:Int},z.natAbs≤d→QV d 1 (mkRat z d):=fun{z} hz=>by
  refine⟨z,?_,by omega⟩
  rw[Rat.mkRat_eq_div]
  exact Rat.div_mul_cancel (by exact_mod_cast (by omega:d≠0))
 exact⟨by rw[e1];exact key hx,by rw[e2];exact key b⟩
theorem V2.dvd{d e B:Nat}{v:Rat×Rat}(h:V2 d B v)(g:d∣e):V2 e B v:=by
 obtain⟨k,rfl⟩:=g
 exact h.up
section
variable{P:List Pc}{F:List Fq}{K:Nat}(h:CaseOK P F K)
include h
theorem CaseOK.k:Kd K:=⟨h.kl.pos,h.kd⟩
theorem CaseOK.tu:∀f∈F,TuOK f:=fun f hf=>fit_tu (h.ft f hf)
theorem CaseOK.right:z44 (P.length:Int) F=some (jb P.length F):=zbL h.fl h.tu
section
variable(ok:okB P F=true)
include ok
omit h in
theorem ok_r:jb P.length F=true:=by unfold okB at ok;rw[aG]at ok;exact ok.1
omit h in
theorem zci:∀f∈F,0≤f.1∧f.1<f.2.1∧f.2.1<(P.length:Int):=fun f hf=>dE (List.all_eq_true.mp (ok_r ok) f hf)
omit h in
theorem ok_f:∀f∈F,FtOK P.length f:=fun f hf=>by
 have hs:F.all Ko=true:=by unfold okB at ok;rw[aG]at ok;exact ok.2
 obtain⟨a,b,c⟩:=zci ok f hf
 obtain⟨d,e,k⟩:=dE (List.all_eq_true.mp hs f hf)
 exact⟨a,b,c,d,e,k⟩
theorem pre_t:PreT P.length F:=⟨h.n.2,h.fl,by rw[h.right,ok_r ok],zci ok,fun f hf=>(h.ft f hf).tn.le Uz⟩
theorem JF:z11 (P.length:Int) F=some (ZC P.length F):=by
 unfold z11
 rw[Int.toNat_natCast,aF ⟨by omega,pre_t h ok⟩]
theorem z17_eq:z17 (P.length:Int) F=some (xN P.length F):=WL (zci ok) h.n.2 h.fl (by rw[h.right,ok_r ok])
omit h in
theorem JT:RootsOf (eds F) P.length (yG (eds F) F.length) (xN P.length F):=u7 fun k hk=>by
 rw[show eds F k=(F[k].1,F[k].2.1)from(zaE hk).2];exact zci ok _ (aK hk)
end
theorem zfW(i:Nat):V2 K 1 (xi P.length F i):=by
 obtain⟨D,b,c⟩:=h.kl.fn
 unfold xi
 cases f:way (eds F) (yG (eds F) F.length) ((xN P.length F).getD i 0) i with
 |none=>exact(tx_v2 zbp).dvd (Nat.one_dvd _)
 |some r=>
  obtain⟨h1,h2⟩:=wm (xk _) f
  have a:∀k∈r,k<F.length:=fun k hk=>qo _ k (h2 k hk)
  have:=zdr (e:=eds F) (T:=trn F) (D:=D) (r:=r) (v:=(xN P.length F).getD i 0) (fun k hk=>c k (a k hk)) zbp
  rw[dQ]at this
  refine(tx_v2 this).dvd ?_
  rw[←b]
  exact zeh h1 fun k hk=>dT.mpr (a k hk)
end
def yH(n:Nat)(F:List Fq):List Q2:=(List.range n).map (xi n F)
structure Gst(L:List Bd)(n d:Nat)(x:List Rat):Prop where
 len:x.length=n
 sat:Sat (L.map toE) (fx x)
 neg:∀v,v<n→fx x v≤0
 top:∀y,Sat (L.map toE) y→(∀v,v<n→y v≤0)→∀v,v<n→y v≤fx x v
 num:∀v,v<n→QV d 180 (fx x v)
section
variable{n d B:Nat}{L:List Bd}
theorem wt_qv(a:∀c∈L,QV d B c.2.2):∀{v u:Nat} {r:List Ed},PR (L.map toE) v r u→QV d (B*r.length) (wt r)
 |_,_,[],_=>qv0
 |_,_,c::r,⟨_,h2,b⟩=>by
  obtain⟨e,he,rfl⟩:=List.mem_map.mp h2
  have:=(a e he).add (wt_qv a b)
  rw[show B+B*r.length=B*(r.length+1)by rw[Nat.mul_add,cG,Nat.add_comm]]at this
  exact this
end
section
variable{n K:Nat}{L:List Bd}(hK:Kd K)(hn:0<n∧n≤4)(hg:zhn K n 60 L)
include hK hn hg
theorem zhf:(∃x,z77 (n:Int) L=some (x,[],0)∧Gst L n (K*4) x)∨(¬(∃y,Sat (L.map toE) y)∧∃w,z77 (n:Int) L=some ([],w,14)∧Cyc L n w):=by
 have hi:∀c∈L,(0≤c.1∧c.1<(n:Int)∧0≤c.2.1∧c.2.1<(n:Int))∧QV (K*4) 60 c.2.2:=fun c hc=>by
  obtain⟨h1,h2,k⟩:=hg.2 c hc
  exact⟨⟨h1.1,h1.2,h2.1,h2.2⟩,k⟩
 have s1:=hK.s1 (c:=4) (B:=60*(5*60+1)) Uz
 have b:=zgz hn hg.1 hg.2
 rcases zcD hg.1 hi hn.1 Oz (WC s1 Oz)with⟨x,e,o,f,hu,hs,hq⟩|⟨e,a⟩
 ·left
  refine⟨x,?_,o,hs,fun v hv=>?_,fun y m h0 v hv=>f.top (Km hi) m h0 hv,fun v hv=>?_⟩
  ·unfold z77
   rw[b,aA,aD Y8,e,aA,aD Y8]
  ·exact hu v [] v hv rfl (aO _)
  ·obtain⟨r,u,hp,e⟩:=f.way v hv
   obtain⟨q,g,q2,p⟩:=short (Km hi) hs r.length rfl hv hp
   have i:=hu u [] u (PR.lt (Km hi) hv hp) rfl (aO _)
   have i:fx x u≤0:=i
   have le:=hs.path g
   have:fx x v=wt q:=by
    refine Rat.le_antisymm ?_ (by rw[e];exact p)
    grind
   rw[this]
   exact(wt_qv (fun c hc=>(hi c hc).2) g).le Oz
 ·right
  obtain⟨w,j,l⟩:=cycle_pl hn hg.1 hi (WC s1 Oz) a
  refine⟨a,w,?_,l⟩
  unfold z77
  rw[b,aA,aD Y8,e,aA,aF Y8,j,aA]
end
theorem nan_ok(x:Int):JA x=some false:=by unfold JA;simp
theorem zcZ{l:List Int}{x:Int}:∀{p:Nat},p≤l.length→(x∈vM l p↔x∈l.take p)
 |0,_=>by rw[vM,List.take_zero]
 |p+1,h=>by
  have a:=zcZ (l:=l) (x:=x) (p:=p) Oz
  have b:l.take (p+1)=l.take p++[l.getD p 0]:=jU Oz
  rw[vM,b,aU,aV,←a]
  by_cases h0:p=0
  ·subst h0
   rw[aF rfl,aV,vM]
   simp
  rw[aD h0]
  by_cases c:l.getD p 0=l.getD (p-1) 0
  ·rw[aF c]
   refine⟨.inl,fun q=>q.elim id fun e=>?_⟩
   rw[a,e,c,show l.getD (p-1) 0=l[p-1]from zD Oz]
   rw[List.mem_take_iff_getElem]
   exact⟨p-1,by omega,rfl⟩
  ·rw[aD c,aU,aV]
theorem zgW{l:List Int}(hs:Srt l l.length):∀{p:Nat},p≤l.length→(vM l p).Pairwise (·<·)∧∀x∈vM l p,x≤l.getD (p-1) 0
 |0,_=>by rw[vM];exact⟨.nil,fun x hx=>(by cases hx)⟩
 |p+1,h=>by
  obtain⟨h1,h2⟩:=zgW hs (p:=p) Oz
  rw[vM,Nat.add_sub_cancel]
  by_cases h0:p=0
  ·subst h0
   rw[aF rfl]
   exact⟨List.pairwise_singleton _ _,fun x hx=>by rw[aV.mp hx];omega⟩
  rw[aD h0]
  by_cases c:l.getD p 0=l.getD (p-1) 0
  ·rw[aF c]
   exact⟨h1,fun x hx=>by rw[c];exact h2 x hx⟩
  ·rw[aD c]
   have le:=hs (p-1) p Oz Oz
   refine⟨List.pairwise_append.mpr ⟨h1,List.pairwise_singleton _ _,fun x hx y a=>?_⟩,fun x hx=>?_⟩
   ·rw[aV.mp a]
    have:=h2 x hx
    omega
   ·rcases aU.mp hx with hx|hx
    ·have:=h2 x hx;omega
    ·rw[aV.mp hx];omega
theorem srtZ_ok{l:List Int}(h0:0<l.length)(h12:l.length≤11)(e:Int):∃c,srtZ l e=some ([],c,e)∧(∀x,x∈c↔x∈l)∧c.Pairwise (·<·):=by
 have n:(l.length:Int) % 18446744073709551616=(l.length:Int):=by omega
 unfold srtZ
 rw[n,aF ⟨by omega,by omega⟩,show((l.length:Int)-0)=(l.length:Int)by omega,xh Oz,aA,aF (aH Oz)]
 refine zk (l.length-1) (fun i (x:Int×List Int)=>x.1=((i+1:Nat):Int)∧x.2.Perm l∧Srt x.2 (i+1)) (fun o=>∃c:List Int,o=some ([],c,e)∧(∀x,x∈c↔x∈l)∧c.Pairwise (·<·)) Oz ⟨rfl,List.Perm.refl _,fun p q h1 h2=>by omega⟩ ?_ ?_
 ·rintro i ⟨x,M⟩ g hi ⟨rfl,b,f⟩ hg
  dsimp only at b f ⊢
  rw[aF (aH (show((i+1:Nat):Int)<(l.length:Int)by omega))]
  have out:∀M:List Int,M.Perm l→Srt M (i+1+1)→∃c,((i64 (((i+1:Nat):Int)+1)).bind fun k=>g (k,M))=some ([],c,e)∧(∀x,x∈c↔x∈l)∧c.Pairwise (·<·):=fun M b f=>by
   rw[zp (show i+1<100000 by omega),aA]
   exact hg _ ⟨rfl,b,f⟩
  refine zk (i+1) (fun t (x:Int×List Int)=>t≤i+1∧x.1=((i+1-t:Nat):Int)∧x.2.Perm l∧But x.2 (i+1) (i+1-t)) (fun o=>∃c:List Int,o=some ([],c,e)∧(∀x,x∈c↔x∈l)∧c.Pairwise (·<·)) Oz ⟨by omega,rfl,b,f.but⟩ ?_ ?_
  ·rintro t ⟨x,M'⟩ r ht ⟨s,rfl,a,d⟩ h
   dsimp only at a d ⊢
   have u:=a.length_eq
   obtain⟨j,hj⟩:∃j,i+1-t=j+1:=⟨i-t,by omega⟩
   rw[hj]at d ⊢
   have p1:j+1<M'.length:=by omega
   have m:(((j+1:Nat):Int)-1)=(j:Int):=by omega
   rw[aF (aH Oz)]
   simp only[xo (e:=0) p1,aA,m,xh (show((j:Int)).natAbs<_ by omega),xo (e:=0) (show j<M'.length by omega),nan_ok,aX,cK]
   by_cases c:M'.getD (j+1) 0<M'.getD j 0
   ·rw[aF (aH c)]
    have ls:(zE M' (Int.toNat ((j+1:Nat):Int)) (M'.getD j 0)).length=M'.length:=yE ..
    rw[xo (e:=0) (show j<(zE M' (Int.toNat ((j+1:Nat):Int)) (M'.getD j 0)).length by omega),aA,aA]
    refine h _ ⟨by omega,by show _=_;omega,?_,?_⟩
    ·rw[Int.toNat_natCast,Int.toNat_natCast,yT,yT]
     exact(Xa p1).trans a
    ·rw[Int.toNat_natCast,Int.toNat_natCast,yT,yT,show i+1-(t+1)=j by omega]
     exact d.swap c p1
   ·rw[aD (by rw[aB];exact c)]
    exact out _ a (d.srt (.inr c))
  ·rintro⟨x,M'⟩ r ⟨s,rfl,a,d⟩
   dsimp only at a d ⊢
   rw[aD (by simp only[aB];omega)]
   exact out _ a (d.srt (.inl Oz))
 ·rintro⟨x,M⟩ g ⟨rfl,b,f⟩
  dsimp only at b f ⊢
  have u:=b.length_eq
  rw[aD (by simp only[aB];omega)]
  unfold cpZ
  rw[aF ⟨by omega,by omega⟩,aA]
  refine⟨_,rfl,fun x=>?_,(zgW (by rw[show M.length=l.length-1+1 by omega];exact f) (aO _)).1⟩
  rw[zcZ (aO _),aY]
  exact b.mem_iff
theorem errZ_ok{w of:List Int}(h0:0<w.length)(h4:w.length≤4)(b:∀x∈w,0≤x∧x<(of.length:Int))(e:Int):∃c,zeS w of e=some ([],c,e)∧(∀y,y∈c↔∃x∈w,y=of.getD x.toNat 0)∧c.Pairwise (·<·):=by
 unfold zeS
 refine zk w.length (fun i (x:Int×List Int)=>x=((i:Int),(w.take i).map fun x=>of.getD x.toNat 0)) (fun o=>∃c:List Int,o=some ([],c,e)∧(∀y,y∈c↔∃x∈w,y=of.getD x.toNat 0)∧c.Pairwise (·<·)) Oz rfl ?_ ?_
 ·rintro i x g hi rfl hg
  obtain⟨g0,g1⟩:=b _ (aK hi)
  obtain⟨j,hj⟩:=Int.eq_ofNat_of_zero_le g0
  dsimp only
  rw[aF (zM hi),zt hi,aA,hj,xo (e:=0) (show j<of.length by omega),aA,yF (by simp;omega),aA,zp Oz,aA]
  refine hg _ ?_
  rw[yz hi,List.map_append,List.map_cons,hj]
  rfl
 ·rintro x g rfl
  dsimp only
  rw[aD Y8,aY]
  obtain⟨c,a,hc,hp⟩:=srtZ_ok (l:=w.map fun x=>of.getD x.toNat 0) (by simp;omega) (by simp;omega) e
  refine⟨c,a,fun y=>?_,hp⟩
  rw[hc,List.mem_map]
  constructor
  ·rintro⟨x,hx,rfl⟩;exact⟨x,hx,rfl⟩
  ·rintro⟨x,hx,rfl⟩;exact⟨x,hx,rfl⟩
def plL(n:Nat)(R:List Int)(T:List Q2)(x y:List Rat):List Pl:=(List.range n).map fun i=>(T.getD i (0,0),fx x i-fx x (R.getD i 0).toNat,fx y i-fx y (R.getD i 0).toNat)
theorem plcZ_ok{n K:Nat}(l:Kd K){P:List Pc}{R:List Int}{T:List Q2}{x y:List Rat}(hn:n≤4)(m:P.length=n)(hp:∀p∈P,PcOK p)(j:R.length=n)(k:∀i (hi:i<n),0≤R[i]∧R[i]<n)(hT:T.length=n)(q:∀t∈T,V2 K 1 t)(hx:x.length=n)(hy:y.length=n)
 (f:∀v,v<n→QV (K*4) 180 (fx x v)) (h:∀v,v<n→QV (K*4) 180 (fx y v)):plcZ P R T x y=some (if vm P R (plL n R T x y)=true then([],[],13)else(plL n R T x y,[],0)):=by
 have s:=l.s1 (c:=4) (B:=180) Uz
 unfold plcZ
 refine zk n (fun i (z:Int×List Pl)=>z=((i:Int),plL i R T x y)) (fun o=>o=_) Oz rfl ?_ ?_
 ·rintro i z g hi rfl hg
  have b:i<R.length:=by omega
  obtain⟨r0,r1⟩:=k i hi
  obtain⟨r,d⟩:=Int.eq_ofNat_of_zero_le r0
  have a:r<n:=by omega
  dsimp only
  rw[aF (by rw[j];exact zM hi),zt b,aA,d,xo (e:=(0,0)) (show i<T.length by omega),aA,X2 (show i<x.length by omega),aA,X2 (show r<x.length by omega),aA,X2 (show i<y.length by omega),aA,X2 (show r<y.length by omega),aA,
   vv ((f i hi).sm s) ((f r a).sm s),aA,vv ((h i hi).sm s) ((h r a).sm s),aA,yF (by simp[plL];omega),aA,zp Oz,aA]
  refine hg _ ?_
  have e:R.getD i 0=(r:Int):=by rw[zD b];exact d
  rw[plL,plL,Xh,e]
  rfl
 ·rintro z g rfl
  dsimp only
  have u:(plL n R T x y).length=n:=by simp[plL]
  have w:∀v∈plL n R T x y,PlOK K v:=fun v hv=>by
   obtain⟨i,hi,rfl⟩:=List.mem_map.mp hv
   have hi:=dT.mp hi
   have b:i<R.length:=by omega
   obtain⟨r0,r1⟩:=k i hi
   have e:R.getD i 0=R[i]:=zD b
   have a:(R.getD i 0).toNat<n:=by rw[e];omega
   refine⟨?_,(f i hi).sub (f _ a),(h i hi).sub (h _ a)⟩
   show V2 K 1 (T.getD i (0,0))
   rw[zD (show i<T.length by omega)]
   exact q _ (aK _)
  rw[aD (by rw[j];simp),zcW l hn m u j k hp w,aA]
  cases vm P R (plL n R T x y)<;>rfl
end Go.Proofs.YtocnbjjmmgolfaaGreat
