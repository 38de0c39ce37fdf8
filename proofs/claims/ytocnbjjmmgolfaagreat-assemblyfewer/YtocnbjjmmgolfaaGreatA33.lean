/- zJ law: Solve. -/
import Derived.Test.YtocnbjjmmgolfaaGreatA32
set_option linter.unusedSimpArgs false
set_option linter.unusedVariables false
set_option linter.unusedSectionVars false
namespace Go.Proofs.YtocnbjjmmgolfaaGreat
open Go Go.M Go.Proofs.C14
theorem nan_ok(x:Int):Jn x=some false:=by unfold Jn;simp
theorem zcJ{l:List Int}{x:Int}:∀{p:Nat},p≤l.length→(x∈vM l p↔x∈l.take p)
 |0,_=>by rw[vM,List.take_zero]
 |p+1,h=>by
  have a:=zcJ (l:=l) (x:=x) (p:=p) Oz
  have b:l.take (p+1)=l.take p++[l.getD p 0]:=jP Oz
  rw[vM,b,aU,aX,←a]
  by_cases h0:p=0
  ·subst h0
   rw[aG rfl,aX,vM]
   simp
  rw[aE h0]
  by_cases c:l.getD p 0=l.getD (p-1) 0
  ·rw[aG c]
   refine⟨.inl,fun q=>q.elim id fun e=>?_⟩
   rw[a,e,c,show l.getD (p-1) 0=l[p-1]from zO Oz]
   rw[List.mem_take_iff_getElem]
   exact⟨p-1,by omega,rfl⟩
  ·rw[aE c,aU,aX]
theorem zgH{l:List Int}(hs:Srt l l.length):∀{p:Nat},p≤l.length→(vM l p).Pairwise (·<·)∧∀x∈vM l p,x≤l.getD (p-1) 0
 |0,_=>by rw[vM];exact⟨.nil,fun x hx=>(by cases hx)⟩
 |p+1,h=>by
  obtain⟨h1,h2⟩:=zgH hs (p:=p) Oz
  rw[vM,Nat.add_sub_cancel]
  by_cases h0:p=0
  ·subst h0
   rw[aG rfl]
   exact⟨List.pairwise_singleton _ _,fun x hx=>by rw[aX.mp hx];omega⟩
  rw[aE h0]
  by_cases c:l.getD p 0=l.getD (p-1) 0
  ·rw[aG c]
   exact⟨h1,fun x hx=>by rw[c];exact h2 x hx⟩
  ·rw[aE c]
   have le:=hs (p-1) p Oz Oz
   refine⟨List.pairwise_append.mpr ⟨h1,List.pairwise_singleton _ _,fun x hx y a=>?_⟩,fun x hx=>?_⟩
   ·rw[aX.mp a]
    have:=h2 x hx
    omega
   ·rcases aU.mp hx with hx|hx
    ·have:=h2 x hx;omega
    ·rw[aX.mp hx];omega
theorem srtZ_ok{l:List Int}(h0:0<l.length)(h12:l.length≤11)(e:Int):∃c,srtZ l e=some ([],c,e)∧(∀x,x∈c↔x∈l)∧c.Pairwise (·<·):=by
 have n:(l.length:Int) % 18446744073709551616=(l.length:Int):=by omega
 unfold srtZ
 rw[n,aG ⟨by omega,by omega⟩,show((l.length:Int)-0)=(l.length:Int)by omega,xf Oz,aA,aG (aH Oz)]
 refine zk (l.length-1) (fun i (x:Int×List Int)=>x.1=((i+1:Nat):Int)∧x.2.Perm l∧Srt x.2 (i+1)) (fun o=>∃c:List Int,o=some ([],c,e)∧(∀x,x∈c↔x∈l)∧c.Pairwise (·<·)) Oz ⟨rfl,List.Perm.refl _,fun p q h1 h2=>by omega⟩ ?_ ?_
 ·rintro i ⟨x,M⟩ g hi ⟨rfl,b,f⟩ hg
  dsimp only at b f ⊢
  rw[aG (aH (show((i+1:Nat):Int)<(l.length:Int)by omega))]
  have out:∀M:List Int,M.Perm l→Srt M (i+1+1)→∃c,((i64 (((i+1:Nat):Int)+1)).bind fun k=>g (k,M))=some ([],c,e)∧(∀x,x∈c↔x∈l)∧c.Pairwise (·<·):=fun M b f=>by
   rw[zp (show i+1<100000 by omega),aA]
   exact hg _ ⟨rfl,b,f⟩
  refine zk (i+1) (fun t (x:Int×List Int)=>t≤i+1∧x.1=((i+1-t:Nat):Int)∧x.2.Perm l∧But x.2 (i+1) (i+1-t)) (fun o=>∃c:List Int,o=some ([],c,e)∧(∀x,x∈c↔x∈l)∧c.Pairwise (·<·)) Oz ⟨by omega,rfl,b,f.but⟩ ?_ ?_
  ·rintro t ⟨x,M'⟩ r ht ⟨s,rfl,a,d⟩ h
   dsimp only at a d ⊢
   have u:=a.length_eq
   obtain⟨j,hj⟩:∃j,i+1-t=j+1:=⟨i-t,by omega⟩
   rw[hj]at d ⊢
   have p1:j+1<M'.length:=by omega
   have m:(((j+1:Nat):Int)-1)=(j:Int):=by omega
   rw[aG (aH Oz)]
   simp only[xw (e:=0) p1,aA,m,xf (show((j:Int)).natAbs<_ by omega),xw (e:=0) (show j<M'.length by omega),nan_ok,aW,cK]
   by_cases c:M'.getD (j+1) 0<M'.getD j 0
   ·rw[aG (aH c)]
    have ls:(zD M' (Int.toNat ((j+1:Nat):Int)) (M'.getD j 0)).length=M'.length:=yw ..
    rw[xw (e:=0) (show j<(zD M' (Int.toNat ((j+1:Nat):Int)) (M'.getD j 0)).length by omega),aA,aA]
    refine h _ ⟨by omega,by show _=_;omega,?_,?_⟩
    ·rw[Int.toNat_natCast,Int.toNat_natCast,yR,yR]
     exact(YY p1).trans a
    ·rw[Int.toNat_natCast,Int.toNat_natCast,yR,yR,show i+1-(t+1)=j by omega]
     exact d.swap c p1
   ·rw[aE (by rw[aB];exact c)]
    exact out _ a (d.srt (.inr c))
  ·rintro⟨x,M'⟩ r ⟨s,rfl,a,d⟩
   dsimp only at a d ⊢
   rw[aE (by simp only[aB];omega)]
   exact out _ a (d.srt (.inl Oz))
 ·rintro⟨x,M⟩ g ⟨rfl,b,f⟩
  dsimp only at b f ⊢
  have u:=b.length_eq
  rw[aE (by simp only[aB];omega)]
  unfold cpZ
  rw[aG ⟨by omega,by omega⟩,aA]
  refine⟨_,rfl,fun x=>?_,(zgH (by rw[show M.length=l.length-1+1 by omega];exact f) (aM _)).1⟩
  rw[zcJ (aM _),bB]
  exact b.mem_iff
theorem errZ_ok{w of:List Int}(h0:0<w.length)(h4:w.length≤4)(b:∀x∈w,0≤x∧x<(of.length:Int))(e:Int):∃c,zeE w of e=some ([],c,e)∧(∀y,y∈c↔∃x∈w,y=of.getD x.toNat 0)∧c.Pairwise (·<·):=by
 unfold zeE
 refine zk w.length (fun i (x:Int×List Int)=>x=((i:Int),(w.take i).map fun x=>of.getD x.toNat 0)) (fun o=>∃c:List Int,o=some ([],c,e)∧(∀y,y∈c↔∃x∈w,y=of.getD x.toNat 0)∧c.Pairwise (·<·)) Oz rfl ?_ ?_
 ·rintro i x g hi rfl hg
  obtain⟨g0,g1⟩:=b _ (aK hi)
  obtain⟨j,hj⟩:=Int.eq_ofNat_of_zero_le g0
  dsimp only
  rw[aG (zN hi),zt hi,aA,hj,xw (e:=0) (show j<of.length by omega),aA,yE (by simp;omega),aA,zp Oz,aA]
  refine hg _ ?_
  rw[yL hi,List.map_append,List.map_cons,hj]
  rfl
 ·rintro x g rfl
  dsimp only
  rw[aE Y8,bB]
  obtain⟨c,a,hc,hp⟩:=srtZ_ok (l:=w.map fun x=>of.getD x.toNat 0) (by simp;omega) (by simp;omega) e
  refine⟨c,a,fun y=>?_,hp⟩
  rw[hc,List.mem_map]
  constructor
  ·rintro⟨x,hx,rfl⟩;exact⟨x,hx,rfl⟩
  ·rintro⟨x,hx,rfl⟩;exact⟨x,hx,rfl⟩
def plL(n:Nat)(R:List Int)(T:List Q2)(x y:List Rat):List Pl:=(List.range n).map fun i=>(T.getD i (0,0),fx x i-fx x (R.getD i 0).toNat,fx y i-fx y (R.getD i 0).toNat)
theorem plcZ_ok{n K:Nat}(l:Kd K){P:List Pc}{R:List Int}{T:List Q2}{x y:List Rat}(hn:n≤4)(m:P.length=n)(hp:∀p∈P,PcOK p)(j:R.length=n)(k:∀i (hi:i<n),0≤R[i]∧R[i]<n)(hT:T.length=n)(q:∀t∈T,V2 K 1 t)(hx:x.length=n)(hy:y.length=n)
 (f:∀v,v<n→QV (K*4) 180 (fx x v)) (h:∀v,v<n→QV (K*4) 180 (fx y v)):plcZ P R T x y=some (if vL P R (plL n R T x y)=true then([],[],13)else(plL n R T x y,[],0)):=by
 have s:=l.s1 (c:=4) (B:=180) Uz
 unfold plcZ
 refine zk n (fun i (z:Int×List Pl)=>z=((i:Int),plL i R T x y)) (fun o=>o=_) Oz rfl ?_ ?_
 ·rintro i z g hi rfl hg
  have b:i<R.length:=by omega
  obtain⟨r0,r1⟩:=k i hi
  obtain⟨r,d⟩:=Int.eq_ofNat_of_zero_le r0
  have a:r<n:=by omega
  dsimp only
  rw[aG (by rw[j];exact zN hi),zt b,aA,d,xw (e:=(0,0)) (show i<T.length by omega),aA,XT (show i<x.length by omega),aA,XT (show r<x.length by omega),aA,XT (show i<y.length by omega),aA,XT (show r<y.length by omega),aA,
   vr ((f i hi).sm s) ((f r a).sm s),aA,vr ((h i hi).sm s) ((h r a).sm s),aA,yE (by simp[plL];omega),aA,zp Oz,aA]
  refine hg _ ?_
  have e:R.getD i 0=(r:Int):=by rw[zO b];exact d
  rw[plL,plL,Xa,e]
  rfl
 ·rintro z g rfl
  dsimp only
  have u:(plL n R T x y).length=n:=by simp[plL]
  have w:∀v∈plL n R T x y,PlOK K v:=fun v hv=>by
   obtain⟨i,hi,rfl⟩:=List.mem_map.mp hv
   have hi:=eW.mp hi
   have b:i<R.length:=by omega
   obtain⟨r0,r1⟩:=k i hi
   have e:R.getD i 0=R[i]:=zO b
   have a:(R.getD i 0).toNat<n:=by rw[e];omega
   refine⟨?_,(f i hi).sub (f _ a),(h i hi).sub (h _ a)⟩
   show V2 K 1 (T.getD i (0,0))
   rw[zO (show i<T.length by omega)]
   exact q _ (aK _)
  rw[aE (by rw[j];simp),zcG l hn m u j k hp w,aA]
  cases vL P R (plL n R T x y)<;>rfl
def CycF(L:List Bd)(n:Nat)(of c:List Int):Prop:=∃w,Cyc L n w∧(∀y,y∈c↔∃x∈w,y=of.getD x.toNat 0)∧c.Pairwise (·<·)
inductive SolR(P:List Pc)(F:List Fq)(K:Nat)(o:Option (List Pl×List Int×Int)):Prop
 |arg:okB P F=false→o=some ([],[],1)→SolR P F K o
 |turn (k:Nat) (r:List Nat):okB P F=true→first (eds F) (trn F) F.length=some (k,r)→o=some ([],(nts r).foldl KX [(k:Int)],14)→SolR P F K o
 |xs (c:List Int):okB P F=true→first (eds F) (trn F) F.length=none→(¬ ∃y,SolX P (qw P.length F) F y)→CycF (YQ P (qw P.length F) F) P.length (jG F F.length) c→o=some ([],c,14)→SolR P F K o
 |ys (c:List Int):okB P F=true→first (eds F) (trn F) F.length=none→(¬ ∃y,SolY P (qw P.length F) F y)→CycF (XA P (qw P.length F) F) P.length (jG F F.length) c→o=some ([],c,14)→SolR P F K o
 |ok (x y:List Rat):okB P F=true→first (eds F) (trn F) F.length=none→Gst (YQ P (qw P.length F) F) P.length (K*4) x→Gst (XA P (qw P.length F) F) P.length (K*4) y→o=some (if vL P (kg P.length F) (plL P.length (kg P.length F) (qw P.length F) x y)=true then([],[],13)else(plL P.length (kg P.length F) (qw P.length F) x y,[],0))→SolR P F K o
theorem zem{L:List Bd}:∀{w:List Int} {a v:Nat} {s:Rat},IW L a w v s→∀x∈w,0≤x∧x<(L.length:Int)
 | [],_,_,_,_,x,hx=>nomatch hx
 |y::w,a,v,s,⟨i,e,hl,_,_,_,h⟩,x,hx=>by
  rcases aN.mp hx with rfl|hx
  ·omega
  ·exact zem h x hx
theorem len_O{P:List Pc}{T:List Q2}{F:List Fq}:(jG F F.length).length=(YQ P T F).length∧(jG F F.length).length=(XA P T F).length:=by
 have key:∀i,i≤F.length→(jG F i).length=((F.take i).flatMap (bdX P T)).length∧(jG F i).length=((F.take i).flatMap (bdY P T)).length:=by
  intro i
  induction i with
  |zero=>intro _;exact⟨rfl,rfl⟩
  |succ i a=>
   intro hi
   obtain⟨h1,h2⟩:=a Oz
   have hi:i<F.length:=by omega
   have e1:(bdX P T F[i]).length=2*(many F[i]+1):=ZC _
   have e2:(bdY P T F[i]).length=2*(many F[i]+1):=ZC _
   rw[zdK,aO,dC,yL hi,List.flatMap_append,List.flatMap_append,aO,aO,zO hi]
   simp only[List.flatMap_cons,List.flatMap_nil,bL]
   omega
 have:=key F.length (aM _)
 rw[bB]at this
 exact this
theorem Yj{P:List Pc}{F:List Fq}{K:Nat}(h:CaseOK P F K):SolR P F K (z26 P F):=by
 have e1:=ZG h.fl h.tu rfl h.n.2 h.pc
 cases a:okB P F with
 |false=>
  refine .arg a ?_
  unfold okB at a
  rw[a,aE Y8]at e1
  unfold z26
  rw[e1,aA,aG Y8]
 |true=>
  have e:=a
  unfold okB at e
  rw[e,aG rfl]at e1
  have b:=z11_eq h a
  cases hf:first (eds F) (trn F) F.length with
  |some x=>
   obtain⟨k,r⟩:=x
   refine .turn k r a hf ?_
   rw[QT hf]at b
   unfold z26
   rw[e1,aA,aE Y8,aE (by simp only[aB];have:=h.n.1;omega),b,aA,aG Y8]
  |none=>
   rw[VX hf]at b
   have A:(qw P.length F).length=P.length:=by simp[qw]
   have B:∀t∈qw P.length F,V2 K 1 t:=fun t H=>by
    obtain⟨i,_,rfl⟩:=List.mem_map.mp H
    exact zfI h i
   obtain⟨q,E,G⟩:=Jf h.k rfl h.pc A B h.fl (ok_f a)
   have C:∀{c:List Int} {L:List Bd},Cyc L P.length c→L.length=(jG F F.length).length→∃c',zeE c (jG F F.length) 14=some ([],c',14)∧CycF L P.length (jG F F.length) c':=fun{c L} hc hl=>by
    obtain⟨⟨c0,c1⟩,v,s,j,hs⟩:=hc
    obtain⟨c',l,z⟩:=errZ_ok (of:=jG F F.length) c0 (by have:=h.n.2;omega) (fun x hx=>by rw[←hl];exact zem j x hx) 14
    exact⟨c',l,c,⟨⟨c0,c1⟩,v,s,j,hs⟩,z⟩
   obtain⟨lX,lY⟩:=len_O (P:=P) (T:=qw P.length F) (F:=F)
   have pre:∀o,((z77 (P.length:Int) (YQ P (qw P.length F) F)).bind fun p=>(if (decide (p.2.2≠0))=true then(zeE p.2.1 (jG F F.length) p.2.2)else((z77 (P.length:Int) (XA P (qw P.length F) F)).bind fun d=>(if (decide (d.2.2≠0))=true then(zeE d.2.1 (jG F F.length) d.2.2)else((z17 (P.length:Int) F).bind fun m=>(plcZ P m (qw P.length F) p.1 d.1))))))=o→z26 P F=o:=by
    rintro o rfl
    unfold z26
    rw[e1,aA,aE Y8,aE (by simp only[aB];have:=h.n.1;omega),b,aA,aE Y8]
    show((z68 P F (qw P.length F)).bind _)=_
    rw[q]
    rfl
   rcases zgP h.k h.n E with⟨x,ex,hx⟩|⟨f,w,u,j⟩
   ·rcases zgP h.k h.n G with⟨y,D,g⟩|⟨f,w,u,j⟩
    ·refine .ok x y a hf hx g (pre _ ?_)
     have ro:=zdN a
     have I:=ro.len
     rw[ex,aA,aE Y8,D,aA,aE Y8,z17_eq h a,aA]
     refine plcZ_ok h.k h.n.2 rfl h.pc I (fun i hi=>?_) A B hx.len g.len hx.num g.num
     have:=ro.le i hi
     rw[zO (show i<(kg P.length F).length by omega)]at this
     exact⟨this.1,by omega⟩
    ·obtain⟨c,l,hc⟩:=C j Oz
     refine .ys c a hf (fun⟨y,g⟩=>f ⟨y,sat_Y.mpr g⟩) hc (pre _ ?_)
     rw[ex,aA,aE Y8,u,aA,aG Y8]
     exact l
   ·obtain⟨c,l,hc⟩:=C j Oz
    refine .xs c a hf (fun⟨y,g⟩=>f ⟨y,sat_X.mpr g⟩) hc (pre _ ?_)
    rw[u,aA,aG Y8]
    exact l
def AgF(F:List Fq)(τ:Int→Q2):Prop:=(∀v,Un (τ v))∧∀f∈F,τ f.2.1=aft (τ f.1) f.2.2.2.2.2.1
def UnF(F:List Fq):Prop:=∀f∈F,Un f.2.2.2.2.2.1
theorem jg{F:List Fq}{k:Nat}(hk:k<F.length):eds F k=(F[k].1,F[k].2.1)∧trn F k=F[k].2.2.2.2.2.1:=by
 unfold eds trn
 rw[zO hk]
 exact⟨rfl,rfl⟩
theorem agf_iff{F:List Fq}{τ:Int→Q2}:AgF F τ↔Agr (eds F) (trn F) F.length τ:=by
 constructor
 ·rintro⟨h1,h2⟩
  refine⟨h1,fun k hk=>?_⟩
  obtain⟨e1,e2⟩:=jg hk
  rw[e1,e2]
  exact h2 _ (aK hk)
 ·rintro⟨h1,h2⟩
  refine⟨h1,fun f hf=>?_⟩
  obtain⟨k,hk,rfl⟩:=List.getElem_of_mem hf
  obtain⟨e1,e2⟩:=jg hk
  have:=h2 k hk
  rw[e1,e2]at this
  exact this
theorem un_at{F:List Fq}(hU:UnF F):∀k,k<F.length→Un (trn F k):=fun k hk=>by
 rw[(jg hk).2]
 exact hU _ (aK hk)
theorem Xi{F:List Fq}(hU:UnF F):first (eds F) (trn F) F.length=none↔∃τ,AgF F τ:=by
 constructor
 ·intro h
  obtain⟨τ,hτ⟩:=WV (un_at hU) h
  exact⟨τ,agf_iff.mpr hτ⟩
 ·rintro⟨τ,hτ⟩
  exact Ji (un_at hU) (agf_iff.mp hτ)
theorem AgF.sub{F F':List Fq}{τ:Int→Q2}(h:AgF F τ)(hs:∀f∈F',f∈F):AgF F' τ:=⟨h.1,fun f hf=>h.2 f (hs f hf)⟩
theorem UnF.sub{F F':List Fq}(h:UnF F)(hs:∀f∈F',f∈F):UnF F':=fun f hf=>h f (hs f hf)
theorem CaseOK.un{P:List Pc}{F:List Fq}{K:Nat}(h:CaseOK P F K):UnF F:=fun f hf=>(h.ft f hf).tn.one
section
variable{n:Nat}{F F':List Fq}{τ:Int→Q2}(hU:UnF F)(hA:AgF F τ)(hE:∀f∈F,0≤f.1∧f.1<f.2.1∧f.2.1<(n:Int))
include hE in
theorem zfQ:RootsOf (eds F) n (yD (eds F) F.length) (kg n F):=vu fun k hk=>by
 rw[(jg hk).1];exact hE _ (aK hk)
include hU hA hE in
theorem Yd{i:Nat}(hi:i<n):xB n F i=aft (bck (τ ((kg n F).getD i 0))) (τ i):=by
 have ro:=zfQ hE
 have b:=zbr (xQ _) ro hi
 unfold xB
 obtain⟨r,a⟩:=Option.isSome_iff_exists.mp b
 rw[a]
 exact Xz (un_at hU) (agf_iff.mp hA) (fun k hk=>qN _ k hk) a
include hE in
theorem root_fit{f:Fq}(hf:f∈F):(kg n F).getD f.1.toNat 0=(kg n F).getD f.2.1.toNat 0:=by
 have ro:=zfQ hE
 obtain⟨a0,ab,bn⟩:=hE f hf
 obtain⟨k,hk,rfl⟩:=List.getElem_of_mem hf
 refine(ro.same _ _ Oz Oz).mp ?_
 have:=Ye (e:=eds F) hk
 rw[(jg hk).1]at this
 rw[show((F[k].1.toNat:Nat):Int)=F[k].1 by omega,show((F[k].2.1.toNat:Nat):Int)=F[k].2.1 by omega]
 exact this
include hU hA hE in
theorem zaV{f:Fq}(hf:f∈F):xB n F f.2.1.toNat=aft (xB n F f.1.toNat) f.2.2.2.2.2.1:=by
 obtain⟨a0,ab,bn⟩:=hE f hf
 rw[Yd hU hA hE (i:=f.2.1.toNat) Oz,Yd hU hA hE (i:=f.1.toNat) Oz,←root_fit hE hf,show((f.1.toNat:Nat):Int)=f.1 by omega,show((f.2.1.toNat:Nat):Int)=f.2.1 by omega,xA,hA.2 f hf]
include hE in
theorem zbn(hs:∀f,f∈F↔f∈F'):kg n F=kg n F':=by
 have b:∀f∈F',0≤f.1∧f.1<f.2.1∧f.2.1<(n:Int):=fun f hf=>hE f ((hs f).mpr hf)
 have key:∀{A B:List Fq},(∀f∈A,f∈B)→∀k,k<A.length→∃k',k'<B.length∧eds B k'=eds A k:=fun{A B} h k hk=>by
  obtain⟨k',a,e⟩:=List.getElem_of_mem (h _ (aK hk))
  exact⟨k',a,by rw[(jg a).1,(jg hk).1,e]⟩
 refine zdO (fun k hk=>by rw[(jg hk).1];exact hE _ (aK hk)) (fun k hk=>by rw[(jg hk).1];exact b _ (aK hk)) (fun k hk=>?_) (key fun f hf=>(hs f).mp hf)
 obtain⟨k',h1,h2⟩:=key (fun f hf=>(hs f).mpr hf) k hk
 exact⟨k',h1,h2⟩
include hU hA hE in
theorem zaW(hs:∀f,f∈F↔f∈F'):qw n F=qw n F':=by
 unfold qw
 refine List.map_congr_left fun i hi=>?_
 have hi:=eW.mp hi
 rw[Yd hU hA hE hi,Yd (hU.sub fun f hf=>(hs f).mpr hf) (hA.sub fun f hf=>(hs f).mpr hf) (fun f hf=>hE f ((hs f).mpr hf)) hi,zbn hE hs]
end
def gw(P:List Pc)(F:List Fq):Prop:=(∃τ,AgF F τ)∧(∃y,SolX P (qw P.length F) F y)∧∃y,SolY P (qw P.length F) F y
theorem gI{P P':List Pc}{F F':List Fq}(a:P'.length=P.length)(hs:∀f∈F',f∈F)(h:okB P F=true):okB P' F'=true:=by
 unfold okB wY at h ⊢
 rw[aF,List.all_eq_true,List.all_eq_true]at h ⊢
 rw[a]
 exact⟨fun f hf=>h.1 f (hs f hf),fun f hf=>h.2 f (hs f hf)⟩
inductive SolG(P:List Pc)(F:List Fq)(K:Nat)(o:Option (List Pl×List Int×Int)):Prop
 |arg:okB P F=false→o=some ([],[],1)→SolG P F K o
 |bad (c:List Int):okB P F=true→¬gw P F→o=some ([],c,14)→SolG P F K o
 |ok (x y:List Rat):okB P F=true→gw P F→Gst (YQ P (qw P.length F) F) P.length (K*4) x→Gst (XA P (qw P.length F) F) P.length (K*4) y→o=some (if vL P (kg P.length F) (plL P.length (kg P.length F) (qw P.length F) x y)=true then([],[],13)else(plL P.length (kg P.length F) (qw P.length F) x y,[],0))→SolG P F K o
theorem k7{P:List Pc}{F:List Fq}{K:Nat}(h:CaseOK P F K):SolG P F K (z26 P F):=by
 have e:=Xi h.un
 cases Yj h with
 |arg h1 h2=>exact .arg h1 h2
 |turn k r h1 h2 a=>exact .bad _ h1 (fun g=>by rw[e.mpr g.1]at h2;cases h2) a
 |xs c h1 h2 a d b=>exact .bad _ h1 (fun g=>a g.2.1) b
 |ys c h1 h2 a d b=>exact .bad _ h1 (fun g=>a g.2.2) b
 |ok x y h1 h2 a d b=>exact .ok x y h1 ⟨e.mp h2,⟨_,sat_X.mp a.sat⟩,⟨_,sat_Y.mp d.sat⟩⟩ a d b
section
variable{P:List Pc}{F F':List Fq}{K K':Nat}(h:CaseOK P F K)(h':CaseOK P F' K')
include h in
theorem WS(ok:okB P F=true)(hs:∀f,f∈F↔f∈F')(g:gw P F):gw P F':=by
 obtain⟨⟨τ,hτ⟩,⟨x,hx⟩,⟨y,a⟩⟩:=g
 have e:=zaW h.un hτ (JR ok) hs
 refine⟨⟨τ,hτ.sub fun f hf=>(hs f).mpr hf⟩,⟨x,?_⟩,⟨y,?_⟩⟩
 ·rw[←e];exact hx.sub fun f hf=>(hs f).mpr hf
 ·rw[←e];exact a.sub fun f hf=>(hs f).mpr hf
include h in
theorem plL_pl{R:List Int}{tr:List Nat}(d:RootsOf (eds F) P.length tr R){x y:List Rat}(b:∀v,v<P.length→QV (K*4) 180 (fx x v))(c:∀v,v<P.length→QV (K*4) 180 (fx y v)):∀v∈plL P.length R (qw P.length F) x y,PlOK K v:=by
 intro v hv
 obtain⟨i,hi,rfl⟩:=List.mem_map.mp hv
 have hi:=eW.mp hi
 have hr:=d.le i hi
 have a:(R.getD i 0).toNat<P.length:=by omega
 refine⟨?_,(b i hi).sub (b _ a),(c i hi).sub (c _ a)⟩
 show V2 K 1 ((qw P.length F).getD i (0,0))
 rw[zO (show i<(qw P.length F).length by simp[qw];omega)]
 unfold qw
 rw[List.getElem_map]
 exact zfI h _
include h h' in
theorem zdJ(hs:∀f,f∈F↔f∈F'):∃A e c c',z26 P F=some (A,c,e)∧z26 P F'=some (A,c',e)∧(∀v∈A,PlOK K v)∧A.length≤6:=by
 have s1:∀f∈F',f∈F:=fun f hf=>(hs f).mpr hf
 have s2:∀f∈F,f∈F':=fun f hf=>(hs f).mp hf
 have o:∀f,f∈F'↔f∈F:=fun f=>(hs f).symm
 cases k7 h with
 |arg d j=>
  cases k7 h' with
  |arg a g=>exact⟨_,_,_,_,j,g,by simp,by simp⟩
  |bad c a=>rw[gI rfl s2 a]at d;cases d
  |ok x y a=>rw[gI rfl s2 a]at d;cases d
 |bad c d j m=>
  cases k7 h' with
  |arg a g=>rw[gI rfl s1 d]at a;cases a
  |bad c' a g l=>exact⟨_,_,_,_,m,l,by simp,by simp⟩
  |ok x y a g=>exact absurd (WS h' a o g) j
 |ok x y d j m p k=>
  cases k7 h' with
  |arg a g=>rw[gI rfl s1 d]at a;cases a
  |bad c' a g l=>exact absurd (WS h d hs j) g
  |ok x' u a g l r i=>
   obtain⟨⟨τ,hτ⟩,-⟩:=j
   have t:=zaW h.un hτ (JR d) hs
   have s:=zbn (JR d) hs
   rw[←t]at l r i
   rw[←s]at i
   obtain rfl:x=x':=m.same l fun z=>⟨fun q=>sat_X.mpr ((sat_X.mp q).sub s1),fun q=>sat_X.mpr ((sat_X.mp q).sub s2)⟩
   obtain rfl:y=u:=p.same r fun z=>⟨fun q=>sat_Y.mpr ((sat_Y.mp q).sub s1),fun q=>sat_Y.mpr ((sat_Y.mp q).sub s2)⟩
   generalize vL P (kg P.length F) (plL P.length (kg P.length F) (qw P.length F) x y)=b at k i
   cases b
   ·rw[aE Y8]at k i
    exact⟨_,_,_,_,k,i,plL_pl h (zdN d) m.num p.num,by have:=h.n.2;simp[plL];omega⟩
   ·rw[aG rfl]at k i
    exact⟨_,_,_,_,k,i,by simp,by simp⟩
end
structure Loose(P P':List Pc):Prop where
 len:P'.length=P.length
 rim:∀i,(P'.getD i default).2.2.1=(P.getD i default).2.2.1
 tol:∀i,(P.getD i default).2.2.2.2.2.1≤(P'.getD i default).2.2.2.2.2.1
section
variable{P P':List Pc}{F:List Fq}{K:Nat}
theorem Loose.good(l:Loose P P')(g:gw P F):gw P' F:=by
 obtain⟨t,⟨x,hx⟩,y,b⟩:=g
 have hd:∀f∈F,∀k,dif P' (qw P.length F) f k=dif P (qw P.length F) f k:=fun f _ k=>by
  unfold dif cor VJ
  rw[l.rim,l.rim]
 have a:∀f∈F,vG P f≤vG P' f:=fun f _=>by
  have h1:=l.tol f.1.toNat
  have h2:=l.tol f.2.1.toNat
  unfold vG VJ
  grind
 unfold gw
 rw[l.len]
 exact⟨t,⟨x,hx.loose hd a⟩,y,b.loose hd a⟩
theorem zbf(h:CaseOK P F K)(n:CaseOK P' F K)(l:Loose P P'){A:List Pl}{c:List Int}{e:Int}(o:z26 P F=some (A,c,e))(he:e≠14):∃j c' i,z26 P' F=some (j,c',i)∧i≠14:=by
 have fin:∀{b:Bool} {L:List Pl},∃j c' i,(some (if b=true then(([]:List Pl),([]:List Int),(13:Int))else(L,[],0)))=some (j,c',i)∧i≠14:=fun{b L}=>by
  cases b
  ·exact⟨_,_,_,rfl,by decide⟩
  ·exact⟨_,_,_,rfl,by decide⟩
 cases k7 h with
 |arg d k=>
  cases k7 n with
  |arg a g=>exact⟨_,_,_,g,by decide⟩
  |bad c a=>rw[gI l.len.symm (fun f hf=>hf) a]at d;cases d
  |ok x y a=>rw[gI l.len.symm (fun f hf=>hf) a]at d;cases d
 |bad c d k m=>
  rw[m]at o
  cases o
  exact absurd rfl he
 |ok x y d k m a4 a5=>
  cases k7 n with
  |arg a g=>exact⟨_,_,_,g,by decide⟩
  |bad c' a g p=>exact absurd (l.good k) g
  |ok x' y' a g p b4 q=>
   rw[q]
   exact fin
end
def Qv(t:Q2):Prop:=Un t∧(t.1=0∨t.2=0)
theorem sq_one{x:Rat}(h:x*x=1):x=1∨x = -1:=by
 have:(x-1)*(x+1)=0:=by grind
 rcases Rat.mul_eq_zero.mp this with g|g
 ·left;grind
 ·right;grind
theorem Qv.qu{t:Q2}(h:Qv t):Qu t:=by
 obtain⟨x,y⟩:=t
 obtain⟨h1,h2⟩:=h
 unfold Un at h1
 unfold Qu
 dsimp only at h1 h2
 rcases h2 with rfl|rfl
 ·rcases sq_one (x:=y) (by grind)with rfl|rfl
  ·exact .inr (.inr (.inl rfl))
  ·exact .inr (.inr (.inr rfl))
 ·rcases sq_one (x:=x) (by grind)with rfl|rfl
  ·exact .inl rfl
  ·exact .inr (.inl rfl)
theorem Qv.aft{a b:Q2}(h:Qv a)(g:Qv b):Qv (aft a b):=by
 refine⟨h.1.aft g.1,?_⟩
 have h2:=h.2
 have g2:=g.2
 unfold Go.Proofs.C14.aft
 dsimp only
 rcases h2 with h2|h2<;>rcases g2 with g2|g2<;>rw[h2,g2]
 ·right;grind
 ·left;grind
 ·left;grind
 ·right;grind
theorem Qv.bck{a:Q2}(h:Qv a):Qv (bck a):=by
 refine⟨h.1.bck,?_⟩
 unfold Go.Proofs.C14.bck
 dsimp only
 rcases h.2 with h2|h2<;>rw[h2]
 ·exact .inl rfl
 ·exact .inr Rat.neg_zero
theorem zbA:Qv z7:=⟨Yc,.inr rfl⟩
theorem zdd{e:Nat→Int×Int}{T:Nat→Q2}:∀{r:List Nat} {v:Int} {t:Q2},(∀k∈r,Qv (T k))→Qv t→Qv (xZ e T r v t)
 | [],_,_,_,h=>h
 |k::r,v,t,a,h=>by
  rw[xZ]
  refine zdd (fun j hj=>a j (aP _ hj)) (h.aft ?_)
  have hk:=a k (aS ..)
  split
  ·exact hk
  ·exact hk.bck
section
variable{P:List Pc}{F F':List Fq}{K K':Nat}(hq:∀f∈F,Qv f.2.2.2.2.2.1)
include hq
theorem zfJ(n i:Nat):Qv (xB n F i):=by
 unfold xB
 cases b:way (eds F) (yD (eds F) F.length) ((kg n F).getD i 0) i with
 |none=>exact zbA
 |some r=>
  refine zdd (fun k hk=>?_) zbA
  have a:=qN _ k ((YU (xQ _) b).2 k hk)
  rw[(jg a).2]
  exact hq _ (aK a)
theorem zev(ok:okB P F=true)(hs:∀f∈F',f∈F)(g:gw P F):gw P F':=by
 obtain⟨⟨τ,hτ⟩,⟨x,hx⟩,y,k⟩:=g
 have h:UnF F:=fun f hf=>(hq f hf).1
 have e:=JR ok
 have b:=h.sub hs
 have hτ':=hτ.sub hs
 have a:∀f∈F',0≤f.1∧f.1<f.2.1∧f.2.1<(P.length:Int):=fun f hf=>e f (hs f hf)
 have c:∀f∈F',Qv f.2.2.2.2.2.1:=fun f hf=>hq f (hs f hf)
 have d:∀i,Qv (xB P.length F i):=zfJ hq P.length
 have l:∀i,Qv (xB P.length F' i):=zfJ c P.length
 have at':∀(G:List Fq) (v:Int),0≤v→v<(P.length:Int)→vT (qw P.length G) v=xB P.length G v.toNat:=fun G v h0 h1=>by
  unfold vT
  rw[zO (show v.toNat<(qw P.length G).length by simp[qw];omega)]
  unfold qw
  rw[List.getElem_map,List.getElem_range]
 have j:∀f∈F',(fun v=>aft (xB P.length F' v) (bck (xB P.length F v))) f.1.toNat=(fun v=>aft (xB P.length F' v) (bck (xB P.length F v))) f.2.1.toNat∧vT (qw P.length F') f.1=aft ((fun v=>aft (xB P.length F' v) (bck (xB P.length F v))) f.1.toNat) (vT (qw P.length F) f.1)∧vT (qw P.length F') f.2.1=aft ((fun v=>aft (xB P.length F' v) (bck (xB P.length F v))) f.2.1.toNat) (vT (qw P.length F) f.2.1):=by
  intro f hf
  obtain⟨a0,ab,bn⟩:=a f hf
  have t1:=zaV h hτ e (hs f hf)
  have t2:=zaV b hτ' a hf
  have n:=b f hf
  refine⟨?_,?_,?_⟩
  ·dsimp only
   rw[t1,t2]
   have m:bck (aft (xB P.length F f.1.toNat) f.2.2.2.2.2.1)=aft (bck f.2.2.2.2.2.1) (bck (xB P.length F f.1.toNat)):=by
    unfold bck aft
    refine Prod.ext ?_ ?_<;>dsimp only<;>grind
   rw[m,xA,←xA f.2.2.2.2.2.1,zaE n,Y2]
  ·dsimp only
   rw[at' F' _ Oz Oz,at' F _ Oz Oz,xA,gU (d _).1,jI]
  ·dsimp only
   rw[at' F' _ Oz Oz,at' F _ Oz Oz,xA,gU (d _).1,jI]
 obtain⟨h1,h2⟩:=sol_turn (T':=qw P.length F') (g:=fun v=>aft (xB P.length F' v) (bck (xB P.length F v))) (fun v=>((l v).aft (d v).bck).qu) hx k hs j
 exact⟨⟨τ,hτ'⟩,⟨_,h1⟩,⟨_,h2⟩⟩
theorem zbg(h:CaseOK P F K)(p:CaseOK P F' K')(hs:∀f∈F',f∈F){A:List Pl}{c:List Int}{e:Int}(i:z26 P F=some (A,c,e))(he:e=0∨e=13):∃j c' a,z26 P F'=some (j,c',a)∧a≠14:=by
 have fin:∀{b:Bool} {L:List Pl},∃j c' a,(some (if b=true then(([]:List Pl),([]:List Int),(13:Int))else(L,[],0)))=some (j,c',a)∧a≠14:=fun{b L}=>by
  cases b
  ·exact⟨_,_,_,rfl,by decide⟩
  ·exact⟨_,_,_,rfl,by decide⟩
 cases k7 h with
 |arg k d=>
  rw[d]at i
  cases i
  omega
 |bad c k d l=>
  rw[l]at i
  cases i
  omega
 |ok x y k d l a4 a5=>
  cases k7 p with
  |arg m g=>exact⟨_,_,_,g,by decide⟩
  |bad c' m g n=>exact absurd (zev hq k hs d) g
  |ok x' y' m g n b4 o=>
   rw[o]
   exact fin
end
def PcB(p:Pc):Prop:=PcOK p∧QV 4 1 p.2.2.2.2.2.1
structure BoxOK(P:List Pc)(F:List Fq)(A:List Pl):Prop where
 n:2≤P.length∧P.length≤4
 pc:∀p∈P,PcB p
 fl:0<F.length∧F.length≤4
 ft:∀f∈F,FitOK f∧Tn 1 f.2.2.2.2.2.1
 al:A.length=P.length
 pl:∀v∈A,V2 1 1 v.1∧V2 1 8 v.2
theorem zek:∀{F:List Fq},(∀f∈F,Tn 1 f.2.2.2.2.2.1)→KL F 1
 | [],_=>.nil
 |f::F,h=>by
  obtain⟨d,hd,hx⟩:=(h f (aS ..)).ex
  obtain rfl:d=1:=by have:=hx.1;omega
  exact .cons (K:=1) hx (zek fun g hg=>h g (aP _ hg))
def qtI(p:Int×Int):Int×Int:=(0-p.2,p.1)
def shI(v p:Int×Int):Int×Int:=(p.1+v.1,p.2+v.2)
def Qf:Nat→Int×Int→Int×Int
 |0,p=>p
 |n+1,p=>qtI (Qf n p)
def mvI(n:Nat)(v p:Int×Int):Int×Int:=shI v (Qf n p)
section
variable{a b c d v:Int×Int}
theorem qt_inv:zl (qtI a) (qtI b) (qtI c)=zl a b c∧yJ (xc (qtI a) (qtI c)) (xc (qtI b) (qtI c))=yJ (xc a c) (xc b c)∧kZ (qtI a) (qtI b) (qtI c) (qtI d)=kZ a b c d:=by
 unfold zl kZ yF yJ xc qtI
 refine⟨?_,?_,?_⟩<;>grind
theorem sh_inv:zl (shI v a) (shI v b) (shI v c)=zl a b c∧yJ (xc (shI v a) (shI v c)) (xc (shI v b) (shI v c))=yJ (xc a c) (xc b c)∧kZ (shI v a) (shI v b) (shI v c) (shI v d)=kZ a b c d:=by
 unfold zl kZ yF yJ xc shI
 refine⟨?_,?_,?_⟩<;>grind
end
theorem zbD{f:Int×Int→Int×Int}(h:∀{a b c d:Int×Int},zl (f a) (f b) (f c)=zl a b c∧yJ (xc (f a) (f c)) (xc (f b) (f c))=yJ (xc a c) (xc b c)∧kZ (f a) (f b) (f c) (f d)=kZ a b c d){a b c d:Int×Int}:jt (f a) (f b) (f c) (f d)=jt a b c d:=by
 have hs:∀{a b c:Int×Int},zl (f a) (f b) (f c)=zl a b c:=fun{a b c}=>(@h a b c a).1
 have hd:∀{a b c:Int×Int},yJ (xc (f a) (f c)) (xc (f b) (f c))=yJ (xc a c) (xc b c):=fun{a b c}=>(@h a b c a).2.1
 have ha:kZ (f a) (f b) (f c) (f d)=kZ a b c d:=h.2.2
 rw[←quad_eq,←quad_eq]
 unfold Km vv onI
 rw[ha]
 simp only[hs,hd]
theorem zbC:∀(n:Nat) {a b c d:Int×Int},jt (Qf n a) (Qf n b) (Qf n c) (Qf n d)=jt a b c d
 |0,_,_,_,_=>rfl
 |n+1,a,b,c,d=>(zbD (f:=qtI) qt_inv).trans (zbC n)
theorem quad_mv{n:Nat}{v a b c d:Int×Int}:jt (mvI n v a) (mvI n v b) (mvI n v c) (mvI n v d)=jt a b c d:=(zbD (f:=shI v) sh_inv).trans (zbC n)
theorem JD{N:Nat}:∀(n:Nat) {p:Int×Int},Nr N p→Nr N (Qf n p)
 |0,_,h=>h
 |n+1,p,h=>by
  obtain⟨h1,h2⟩:=JD n h
  exact⟨by show(0-_:Int).natAbs≤N;omega,h1⟩
theorem z34_ok{p:Int×Int}(h:Nr 8 p){k:Nat}(hk:k<4):z34 p (k:Int)=some (Qf k p):=by
 unfold z34
 refine zk k (fun i x=>x=((i:Int),Qf i p)) (fun o=>o=_) Oz rfl ?_ ?_
 ·rintro i x g hi rfl hg
  have e:=JD i h
  have h2:=e.2
  rw[aG (zN hi)]
  show(i64 (0-(Qf i p).2)).bind _=_
  rw[xf Oz,aA,zp (show i<100000 by omega),aA]
  exact hg _ rfl
 ·rintro x g rfl
  rw[aE Y8]
def Qn(N:Nat)(l:List (Int×Int)):Prop:=∃a b c d,l=[a,b,c,d]∧Nr N a∧Nr N b∧Nr N c∧Nr N d
def Qd(N:Nat)(l:List (Int×Int)):Prop:=∃a b c d,l=[a,b,c,d]∧(Nr N a∧Nr N b∧Nr N c∧Nr N d)∧jt a b c d=true
theorem z33_ok{Q:List (List (Int×Int))}(hl:Q.length<12)(h:∀q∈Q,Qn 8 q):∃v,z33 Q=some v∧(v=true→∀q∈Q,Qd 8 q):=by
 unfold z33
 refine zk Q.length (fun i x=>x=(i:Int)∧∀q∈Q.take i,Qd 8 q) (fun o=>∃v,o=some v∧(v=true→∀q∈Q,Qd 8 q)) hl ⟨rfl,by simp⟩ ?_ ?_
 ·rintro i x g hi ⟨rfl,n⟩ hg
  obtain⟨a,b,c,d,e,ha,hb,hc,hd⟩:=h _ (aK hi)
  have j:=ha.le (M:=1000) Uz
  have k:=hb.le (M:=1000) Uz
  have l:=hc.le (M:=1000) Uz
  have m:=hd.le (M:=1000) Uz
  rw[aG (zN hi),zt hi,aA,zfy (p:=(0,0,Q[i],[],[],0,0,0,0,0)) e j k l m,aA,zfz j k l m,aA]
  cases hv:jt a b c d
  ·exact⟨false,rfl,fun q=>nomatch q⟩
  ·rw[aE Uz,zp (show i<100000 by omega),aA]
   refine hg _ ⟨rfl,fun q f=>?_⟩
   rw[yL hi]at f
   rcases aU.mp f with f|f
   ·exact n q f
   ·rw[aX.mp f]
    exact⟨a,b,c,d,e,⟨ha,hb,hc,hd⟩,hv⟩
 ·rintro x g ⟨rfl,n⟩
  rw[aE Y8]
  rw[bB]at n
  exact⟨true,rfl,fun _=>n⟩
theorem zeQ{w h x y b r t l:Int}(hw:4≤w∧w≤8)(hh:4≤h∧h≤8)(hx:0≤x∧x≤8)(j:0≤y∧y≤8)(hb:0≤b∧b≤8)(m:0≤r∧r≤8)(n:0≤t∧t≤8)(hl:0≤l∧l≤8):∃Q,z32 w h (x,y) b r t l=some Q∧Q.length=4∧∀q∈Q,Qn 8 q:=by
 have e:∀{p q:Int},0≤p∧p≤8→0≤q∧q≤8→Nr 8 (p,q):=fun h g=>⟨by show Int.natAbs _≤8;omega,by show Int.natAbs _≤8;omega⟩
 have z:(0:Int)≤0∧(0:Int)≤8:=by omega
 have i:0≤w∧w≤8:=by omega
 have f:0≤h∧h≤8:=by omega
 refine⟨_,rfl,rfl,?_⟩
 intro q k
 simp only[aN,cE,or_false]at k
 rcases k with rfl|rfl|rfl|rfl
 ·exact⟨_,_,_,_,rfl,e z z,e hb z,e hx j,e z hl⟩
 ·exact⟨_,_,_,_,rfl,e hb z,e i z,e i m,e hx j⟩
 ·exact⟨_,_,_,_,rfl,e hx j,e i m,e i f,e n f⟩
 ·exact⟨_,_,_,_,rfl,e z hl,e hx j,e n f,e z f⟩
theorem corners4:∃Q,z32 4 4 (2,2) 2 2 2 2=some Q∧Q.length=4∧∀q∈Q,Qd 8 q:=by
 refine⟨_,rfl,rfl,?_⟩
 intro q e
 simp only[aN,cE,or_false]at e
 rcases e with rfl|rfl|rfl|rfl<;>exact⟨_,_,_,_,rfl,⟨by unfold Nr;decide,by unfold Nr;decide,by unfold Nr;decide,by unfold Nr;decide⟩,by decide⟩
theorem mv_qd{q:List (Int×Int)}(h:Qd 8 q){n:Nat}{v:Int×Int}(hv:Nr 4 v):QuadOK (q.map (mvI n v)):=by
 obtain⟨a,b,c,d,rfl,⟨ha,hb,hc,hd⟩,f⟩:=h
 have e:∀{p:Int×Int},Nr 8 p→Nr 12 (mvI n v p):=fun hp=>by
  obtain⟨h1,h2⟩:=JD n hp
  obtain⟨h3,h4⟩:=hv
  exact⟨by show(_+_:Int).natAbs≤12;omega,by show(_+_:Int).natAbs≤12;omega⟩
 exact⟨_,_,_,_,rfl,⟨e ha,e hb,e hc,e hd⟩,quad_mv.trans f⟩
theorem Zr{t:Rat×Rat}(h:Tn 1 t):V2 1 1 t:=by
 obtain⟨d,x,y,h0,hd,hs,e1,e2⟩:=h
 obtain rfl:d=1:=by omega
 have hx:=XE Uz hs
 have a:=XE (x:=y) (y:=x) (d:=((1:Nat):Int)) Uz (by rw[←hs];omega)
 have key:∀{z:Int},z.natAbs≤1→QV 1 1 (mkRat z 1):=fun{z} hz=>by
  refine⟨z,?_,by omega⟩
  rw[Rat.mkRat_eq_div]
  exact Rat.div_mul_cancel Uz
 exact⟨by rw[e1];exact key hx,by rw[e2];exact key a⟩
theorem tn_still':Tn 1 (qI 1,0):=tn_still
structure Inv(i:Nat)(P:List Pc)(A:List Pl):Prop where
 pl:P.length=i
 pc:∀p∈P,PcB p
 al:A.length=i
 at':∀v∈A,Tn 1 v.1∧V2 1 8 v.2
theorem Jx{r:Int}(h:0≤r∧r<3)(d:Int)(hd:d=2∨d=4):ofG r d=some (Rat.divInt r d)∧0≤Rat.divInt r d:=by
 refine⟨KB Oz Oz,?_⟩
 have e:r=0∨r=1∨r=2:=by omega
 rcases e with rfl|rfl|rfl<;>rcases hd with rfl|rfl<;>decide
theorem zbK{n:Int}{l:List (Int×Int)}(h:l.length=4):z35 n l=some (n,0,l,[false,false,false,false],[0,0,0,0],0,qI 1,qI 1,qI 100,Rat.divInt 1 2):=by
 have c:ofG 1 1=some (qI 1):=ofI Uz
 have a:ofG 100 1=some (qI 100):=ofI Uz
 have b:app ([]:List (Int×Int)) l=some l:=by rw[yE (by simp;omega)];rfl
 unfold z35
 rw[c,aA,b,aA,a,aA,zdZ,aA,h,aG ⟨by decide,rfl,by decide⟩,aG ⟨by decide,rfl,by decide⟩]
 rfl
theorem piece_ok{n:Int}{l:List (Int×Int)}(hn:0≤n∧n≤999)(hl:QuadOK l){r s u:Int}(c:0≤r∧r<3)(hs:0≤s∧s<3)(hu:0≤u∧u<3) :
 PcB (n,0,l,[false,false,false,false],[0,0,0,0],Rat.divInt r 4,qI (1+s),qI (1+s)+Rat.divInt u 2,qI 100,Rat.divInt 1 2):=by
 have b:QV 4 1 (Rat.divInt r 4):=zap (q:=4) Uz 1 rfl Oz
 refine⟨?_,b⟩
 have h2:=(Jx hu 2 (.inl rfl)).2
 have a:QV 2 3 (qI (1+s)):=(QV.int (n:=1+s) (B:=3) Oz).up (k:=2)
 have d:QV 2 1 (Rat.divInt u 2):=zap (q:=2) Uz 1 rfl Oz
 refine⟨hl,hn,⟨Int.le_refl _,show(0:Int)≤4 by decide⟩,rfl,rfl,⟨b.le Uz,(Jx c 4 (.inr rfl)).2⟩,⟨a.le Uz,?_⟩,⟨(a.add d).le Uz,?_⟩,rfl,rfl⟩
 ·have:=qI_lt (show(0:Int)<1+s by omega)
  exact this
 ·show qI (1+s)≤qI (1+s)+Rat.divInt u 2
  grind
section
variable{l:List Int}(hl:L64 l){Q:List (List (Int×Int))}(hQ:Q.length=4)(hq:∀q∈Q,Qd 8 q){i:Nat}(hi:i<4){P:List Pc}{A:List Pl}(hI:Inv i P A){g:Int×List Pc×List Pl→Option (List Pc×List Fq×List Pl)}{Post:Option (List Pc×List Fq×List Pl)→Prop}(hg:∀P' A',Inv (i+1) P' A'→Post (g (((i+1:Nat):Int),P',A')))
include hl hQ hq hi hI hg
theorem bk1_ok{r:Nat}(U:r<4){u w:Int}(hv:Nr 4 (u,w)):Post (bk1 l Q g ((i:Int),P,A) (r:Int) u w):=by
 have o:i<Q.length:=by omega
 have s:=hq _ (aK o)
 have h:=mv_qd s (n:=r) hv
 obtain⟨a,b,c,d,f,⟨G,H,I,J⟩,-⟩:=s
 have hlen:Q[i].length=4:=by rw[f];rfl
 have D:∀p∈Q[i],Nr 8 p:=by
  rw[f]
  intro p hp
  simp only[aN,cE,or_false]at hp
  rcases hp with rfl|rfl|rfl|rfl
  ·exact G
  ·exact H
  ·exact I
  ·exact J
 clear f G H I J a b c d
 have C:=zt o
 generalize Q[i]=q at *
 unfold bk1
 refine zk 4 (fun j x=>x=((j:Int),(q.take j).map (mvI r (u,w)))) Post Oz rfl ?_ ?_
 ·rintro j x k hj rfl hk
  have e:j<q.length:=by omega
  have K:=D _ (aK e)
  have Z:=JD r K
  obtain⟨r1,r2⟩:=Z
  obtain⟨v1,v2⟩:=hv
  rw[aG (aH (by show(j:Int)<4;omega)),C,aA]
  show(idx q (j:Int)).bind _ |> Post
  rw[zt e,aA,z34_ok K U,aA,xf (show((Qf r q[j]).1+u).natAbs<_ by have:u.natAbs≤4:=v1;omega),aA,xf (show((Qf r q[j]).2+w).natAbs<_ by have:w.natAbs≤4:=v2;omega),aA]
  rw[yE (by simp;omega),aA,zp (show j<100000 by omega),aA]
  refine hk _ ?_
  rw[yL e,List.map_append]
  rfl
 ·rintro x k rfl
  rw[cV Oz]
  obtain⟨t1,e1,g1⟩:=wW hl (i:=21+(i:Int)) (m:=3) Oz Uz Uz
  obtain⟨t2,e2,g2⟩:=wW hl (i:=25+(i:Int)) (m:=3) Oz Uz Uz
  obtain⟨y,O,F⟩:=wW hl (i:=29+(i:Int)) (m:=3) Oz Uz Uz
  have pc:=piece_ok (n:=10+(i:Int)) Oz h g1 g2 F
  have R:=(Jx g1 4 (.inr rfl)).1
  have T:=(Jx F 2 (.inl rfl)).1
  have S:ofG (1+t2) 1=some (qI (1+t2)):=ofI Oz
  have W:QV 2 3 (qI (1+t2)):=(QV.int (n:=1+t2) (B:=3) Oz).up (k:=2)
  have X:QV 2 1 (Rat.divInt y 2):=zap (q:=2) Uz 1 rfl Oz
  have N:=xu (W.sm ⟨by decide,by decide⟩) (X.sm ⟨by decide,by decide⟩)
  have:=hI.pl
  have:=hI.al
  rw[aE (show ¬(decide (((4:Nat):Int)<4)=true)by decide),xf (show(10+(i:Int)).natAbs<_ by omega),aA]
  rw[zbK (n:=10+(i:Int)) (l:=q.map (mvI r (u,w))) (by rw[bN];exact hlen),aA,xf (show(21+(i:Int)).natAbs<_ by omega),aA,e1,aA,R,aA,xf (show(25+(i:Int)).natAbs<_ by omega),aA,e2,aA,xf (show(1+t2).natAbs<_ by omega),aA,S,aA,xf (show(29+(i:Int)).natAbs<_ by omega),aA,O,aA,T,aA,N,aA]
  show(app P _).bind _ |> Post
  rw[yE (by simp;omega),aA,still_eq.2,aA]
  have V:∀p∈P++[(10+(i:Int),0,q.map (mvI r (u,w)),[false,false,false,false],[0,0,0,0],Rat.divInt t1 4,qI (1+t2),qI (1+t2)+Rat.divInt y 2,qI 100,Rat.divInt 1 2)],PcB p:=fun p hp=>by
   rcases aU.mp hp with hp|hp
   ·exact hI.pc p hp
   ·rw[aX.mp hp];exact pc
  have Y:(P++[(10+(i:Int),0,q.map (mvI r (u,w)),[false,false,false,false],[0,0,0,0],Rat.divInt t1 4,qI (1+t2),qI (1+t2)+Rat.divInt y 2,qI 100,Rat.divInt 1 2)]).length=i+1:=by simp;omega
  generalize P++[(10+(i:Int),0,q.map (mvI r (u,w)),[false,false,false,false],[0,0,0,0],Rat.divInt t1 4,qI (1+t2),qI (1+t2)+Rat.divInt y 2,qI 100,Rat.divInt 1 2)]=P' at *
  have m4:∃m:Nat,m<4∧Int.tmod (4-(r:Int)) 4=(m:Int):=by
   have:r=0∨r=1∨r=2∨r=3:=by omega
   rcases this with rfl|rfl|rfl|rfl
   ·exact⟨0,by decide,by decide⟩
   ·exact⟨3,by decide,by decide⟩
   ·exact⟨2,by decide,by decide⟩
   ·exact⟨1,by decide,by decide⟩
  obtain⟨m,hm,E⟩:=m4
  refine zk m (fun j x=>x.1=(j:Int)∧Tn 1 x.2) Post Oz ⟨rfl,tn_still'⟩ ?_ ?_
  ·rintro j ⟨x,tc,ts⟩ k hj ⟨rfl,t⟩ hk
   have z:=Zr t
   rw[xf (show(4-(r:Int)).natAbs<_ by omega),aA,aE Uz,E,aG (zN hj),kK (z.2.sm ⟨by decide,by decide⟩),aA,zp (show j<100000 by omega),aA]
   exact hk _ ⟨rfl,t.quarter⟩
  ·rintro⟨x,tc,ts⟩ k ⟨rfl,t⟩
   have z:=Zr t
   have pv:=ux hv
   have s1:SB 1 8:=⟨by decide,by decide⟩
   have ro:=Y7 z pv ⟨by decide,by decide⟩ ⟨by decide,by decide⟩ ⟨by decide,by decide⟩
   have L:=V2.rot z pv
   have zv:V2 1 8 (0,0):=⟨QV.int (n:=0) Uz,QV.int (n:=0) Uz⟩
   have z0:V2 1 0 (0,0):=⟨QV.int (n:=0) Uz,QV.int (n:=0) Uz⟩
   rw[xf (show(4-(r:Int)).natAbs<_ by omega),aA,aE Uz,E,aE Y8,wK (hv.le (M:=10000) Uz),aA]
   rw[Jl ro,aA,z39_v zv L s1 s1,aA]
   show(app A _).bind _ |> Post
   rw[yE (by simp;omega),aA]
   show(i64 ((i:Int)+1)).bind _ |> Post
   rw[zp (show i<100000 by omega),aA]
   refine hg _ _ ⟨Y,V,by simp;omega,fun v hv=>?_⟩
   rcases aU.mp hv with hv|hv
   ·exact hI.at' v hv
   ·rw[aX.mp hv]
    exact⟨t,z0.sub L⟩
end
theorem bk0_eq{l:List Int}{Q:List (List (Int×Int))}{g:Int×List Pc×List Pl→Option (List Pc×List Fq×List Pl)}{x:Int×List Pc×List Pl}:bk0 l Q g x=bk1 l Q g x 0 0 0:=by
 have e:i64 (4-0)=some 4:=xf Uz
 unfold bk0 bk1
 simp only[e,aA]
theorem strR_ok{a b:Pc}{f:Fq}(la:a.2.2.1.length=4)(lb:b.2.2.1.length=4):z171 a b f=some (QX f):=by
 unfold z171
 rw[la,lb]
 simp only[show((4:Nat):Int)=4 from rfl]
 by_cases c:QX f=true
 ·have c':=dR c
  rw[c,aG (aH c'.1.1),aG (aH c'.1.2),aG (aH c'.2.1.1),aG (aH c'.2.1.2),aG (aH c'.2.2.1),aG (aH c'.2.2.2),aH c'.2.2.2]
 ·have c':¬((0≤f.2.2.1∧f.2.2.1<4)∧(0≤f.2.2.2.1∧f.2.2.2.1<4)∧(1≤f.2.2.2.2.1∧f.2.2.2.2.1<4)):=fun q=>c (aH q)
  rw[show QX f=false by simpa using c]
  repeat' split
  all_goals (try rfl)
  all_goals (rename_i h1 h2 d e g h;simp only[aB]at *;exact absurd ⟨⟨h1,h2⟩,⟨d,e⟩,g,h⟩ c')
theorem zcW{a:Int}(h0 : -3≤a)(h1:a≤7):∃j:Nat,j<4∧z172 a 4=some (j:Int):=by
 have e:a = -3∨a = -2∨a = -1∨a=0∨a=1∨a=2∨a=3∨a=4∨a=5∨a=6∨a=7:=by omega
 have q:∀{a:Int} (j:Nat),(Int.tmod a 4+4).natAbs<1000→Int.tmod (Int.tmod a 4+4) 4=(j:Int)→j<4→∃j:Nat,j<4∧z172 a 4=some (j:Int):=fun j h g k=>⟨j,k,by
  unfold z172
  rw[aE Uz,xf Oz,aA,aE Uz,g]⟩
 rcases e with rfl|rfl|rfl|rfl|rfl|rfl|rfl|rfl|rfl|rfl|rfl
 ·exact q 1 Uz Uz Uz
 ·exact q 2 Uz Uz Uz
 ·exact q 3 Uz Uz Uz
 ·exact q 0 Uz Uz Uz
 ·exact q 1 Uz Uz Uz
 ·exact q 2 Uz Uz Uz
 ·exact q 3 Uz Uz Uz
 ·exact q 0 Uz Uz Uz
 ·exact q 1 Uz Uz Uz
 ·exact q 2 Uz Uz Uz
 ·exact q 3 Uz Uz Uz
theorem if_tt{ρ:Type}{a b:ρ}:(if true=true then a else b)=a:=aG rfl
theorem if_ff{ρ:Type}{a b:ρ}:(if false=true then a else b)=b:=aE Uz
abbrev AgR:=Option ((Rat×Rat)×(Rat×Rat)×Bool)
def AgOK(o:AgR):Prop:=∃lo hi b,o=some (lo,hi,b)∧V2 4 60 lo∧V2 4 60 hi
theorem agree_ok{i j:Pc}(G:PcOK i)(H:PcOK j){x y ea eb:Int}{t:Rat×Rat}(I:Tn 1 t)(ha:0≤ea∧ea<4)(hb:0≤eb∧eb<4):AgOK (jM i j (x,y,ea,eb,1,t,(0,0),0,0)):=by
 obtain⟨la,ra,-,na,-⟩:=jS G
 obtain⟨lb,rb,-,nb,-⟩:=jS H
 have st:z171 i j (x,y,ea,eb,1,t,(0,0),0,0)=some true:=by
  rw[strR_ok la lb]
  exact congrArg some (aH ⟨ha,hb,show(1:Int)≤1 by decide,show(1:Int)<4 by decide⟩)
 have N:=Zr I
 have ut:z54 t=some true:=by
  obtain⟨d,h1,h2,h⟩:=tn_qv I Uz
  rw[(zdD h1 ⟨h2.1.le Uz,h2.2.le Uz⟩).2,h]
 have u:SB 4 2:=⟨by decide,by decide⟩
 have p:SB 4 4:=⟨by decide,by decide⟩
 have f:SB 4 60:=⟨by decide,by decide⟩
 have s40:SB 4 40:=⟨by decide,by decide⟩
 have he:=G.tol.1.add H.tol.1
 have T:=xu (G.tol.1.sm u) (H.tol.1.sm u)
 generalize i.2.2.2.2.2.1+j.2.2.2.2.2.1=e at *
 have q:QV 4 60 0:=(QV.int (n:=0) (B:=60) Uz).up (k:=4)
 unfold jM
 rw[st,aA,aE Uz]
 show(z54 t).bind _ |> AgOK
 rw[ut,aA,aE Uz,ra,aA,rb,aA,T,aA]
 have le:(i.2.2.1.map ptQ).length=4:=by rw[bN];exact la
 have lf:(j.2.2.1.map ptQ).length=4:=by rw[bN];exact lb
 refine zk 2 (fun k x=>x.1=(k:Int)∧QV 4 60 x.2.1∧QV 4 60 x.2.2.1∧QV 4 60 x.2.2.2.1∧QV 4 60 x.2.2.2.2) AgOK Oz ⟨rfl,q,q,q,q⟩ ?_ ?_
 ·rintro k ⟨x0,v,x2,w,z⟩ g hk ⟨rfl,h1,h2,h,l⟩ hg
  have h1:QV 4 60 v:=h1
  have h2:QV 4 60 x2:=h2
  have h:QV 4 60 w:=h
  have l:QV 4 60 z:=l
  obtain⟨A,q1,q2⟩:=zcW (a:=ea+k) Oz Oz
  obtain⟨D,r1,r2⟩:=zcW (a:=eb+1-k) Oz Oz
  have v1:=na _ (aK (show A<i.2.2.1.length by omega))
  have v2:=nb _ (aK (show D<j.2.2.1.length by omega))
  have w3:idx (i.2.2.1.map ptQ) (A:Int)=some (ptQ i.2.2.1[A]):=by rw[zt V4,List.getElem_map]
  have w4:idx (j.2.2.1.map ptQ) (D:Int)=some (ptQ j.2.2.1[D]):=by rw[zt V4,List.getElem_map]
  generalize i.2.2.1[A]=c1 at *
  generalize j.2.2.1[D]=m at *
  have o2:=Y7 N (ux v2) ⟨by decide,by decide⟩ ⟨by decide,by decide⟩ ⟨by decide,by decide⟩
  have O:=V2.rot N (ux v2)
  have d:=(V2.sub (ux v1) O).up (k:=4)
  have d:V2 4 36 (wp (ptQ c1) (xI t (ptQ m))):=d
  have e1:=z39_v (ux v1) O ⟨by decide,by decide⟩ ⟨by decide,by decide⟩
  have F:V2 4 4 (e,e):=⟨he,he⟩
  have o:SB 4 36:=⟨by decide,by decide⟩
  have e2:=z39_v d F o p
  have U:z19 (wp (ptQ c1) (xI t (ptQ m))) (e,e)=some (addV (wp (ptQ c1) (xI t (ptQ m))) (e,e)):=by
   unfold z19
   rw[xu (d.1.sm o) (he.sm p),xu (d.2.sm o) (he.sm p)]
   rfl
  have lo:V2 4 40 (wp (wp (ptQ c1) (xI t (ptQ m))) (e,e)):=V2.sub (C:=4) d F
  have hi:V2 4 40 (addV (wp (ptQ c1) (xI t (ptQ m))) (e,e)):=V2.add (C:=4) d F
  rw[aG (aH (by show(k:Int)≤1;omega)),xf (show(ea+(k:Int)).natAbs<_ by omega),aA,xf (show(eb+1).natAbs<_ by omega),aA,xf (show(eb+1-(k:Int)).natAbs<_ by omega),aA,le,lf]
  rw[show((4:Nat):Int)=4 from rfl,q2,aA,w3,aA,r2,aA,w4,aA,Jl o2,aA,e1,aA,e2,aA,U,aA]
  generalize wp (wp (ptQ c1) (xI t (ptQ m))) (e,e)=s at *
  generalize addV (wp (ptQ c1) (xI t (ptQ m))) (e,e)=r at *
  have J:=lo.1.le (C:=60) Uz
  have K:=lo.2.le (C:=60) Uz
  have L:=hi.1.le (C:=60) Uz
  have M:=hi.2.le (C:=60) Uz
  have V:=q6 (J.sm f) (h1.sm f)
  have W:=q6 (K.sm f) (h2.sm f)
  have X:=q6 (L.sm f) (h.sm f)
  have Y:=q6 (M.sm f) (l.sm f)
  have fin:∀{P Q R S:Rat},QV 4 60 P→QV 4 60 Q→QV 4 60 R→QV 4 60 S→AgOK ((i64 ((k:Int)+1)).bind fun n=>g (n,P,Q,R,S)):=fun a b c d=>by
   rw[zp (show k<100000 by omega),aA]
   exact hg _ ⟨rfl,a,b,c,d⟩
  have Z:k=0∨k=1:=by omega
  rcases Z with rfl|rfl
  ·have z0:decide (((0:Nat):Int)=0)=true:=rfl
   simp only[z0,if_tt]
   exact fin J K L M
  ·have z1:decide (((1:Nat):Int)=0)=false:=rfl
   simp only[z1,if_ff,V,W,X,Y,aA]
   cases decide (0<wa s.1 v)<;>cases decide (0<wa s.2 x2)<;>cases decide (wa r.1 w<0)<;>cases decide (wa r.2 z<0)<;>simp only[if_tt,if_ff]<;>exact fin Z1 Z1 Z1 Z1
 ·rintro⟨x0,v,x2,w,z⟩ g ⟨rfl,h1,h2,h,l⟩
  have h1:QV 4 60 v:=h1
  have h2:QV 4 60 x2:=h2
  have h:QV 4 60 w:=h
  have l:QV 4 60 z:=l
  have E:V2 4 60 (0,0):=⟨q,q⟩
  rw[aE (show ¬(decide (((2:Nat):Int)≤1)=true)by decide),q6 (h1.sm f) (h.sm f),aA]
  cases decide (0<wa v w)
  ·rw[if_ff,q6 (h2.sm f) (l.sm f),aA]
   cases decide (0<wa x2 z)
   ·exact⟨_,_,_,rfl,⟨h1,h2⟩,⟨h,l⟩⟩
   ·exact⟨_,_,_,rfl,E,E⟩
  ·exact⟨_,_,_,rfl,E,E⟩
theorem u9{e f:Pc}(j:PcOK e)(k:PcOK f){va a:Pl}(ha:Tn 1 va.1)(hb:Tn 1 a.1){x y ea eb:Int}(hx:x.natAbs<100)(hy:y.natAbs<100)(h1:0≤ea∧ea<4)(h2:0≤eb∧eb<4) :
 jN va.1=some (bck va.1)∧z73 (bck va.1) a.1=some (xI (bck va.1) a.1)∧∃r,jM e f (x,y,ea,eb,1,xI (bck va.1) a.1,(0,0),0,0)=some r∧FitOK (x,y,ea,eb,1,xI (bck va.1) a.1,r.1,r.2.1)∧Tn 1 (xI (bck va.1) a.1):=by
 have g:=Zr ha
 have c:=ha.bck
 have h:=Zr hb
 have e1:jN va.1=some (bck va.1):=by
  unfold jN
  rw[kK (g.2.sm ⟨by decide,by decide⟩)]
  rfl
 have d:Kd 1:=⟨by decide,by decide⟩
 have e2:=(zdj d d (Zr c) h).2.1
 have tu:Tn 1 (xI (bck va.1) a.1):=c.aft hb
 obtain⟨lo,hi,b,i,g1,g2⟩:=agree_ok j k (x:=x) (y:=y) tu h1 h2
 exact⟨e1,e2,_,i,⟨(show yv x from WP Oz),(show yv y from WP Oz),tu.le Uz⟩,tu⟩
theorem prs{α:Type}{a b c d:α}:idx [a,b,c,d] 0=some a∧idx [a,b,c,d] 1=some b∧idx [a,b,c,d] 2=some c∧idx [a,b,c,d] 3=some d:=⟨rfl,rfl,rfl,rfl⟩
def FsOK(P:List Pc)(A:List Pl)(o:Option (List Pc×List Fq×List Pl)):Prop:=∃F,o=some (P,F,A)∧(0<F.length∧F.length≤4)∧∀f∈F,FitOK f∧Tn 1 f.2.2.2.2.2.1
theorem bkF_ok{n:Nat}(hn:2≤n∧n≤4){P:List Pc}{A:List Pl}(b:Inv n P A){x:Int}:FsOK P A (bkF (n:Int) (x,P,A)):=by
 have hP:=b.pl
 have hA:=b.al
 have a:∀k:Nat,k<n→∃p v,idx P (k:Int)=some p∧idx A (k:Int)=some v∧PcOK p∧Tn 1 v.1:=fun k hk=>by
  have h1:k<P.length:=by omega
  have h2:k<A.length:=by omega
  exact⟨_,_,zt h1,zt h2,(b.pc _ (aK h1)).1,(b.at' _ (aK h2)).1⟩
 obtain⟨D,F,ip0,iv0,kp0,kv0⟩:=a 0 Oz
 obtain⟨p1,v1,ip1,iv1,kp1,kv1⟩:=a 1 Oz
 obtain⟨o,s,r1,c1,j⟩:=u9 kp0 kp1 kv0 kv1 (x:=0) (y:=1) (ea:=1) (eb:=3) Uz Uz Uz Uz
 have ip0:idx P 0=some D:=ip0
 have iv0:idx A 0=some F:=iv0
 have ip1:idx P 1=some p1:=ip1
 have iv1:idx A 1=some v1:=iv1
 have app1:∀f:Fq,app ([]:List Fq) [f]=some [f]:=fun _=>rfl
 have app2:∀(l:List Fq) (f:Fq),l.length<10→app l [f]=some (l++[f]):=fun l f h=>yE (by simp;omega)
 have e:n=2∨n=3∨n=4:=by omega
 have all:∀{l:List Fq} {f:Fq},(∀f∈l,FitOK f∧Tn 1 f.2.2.2.2.2.1)→FitOK f∧Tn 1 f.2.2.2.2.2.1→∀g∈l++[f],FitOK g∧Tn 1 g.2.2.2.2.2.1:=fun h k g hg=>by
  rcases aU.mp hg with hg|hg
  ·exact h g hg
  ·rw[aX.mp hg];exact k
 have jH:∀{f:Fq},FitOK f∧Tn 1 f.2.2.2.2.2.1→∀g∈[f],FitOK g∧Tn 1 g.2.2.2.2.2.1:=fun k g hg=>by rw[aX.mp hg];exact k
 unfold bkF
 simp only[prs,aA,ip0,iv0,ip1,iv1,o,s,c1,app1]
 rcases e with rfl|rfl|rfl
 ·rw[aG (show decide ((1:Int)<((2:Nat):Int))=true from rfl),aE (show ¬decide ((3:Int)<((2:Nat):Int))=true by decide),aE (show ¬decide ((2:Int)<((2:Nat):Int))=true by decide),aE (show ¬decide ((3:Int)<((2:Nat):Int))=true by decide)]
  exact⟨_,rfl,⟨by simp,by simp⟩,jH j⟩
 ·obtain⟨p2,v2,ip2,iv2,kp2,kv2⟩:=a 2 Oz
  have ip2:idx P 2=some p2:=ip2
  have iv2:idx A 2=some v2:=iv2
  obtain⟨c,d,r2,i,m⟩:=u9 kp1 kp2 kv1 kv2 (x:=1) (y:=2) (ea:=2) (eb:=0) Uz Uz Uz Uz
  rw[aG (show decide ((1:Int)<((3:Nat):Int))=true from rfl),aE (show ¬decide ((3:Int)<((3:Nat):Int))=true by decide),aG (show decide ((2:Int)<((3:Nat):Int))=true from rfl)]
  simp only[ip2,iv2,aA,c,d,i]
  rw[app2 _ _ Y8,aA,aE (show ¬decide ((3:Int)<((3:Nat):Int))=true by decide)]
  exact⟨_,rfl,⟨by simp,by simp⟩,all (jH j) m⟩
 ·obtain⟨p2,v2,ip2,iv2,kp2,kv2⟩:=a 2 Oz
  obtain⟨E,G,ip3,iv3,kp3,kv3⟩:=a 3 Oz
  have ip2:idx P 2=some p2:=ip2
  have iv2:idx A 2=some v2:=iv2
  have ip3:idx P 3=some E:=ip3
  have iv3:idx A 3=some G:=iv3
  obtain⟨c,d,r2,i,m⟩:=u9 kp0 kp3 kv0 kv3 (x:=0) (y:=3) (ea:=2) (eb:=0) Uz Uz Uz Uz
  obtain⟨q,t,r3,w,B⟩:=u9 kp1 kp2 kv1 kv2 (x:=1) (y:=2) (ea:=2) (eb:=0) Uz Uz Uz Uz
  obtain⟨r,u,r4,z,C⟩:=u9 kp2 kp3 kv2 kv3 (x:=2) (y:=3) (ea:=3) (eb:=1) Uz Uz Uz Uz
  rw[aG (show decide ((1:Int)<((4:Nat):Int))=true from rfl),aG (show decide ((3:Int)<((4:Nat):Int))=true from rfl)]
  simp only[ip3,iv3,aA,c,d,i]
  rw[app2 _ _ Y8,aA,aG (show decide ((2:Int)<((4:Nat):Int))=true from rfl)]
  simp only[ip2,iv2,o,aA,q,t,w]
  rw[app2 _ _ Y8,aA,aG (show decide ((3:Int)<((4:Nat):Int))=true from rfl)]
  simp only[aA,r,u,z]
  rw[app2 _ _ Y8]
  exact⟨_,rfl,⟨by simp,by simp⟩,all (all (all (jH j) m) B) C⟩
def BxOK(o:Option (List Pc×List Fq×List Pl)):Prop:=∃P F A,o=some (P,F,A)∧BoxOK P F A
theorem bkZ_ok{l:List Int}(hl:L64 l){Q:List (List (Int×Int))}(c:Q.length=4)(d:∀q∈Q,Qd 8 q):BxOK (bkZ l Q):=by
 obtain⟨r,j,r0,r1⟩:=wW hl (i:=8) (m:=3) Uz Uz Uz
 obtain⟨m,rfl⟩:=Int.eq_ofNat_of_zero_le r0
 unfold bkZ
 rw[j,aA,xf (show(2+(m:Int)).natAbs<_ by omega),aA]
 have hm:m≤2:=by omega
 refine zk (2+m) (fun i x=>x.1=(i:Int)∧Inv i x.2.1 x.2.2) BxOK Oz ⟨rfl,rfl,by simp,rfl,by simp⟩ ?_ ?_
 ·rintro i ⟨x,P,A⟩ g hi ⟨rfl,a⟩ hg
  have a:Inv i P A:=a
  obtain⟨q,f,q0,q1⟩:=wW hl (i:=9+(i:Int)) (m:=4) Oz Uz Uz
  obtain⟨u,n,u0,u1⟩:=wW hl (i:=13+(i:Int)) (m:=9) Oz Uz Uz
  obtain⟨w,o,w0,w1⟩:=wW hl (i:=17+(i:Int)) (m:=9) Oz Uz Uz
  obtain⟨k,rfl⟩:=Int.eq_ofNat_of_zero_le q0
  have post:∀P' b,Inv (i+1) P' b→BxOK (g (((i+1:Nat):Int),P',b)):=fun P' b h=>hg _ ⟨rfl,h⟩
  unfold bkR
  rw[aG (aH (by show(i:Int)<_;omega)),xf (show(9+(i:Int)).natAbs<_ by omega),aA,f,aA,xf (show(13+(i:Int)).natAbs<_ by omega),aA,n,aA,xf (show(u-4).natAbs<_ by omega),aA,xf (show(17+(i:Int)).natAbs<_ by omega),aA,o,aA,xf (show(w-4).natAbs<_ by omega),aA]
  by_cases h:i=0
  ·rw[aG (aH (by show(i:Int)=0;omega)),bk0_eq]
   exact bk1_ok hl c d Oz a post (r:=0) Uz (u:=0) (w:=0) ⟨by decide,by decide⟩
  ·rw[aE (by simp only[aB];omega)]
   exact bk1_ok hl c d Oz a post Oz ⟨by show(u-4).natAbs≤4;omega,by show(w-4).natAbs≤4;omega⟩
 ·rintro⟨x,P,A⟩ g ⟨rfl,a⟩
  have a:Inv (2+m) P A:=a
  obtain⟨F,e,h1,h2⟩:=bkF_ok Oz a (x:=((2+m:Nat):Int))
  unfold bkR
  rw[aE (by simp only[aB];omega)]
  refine⟨P,F,A,e,⟨?_,a.pc,h1,h2,?_,fun v hv=>⟨Zr (a.at' v hv).1,(a.at' v hv).2⟩⟩⟩
  ·have:=a.pl;omega
  ·have:=a.pl;have:=a.al;omega
theorem z8_ok{l:List Int}(hl:L64 l):BxOK (z8 l):=by
 obtain⟨a,ea,a0,g⟩:=wW hl (i:=0) (m:=5) Uz Uz Uz
 obtain⟨b,eb,n,o⟩:=wW hl (i:=1) (m:=5) Uz Uz Uz
 have v:∀{i s:Int},0≤i→0≤s→s<5→∃r,z21 l i (4+s-1)=some r∧0≤r∧r≤7:=fun{i s} hi h0 h1=>by
  obtain⟨r,e,r0,r1⟩:=wW hl (i:=i) (m:=4+s-1) hi Oz Oz
  exact⟨r,e,r0,by omega⟩
 obtain⟨c,u,c0,c1⟩:=v (i:=2) Uz a0 g
 obtain⟨d,ed,d0,d1⟩:=v (i:=3) Uz n o
 obtain⟨f,z,f0,f1⟩:=v (i:=4) Uz a0 g
 obtain⟨h,A,h0,h1⟩:=v (i:=5) Uz n o
 obtain⟨j,B,j0,j1⟩:=v (i:=6) Uz a0 g
 obtain⟨k,C,k0,k1⟩:=v (i:=7) Uz n o
 obtain⟨Q,p,H,E⟩:=zeQ (w:=4+a) (h:=4+b) (x:=1+c) (y:=1+d) (b:=1+f) (r:=1+h) (t:=1+j) (l:=1+k) Oz Oz Oz Oz Oz Oz Oz Oz
 obtain⟨w,D,G⟩:=z33_ok Oz E
 obtain⟨R,q,I,F⟩:=corners4
 unfold z8
 rw[ea,aA,xf (show(4+a).natAbs<_ by omega),aA,eb,aA,xf (show(4+b).natAbs<_ by omega),aA,xf (show(4+a-1).natAbs<_ by omega),aA,u,aA,xf (show(1+c).natAbs<_ by omega),aA,xf (show(4+b-1).natAbs<_ by omega),aA,ed,aA,xf (show(1+d).natAbs<_ by omega),aA,aA,aA,aA,aA,z,aA,xf (show(1+f).natAbs<_ by omega),aA,A,aA,xf (show(1+h).natAbs<_ by omega),aA,B,aA,xf (show(1+j).natAbs<_ by omega),aA,C,aA,xf (show(1+k).natAbs<_ by omega),aA,p,aA,D,aA]
 cases w
 ·rw[aG Uz,q,aA]
  exact bkZ_ok hl I F
 ·rw[aE Uz]
  exact bkZ_ok hl H (G rfl)
theorem fit_sm{f:Fq}(h:FitOK f):Sm f.2.2.2.2.2.1.1∧Sm f.2.2.2.2.2.1.2:=by
 obtain⟨h1,h2⟩:=h.tn.bd
 exact⟨⟨by have:=h1.1;omega,by have:=h1.2;omega⟩,⟨by have:=h2.1;omega,by have:=h2.2;omega⟩⟩
theorem zbB{F:List Fq}(h6:F.length≤6)(hf:∀f∈F,FitOK f):∃q:Bool,z28 F=some q∧(q=true→∀f∈F,Qv f.2.2.2.2.2.1):=by
 unfold z28
 refine zk F.length (fun i (x:Int)=>x=(i:Int)∧∀f∈F.take i,Qv f.2.2.2.2.2.1) (fun o=>∃q:Bool,o=some q∧(q=true→∀f∈F,Qv f.2.2.2.2.2.1)) Oz ⟨rfl,fun f hf=>by simp at hf⟩ ?_ ?_
 ·rintro i x g hi ⟨rfl,b⟩ hg
  have ok:=hf _ (aK hi)
  obtain⟨s1,s2⟩:=fit_sm ok
  have next:Qv F[i].2.2.2.2.2.1→∃q:Bool,((i64 ((i:Int)+1)).bind fun d=>g d)=some q∧(q=true→∀f∈F,Qv f.2.2.2.2.2.1):=fun h=>by
   rw[zp Oz,aA]
   refine hg _ ⟨rfl,fun f a=>?_⟩
   rw[yL hi,aU,aX]at a
   rcases a with a|rfl
   ·exact b f a
   ·exact h
  rw[aG (zN hi),zt hi,aA,Zt s1,aA,aA,Zt s2,aA]
  by_cases c1:F[i].2.2.2.2.2.1.1=0
  ·rw[aE (by rw[aB];exact fun h=>h (sgR_0.mpr c1))]
   exact next ⟨ok.tn.one,.inl c1⟩
  ·rw[aG (by rw[aB];exact fun h=>c1 (sgR_0.mp h))]
   by_cases c:F[i].2.2.2.2.2.1.2=0
   ·rw[aE (by rw[aB];exact fun h=>h (sgR_0.mpr c))]
    exact next ⟨ok.tn.one,.inr c⟩
   ·rw[aG (by rw[aB];exact fun h=>c (sgR_0.mp h))]
    exact⟨false,rfl,fun h=>nomatch h⟩
 ·rintro x g ⟨rfl,b⟩
  rw[aE Y8]
  rw[bB]at b
  exact⟨true,rfl,fun _=>b⟩
theorem Wn{K:Nat}(a:Kd K){A:List Pl}(h6:A.length≤6)(h:∀v∈A,PlOK K v):z29 A A=some true:=by
 unfold z29
 rw[aE Y8]
 refine zk A.length (fun i (x:Int)=>x=(i:Int)) (fun o=>o=some true) Oz rfl ?_ ?_
 ·rintro i x g hi rfl hg
  have p:=h _ (aK hi)
  have s1:=a.s0 (B:=1) Uz
  have s2:=a.s1 (c:=4) (B:=360) Uz
  obtain⟨-,-,e1,-⟩:=Yo p.turn p.turn s1 s1
  obtain⟨-,-,-,e2⟩:=Yo p.at' p.at' s2 s2
  have e:z72 A[i] A[i]=some true:=by
   unfold z72
   rw[e1,aH rfl,aA,aG rfl,e2,aH rfl]
   rfl
  rw[aG (zN hi),zt hi,aA,aA,e,aA,aE Y8,zp Oz,aA]
  exact hg _ rfl
 ·rintro x g rfl
  rw[aE Y8]
theorem KL.perm{F G:List Fq}(p:F.Perm G):∀{K:Nat},KL F K→KL G K:=by
 induction p with
 |nil=>exact fun h=>h
 |cons x _ e=>intro K h;cases h with|cons a b=>exact .cons a (e b)
 |swap x y l=>
  intro K h
  cases h with
  |cons a b=>
   cases b with
   |cons c d=>
    rw[Nat.mul_left_comm]
    exact .cons c (.cons a d)
 |trans _ _ ih1 ih2=>exact fun h=>ih2 (ih1 h)
section
variable{n K:Nat}{X:List Bd}(hK:Kd K)(hn:0<n∧n≤4)(hg:zgY K n 60 X){xs:List Rat}(hl:xs.length=n)(hx:∀v,v<n→QV (K*4) 360 (fx xs v))
include hK hn hg hl hx
theorem Wi:∃b:Bool,z69 (n:Int) X xs []=some (if b=true then 0 else 22)∧(b=true↔Sat (X.map toE) (fx xs)):=by
 have hX:=hg.1
 have key:∃b:Bool,z129 ((n:Int),X) xs=some b∧(b=true↔Sat (X.map toE) (fx xs)):=by
  unfold z129
  rw[aG (aH (by show(xs.length:Int)=n;omega))]
  refine zk X.length (fun i x=>x=(i:Int)∧∀c∈X.take i,fx xs (toE c).to≤fx xs (toE c).fr+(toE c).m) (fun o=>∃b:Bool,o=some b∧(b=true↔Sat (X.map toE) (fx xs))) Oz ⟨rfl,fun c hc=>by simp at hc⟩ ?_ ?_
  ·rintro i x g hi ⟨rfl,hs⟩ a
   obtain⟨⟨h1,h2⟩,⟨q,h4⟩,r⟩:=hg.2 _ (aK hi)
   obtain⟨f,hf⟩:=Int.eq_ofNat_of_zero_le h1
   obtain⟨t,k⟩:=Int.eq_ofNat_of_zero_le q
   have l:=hx f Oz
   have p:=hx t Oz
   have s1:=hK.s1 (c:=4) (B:=720) Uz
   have efr:(toE X[i]).fr=f:=by show X[i].1.toNat=f;rw[hf];rfl
   have eto:(toE X[i]).to=t:=by show X[i].2.1.toNat=t;rw[k];rfl
   have j:(toE X[i]).m=X[i].2.2:=rfl
   rw[aG (zN hi),zt hi,aA]
   simp only[hf,k]
   rw[XT (show t<xs.length by omega),aA,XT (show f<xs.length by omega),aA,vr ((p.le (show 360≤720 by decide)).sm s1) ((l.le (show 360≤720 by decide)).sm s1),aA,q6 (((p.sub l).le (show 360+360≤720 by decide)).sm s1) ((r.le (show 60≤720 by decide)).sm s1),aA]
   by_cases c:X[i].2.2<fx xs t-fx xs f
   ·rw[aG (aH (cmpQ_pos.mpr c)),show decide ((0:Int)≤(i:Int))=true from aH Oz]
    refine⟨false,rfl,fun h=>(nomatch h),fun h=>?_⟩
    have:=h _ (eZ (aK hi))
    rw[efr,eto,j]at this
    exact absurd c (Rat.not_lt.mpr (by grind))
   ·rw[aE (by rw[aB];exact fun h=>c (cmpQ_pos.mp h)),zp Oz,aA]
    refine a _ ⟨rfl,fun d hd=>?_⟩
    rw[yL hi,aU,aX]at hd
    rcases hd with hd|rfl
    ·exact hs d hd
    ·rw[efr,eto,j]
     have:=Rat.not_lt.mp c
     grind
  ·rintro x g ⟨rfl,hs⟩
   rw[aE Y8]
   rw[bB]at hs
   refine⟨true,rfl,fun _ c hc=>?_,fun _=>rfl⟩
   obtain⟨e,he,rfl⟩:=List.mem_map.mp hc
   exact hs e he
 obtain⟨b,e1,e2⟩:=key
 refine⟨b,?_,e2⟩
 unfold z69
 rw[zgl hn hg.1 hg.2]
 simp only[aA,eE,aW,cK,List.length_nil]
 rw[aG Uz,e1]
 simp only[aA]
 cases b
 ·rw[aE Uz,aE (by simp only[aB];omega),aE Uz]
 ·rw[aG rfl,aG rfl]
end
end Go.Proofs.YtocnbjjmmgolfaaGreat
