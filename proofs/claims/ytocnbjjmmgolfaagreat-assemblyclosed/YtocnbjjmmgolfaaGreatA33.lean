/- zH law: what Solve returns. -/
import Derived.Test.YtocnbjjmmgolfaaGreatA32
import Derived.Test.YtocnbjjmmgolfaaGreatA31
set_option linter.unusedSimpArgs false
set_option linter.unusedVariables false
set_option linter.unusedSectionVars false
namespace Go.Proofs.YtocnbjjmmgolfaaGreat
open Go Go.M Go.Proofs.C14
def zbc(L:List Bd)(n:Nat)(of c:List Int):Prop:=∃w,Cyc L n w∧(∀y,y∈c↔∃x∈w,y=of.getD x.toNat 0)∧c.Pairwise (·<·)
inductive SolR(P:List Pc)(F:List Fq)(K:Nat)(o:Option (List Pl×List Int×Int)):Prop
 |arg:okB P F=false→o=some ([],[],1)→SolR P F K o
 |turn (k:Nat) (r:List Nat):okB P F=true→first (eds F) (trn F) F.length=some (k,r)→o=some ([],(nts r).foldl Qw [(k:Int)],14)→SolR P F K o
 |xs (c:List Int):okB P F=true→first (eds F) (trn F) F.length=none→(¬ ∃y,zdE P (yH P.length F) F y)→zbc (Zq P (yH P.length F) F) P.length (kQ F F.length) c→o=some ([],c,14)→SolR P F K o
 |ys (c:List Int):okB P F=true→first (eds F) (trn F) F.length=none→(¬ ∃y,zdD P (yH P.length F) F y)→zbc (Yc P (yH P.length F) F) P.length (kQ F F.length) c→o=some ([],c,14)→SolR P F K o
 |ok (x y:List Rat):okB P F=true→first (eds F) (trn F) F.length=none→Gst (Zq P (yH P.length F) F) P.length (K*4) x→Gst (Yc P (yH P.length F) F) P.length (K*4) y→o=some (if vm P (xN P.length F) (plL P.length (xN P.length F) (yH P.length F) x y)=true then([],[],13)else(plL P.length (xN P.length F) (yH P.length F) x y,[],0))→SolR P F K o
theorem zam{L:List Bd}:∀{w:List Int} {a v:Nat} {s:Rat},IW L a w v s→∀x∈w,0≤x∧x<(L.length:Int)
 | [],_,_,_,_,x,hx=>nomatch hx
 |y::w,a,v,s,⟨i,e,hl,_,_,_,h⟩,x,hx=>by
  rcases aL.mp hx with rfl|hx
  ·omega
  ·exact zam h x hx
theorem len_O{P:List Pc}{T:List Q2}{F:List Fq}:(kQ F F.length).length=(Zq P T F).length∧(kQ F F.length).length=(Yc P T F).length:=by
 have key:∀i,i≤F.length→(kQ F i).length=((F.take i).flatMap (bdX P T)).length∧(kQ F i).length=((F.take i).flatMap (bdY P T)).length:=by
  intro i
  induction i with
  |zero=>intro _;exact⟨rfl,rfl⟩
  |succ i a=>
   intro hi
   obtain⟨h1,h2⟩:=a Oz
   have hi:i<F.length:=by omega
   have e1:(bdX P T F[i]).length=2*(many F[i]+1):=uf _
   have e2:(bdY P T F[i]).length=2*(many F[i]+1):=uf _
   rw[JR,aQ,dB,yz hi,List.flatMap_append,List.flatMap_append,aQ,aQ,zD hi]
   simp only[List.flatMap_cons,List.flatMap_nil,bM]
   omega
 have:=key F.length (aO _)
 rw[aY]at this
 exact this
theorem uV{P:List Pc}{F:List Fq}{K:Nat}(h:CaseOK P F K):SolR P F K (z26 P F):=by
 have e1:=uj h.fl h.tu rfl h.n.2 h.pc
 cases a:okB P F with
 |false=>
  refine .arg a ?_
  unfold okB at a
  rw[a,aD Y8]at e1
  unfold z26
  rw[e1,aA,aF Y8]
 |true=>
  have e:=a
  unfold okB at e
  rw[e,aF rfl]at e1
  have b:=JF h a
  cases hf:first (eds F) (trn F) F.length with
  |some x=>
   obtain⟨k,r⟩:=x
   refine .turn k r a hf ?_
   rw[jT hf]at b
   unfold z26
   rw[e1,aA,aD Y8,aD (by simp only[aB];have:=h.n.1;omega),b,aA,aF Y8]
  |none=>
   rw[gQ hf]at b
   have A:(yH P.length F).length=P.length:=by simp[yH]
   have B:∀t∈yH P.length F,V2 K 1 t:=fun t H=>by
    obtain⟨i,_,rfl⟩:=List.mem_map.mp H
    exact zfW h i
   obtain⟨q,E,G⟩:=Js h.k rfl h.pc A B h.fl (ok_f a)
   have C:∀{c:List Int} {L:List Bd},Cyc L P.length c→L.length=(kQ F F.length).length→∃c',zeS c (kQ F F.length) 14=some ([],c',14)∧zbc L P.length (kQ F F.length) c':=fun{c L} hc hl=>by
    obtain⟨⟨c0,c1⟩,v,s,j,hs⟩:=hc
    obtain⟨c',l,z⟩:=errZ_ok (of:=kQ F F.length) c0 (by have:=h.n.2;omega) (fun x hx=>by rw[←hl];exact zam j x hx) 14
    exact⟨c',l,c,⟨⟨c0,c1⟩,v,s,j,hs⟩,z⟩
   obtain⟨lX,lY⟩:=len_O (P:=P) (T:=yH P.length F) (F:=F)
   have pre:∀o,((z77 (P.length:Int) (Zq P (yH P.length F) F)).bind fun p=>(if (decide (p.2.2≠0))=true then(zeS p.2.1 (kQ F F.length) p.2.2)else((z77 (P.length:Int) (Yc P (yH P.length F) F)).bind fun d=>(if (decide (d.2.2≠0))=true then(zeS d.2.1 (kQ F F.length) d.2.2)else((z17 (P.length:Int) F).bind fun m=>(plcZ P m (yH P.length F) p.1 d.1))))))=o→z26 P F=o:=by
    rintro o rfl
    unfold z26
    rw[e1,aA,aD Y8,aD (by simp only[aB];have:=h.n.1;omega),b,aA,aD Y8]
    show((z68 P F (yH P.length F)).bind _)=_
    rw[q]
    rfl
   rcases zhf h.k h.n E with⟨x,ex,hx⟩|⟨f,w,u,j⟩
   ·rcases zhf h.k h.n G with⟨y,D,g⟩|⟨f,w,u,j⟩
    ·refine .ok x y a hf hx g (pre _ ?_)
     have ro:=JT a
     have I:=ro.len
     rw[ex,aA,aD Y8,D,aA,aD Y8,z17_eq h a,aA]
     refine plcZ_ok h.k h.n.2 rfl h.pc I (fun i hi=>?_) A B hx.len g.len hx.num g.num
     have:=ro.le i hi
     rw[zD (show i<(xN P.length F).length by omega)]at this
     exact⟨this.1,by omega⟩
    ·obtain⟨c,l,hc⟩:=C j Oz
     refine .ys c a hf (fun⟨y,g⟩=>f ⟨y,sat_Y.mpr g⟩) hc (pre _ ?_)
     rw[ex,aA,aD Y8,u,aA,aF Y8]
     exact l
   ·obtain⟨c,l,hc⟩:=C j Oz
    refine .xs c a hf (fun⟨y,g⟩=>f ⟨y,sat_X.mpr g⟩) hc (pre _ ?_)
    rw[u,aA,aF Y8]
    exact l
def AgF(F:List Fq)(τ:Int→Q2):Prop:=(∀v,Un (τ v))∧∀f∈F,τ f.2.1=aft (τ f.1) f.2.2.2.2.2.1
def UnF(F:List Fq):Prop:=∀f∈F,Un f.2.2.2.2.2.1
theorem gw{F:List Fq}{k:Nat}(hk:k<F.length):eds F k=(F[k].1,F[k].2.1)∧trn F k=F[k].2.2.2.2.2.1:=by
 unfold eds trn
 rw[zD hk]
 exact⟨rfl,rfl⟩
theorem agf_iff{F:List Fq}{τ:Int→Q2}:AgF F τ↔Agr (eds F) (trn F) F.length τ:=by
 constructor
 ·rintro⟨h1,h2⟩
  refine⟨h1,fun k hk=>?_⟩
  obtain⟨e1,e2⟩:=gw hk
  rw[e1,e2]
  exact h2 _ (aK hk)
 ·rintro⟨h1,h2⟩
  refine⟨h1,fun f hf=>?_⟩
  obtain⟨k,hk,rfl⟩:=List.getElem_of_mem hf
  obtain⟨e1,e2⟩:=gw hk
  have:=h2 k hk
  rw[e1,e2]at this
  exact this
theorem zbo{F:List Fq}(hU:UnF F):∀k,k<F.length→Un (trn F k):=fun k hk=>by
 rw[(gw hk).2]
 exact hU _ (aK hk)
theorem vr{F:List Fq}(hU:UnF F):first (eds F) (trn F) F.length=none↔∃τ,AgF F τ:=by
 constructor
 ·intro h
  obtain⟨τ,hτ⟩:=Xr (zbo hU) h
  exact⟨τ,agf_iff.mpr hτ⟩
 ·rintro⟨τ,hτ⟩
  exact Jv (zbo hU) (agf_iff.mp hτ)
theorem AgF.sub{F F':List Fq}{τ:Int→Q2}(h:AgF F τ)(hs:∀f∈F',f∈F):AgF F' τ:=⟨h.1,fun f hf=>h.2 f (hs f hf)⟩
theorem UnF.sub{F F':List Fq}(h:UnF F)(hs:∀f∈F',f∈F):UnF F':=fun f hf=>h f (hs f hf)
theorem CaseOK.un{P:List Pc}{F:List Fq}{K:Nat}(h:CaseOK P F K):UnF F:=fun f hf=>(h.ft f hf).tn.one
section
variable{n:Nat}{F F':List Fq}{τ:Int→Q2}(hU:UnF F)(hA:AgF F τ)(hE:∀f∈F,0≤f.1∧f.1<f.2.1∧f.2.1<(n:Int))
include hE in
theorem zge:RootsOf (eds F) n (yG (eds F) F.length) (xN n F):=u7 fun k hk=>by
 rw[(gw hk).1];exact hE _ (aK hk)
include hU hA hE in
theorem gR{i:Nat}(hi:i<n):xi n F i=aft (bck (τ ((xN n F).getD i 0))) (τ i):=by
 have ro:=zge hE
 have b:=zbH (xk _) ro hi
 unfold xi
 obtain⟨r,a⟩:=Option.isSome_iff_exists.mp b
 rw[a]
 exact XJ (zbo hU) (agf_iff.mp hA) (fun k hk=>qo _ k hk) a
include hE in
theorem Kz{f:Fq}(hf:f∈F):(xN n F).getD f.1.toNat 0=(xN n F).getD f.2.1.toNat 0:=by
 have ro:=zge hE
 obtain⟨a0,ab,bn⟩:=hE f hf
 obtain⟨k,hk,rfl⟩:=List.getElem_of_mem hf
 refine(ro.same _ _ Oz Oz).mp ?_
 have:=Kl (e:=eds F) hk
 rw[(gw hk).1]at this
 rw[show((F[k].1.toNat:Nat):Int)=F[k].1 by omega,show((F[k].2.1.toNat:Nat):Int)=F[k].2.1 by omega]
 exact this
include hU hA hE in
theorem Kf{f:Fq}(hf:f∈F):xi n F f.2.1.toNat=aft (xi n F f.1.toNat) f.2.2.2.2.2.1:=by
 obtain⟨a0,ab,bn⟩:=hE f hf
 rw[gR hU hA hE (i:=f.2.1.toNat) Oz,gR hU hA hE (i:=f.1.toNat) Oz,←Kz hE hf,show((f.1.toNat:Nat):Int)=f.1 by omega,show((f.2.1.toNat:Nat):Int)=f.2.1 by omega,yu,hA.2 f hf]
include hU hA hE in
theorem turn_un{i:Nat}(hi:i<n):Un (xi n F i):=by
 rw[gR hU hA hE hi]
 exact(hA.1 _).bck.aft (hA.1 _)
end
def Qj(P:List Pc)(F:List Fq):Prop:=(∃τ,AgF F τ)∧(∃y,zdE P (yH P.length F) F y)∧∃y,zdD P (yH P.length F) F y
theorem zaa{P P':List Pc}{F F':List Fq}(a:P'.length=P.length)(hs:∀f∈F',f∈F)(h:okB P F=true):okB P' F'=true:=by
 unfold okB jb at h ⊢
 rw[aG,List.all_eq_true,List.all_eq_true]at h ⊢
 rw[a]
 exact⟨fun f hf=>h.1 f (hs f hf),fun f hf=>h.2 f (hs f hf)⟩
inductive SolG(P:List Pc)(F:List Fq)(K:Nat)(o:Option (List Pl×List Int×Int)):Prop
 |arg:okB P F=false→o=some ([],[],1)→SolG P F K o
 |bad (c:List Int):okB P F=true→¬Qj P F→o=some ([],c,14)→SolG P F K o
 |ok (x y:List Rat):okB P F=true→Qj P F→Gst (Zq P (yH P.length F) F) P.length (K*4) x→Gst (Yc P (yH P.length F) F) P.length (K*4) y→o=some (if vm P (xN P.length F) (plL P.length (xN P.length F) (yH P.length F) x y)=true then([],[],13)else(plL P.length (xN P.length F) (yH P.length F) x y,[],0))→SolG P F K o
theorem JQ{P:List Pc}{F:List Fq}{K:Nat}(h:CaseOK P F K):SolG P F K (z26 P F):=by
 have e:=vr h.un
 cases uV h with
 |arg h1 h2=>exact .arg h1 h2
 |turn k r h1 h2 a=>exact .bad _ h1 (fun g=>by rw[e.mpr g.1]at h2;cases h2) a
 |xs c h1 h2 a d b=>exact .bad _ h1 (fun g=>a g.2.1) b
 |ys c h1 h2 a d b=>exact .bad _ h1 (fun g=>a g.2.2) b
 |ok x y h1 h2 a d b=>exact .ok x y h1 ⟨e.mp h2,⟨_,sat_X.mp a.sat⟩,⟨_,sat_Y.mp d.sat⟩⟩ a d b
section
variable{P:List Pc}{F F':List Fq}{K K':Nat}(h:CaseOK P F K)(h':CaseOK P F' K')
include h in
theorem plL_pl{R:List Int}{tr:List Nat}(d:RootsOf (eds F) P.length tr R){x y:List Rat}(b:∀v,v<P.length→QV (K*4) 180 (fx x v))(c:∀v,v<P.length→QV (K*4) 180 (fx y v)):∀v∈plL P.length R (yH P.length F) x y,PlOK K v:=by
 intro v hv
 obtain⟨i,hi,rfl⟩:=List.mem_map.mp hv
 have hi:=dT.mp hi
 have hr:=d.le i hi
 have a:(R.getD i 0).toNat<P.length:=by omega
 refine⟨?_,(b i hi).sub (b _ a),(c i hi).sub (c _ a)⟩
 show V2 K 1 ((yH P.length F).getD i (0,0))
 rw[zD (show i<(yH P.length F).length by simp[yH];omega)]
 unfold yH
 rw[List.getElem_map]
 exact zfW h _
end
section
variable{P P':List Pc}{F:List Fq}{K:Nat}
end
def Qv(t:Q2):Prop:=Un t∧(t.1=0∨t.2=0)
theorem sq_one{x:Rat}(h:x*x=1):x=1∨x = -1:=by
 have:(x-1)*(x+1)=0:=by grind
 rcases Rat.mul_eq_zero.mp this with g|g
 ·left;grind
 ·right;grind
theorem Qv.qu{t:Q2}(h:Qv t):Qu t:=by
 obtain⟨x,y⟩:=t
 obtain⟨h1,h2⟩:=h
 unfold Un at h1
 unfold Qu
 dsimp only at h1 h2
 rcases h2 with rfl|rfl
 ·rcases sq_one (x:=y) (by grind)with rfl|rfl
  ·exact .inr (.inr (.inl rfl))
  ·exact .inr (.inr (.inr rfl))
 ·rcases sq_one (x:=x) (by grind)with rfl|rfl
  ·exact .inl rfl
  ·exact .inr (.inl rfl)
theorem Qv.aft{a b:Q2}(h:Qv a)(g:Qv b):Qv (aft a b):=by
 refine⟨h.1.aft g.1,?_⟩
 have h2:=h.2
 have g2:=g.2
 unfold Go.Proofs.C14.aft
 dsimp only
 rcases h2 with h2|h2<;>rcases g2 with g2|g2<;>rw[h2,g2]
 ·right;grind
 ·left;grind
 ·left;grind
 ·right;grind
theorem Qv.bck{a:Q2}(h:Qv a):Qv (bck a):=by
 refine⟨h.1.bck,?_⟩
 unfold Go.Proofs.C14.bck
 dsimp only
 rcases h.2 with h2|h2<;>rw[h2]
 ·exact .inl rfl
 ·exact .inr Rat.neg_zero
theorem zbQ:Qv zX:=⟨uU,.inr rfl⟩
theorem zdt{e:Nat→Int×Int}{T:Nat→Q2}:∀{r:List Nat} {v:Int} {t:Q2},(∀k∈r,Qv (T k))→Qv t→Qv (xJ e T r v t)
 | [],_,_,_,h=>h
 |k::r,v,t,a,h=>by
  rw[xJ]
  refine zdt (fun j hj=>a j (aN _ hj)) (h.aft ?_)
  have hk:=a k (aP ..)
  split
  ·exact hk
  ·exact hk.bck
section
variable{P:List Pc}{F F':List Fq}{K K':Nat}(hq:∀f∈F,Qv f.2.2.2.2.2.1)
include hq
theorem zfX(n i:Nat):Qv (xi n F i):=by
 unfold xi
 cases b:way (eds F) (yG (eds F) F.length) ((xN n F).getD i 0) i with
 |none=>exact zbQ
 |some r=>
  refine zdt (fun k hk=>?_) zbQ
  have a:=qo _ k ((wm (xk _) b).2 k hk)
  rw[(gw a).2]
  exact hq _ (aK a)
end
def PcB(p:Pc):Prop:=PcOK p∧QV 4 1 p.2.2.2.2.2.1
structure BoxOK(P:List Pc)(F:List Fq)(A:List Pl):Prop where
 n:2≤P.length∧P.length≤4
 pc:∀p∈P,PcB p
 fl:0<F.length∧F.length≤4
 ft:∀f∈F,FitOK f∧Tn 1 f.2.2.2.2.2.1
 al:A.length=P.length
 pl:∀v∈A,V2 1 1 v.1∧V2 1 8 v.2
theorem zeB:∀{F:List Fq},(∀f∈F,Tn 1 f.2.2.2.2.2.1)→KL F 1
 | [],_=>.nil
 |f::F,h=>by
  obtain⟨d,hd,hx⟩:=(h f (aP ..)).ex
  obtain rfl:d=1:=by have:=hx.1;omega
  exact .cons (K:=1) hx (zeB fun g hg=>h g (aN _ hg))
theorem V2.one{K B:Nat}{v:Rat×Rat}(h:V2 1 B v):V2 K B v:=by
 have:=h.up (k:=K)
 rw[dQ]at this
 exact this
def qtI(p:Int×Int):Int×Int:=(0-p.2,p.1)
def shI(v p:Int×Int):Int×Int:=(p.1+v.1,p.2+v.2)
def Qp:Nat→Int×Int→Int×Int
 |0,p=>p
 |n+1,p=>qtI (Qp n p)
def mvI(n:Nat)(v p:Int×Int):Int×Int:=shI v (Qp n p)
section
variable{a b c d v:Int×Int}
theorem qt_inv:zl (qtI a) (qtI b) (qtI c)=zl a b c∧yM (xe (qtI a) (qtI c)) (xe (qtI b) (qtI c))=yM (xe a c) (xe b c)∧k7 (qtI a) (qtI b) (qtI c) (qtI d)=k7 a b c d:=by
 unfold zl k7 yI yM xe qtI
 refine⟨?_,?_,?_⟩<;>grind
theorem sh_inv:zl (shI v a) (shI v b) (shI v c)=zl a b c∧yM (xe (shI v a) (shI v c)) (xe (shI v b) (shI v c))=yM (xe a c) (xe b c)∧k7 (shI v a) (shI v b) (shI v c) (shI v d)=k7 a b c d:=by
 unfold zl k7 yI yM xe shI
 refine⟨?_,?_,?_⟩<;>grind
end
theorem zbS{f:Int×Int→Int×Int}(h:∀{a b c d:Int×Int},zl (f a) (f b) (f c)=zl a b c∧yM (xe (f a) (f c)) (xe (f b) (f c))=yM (xe a c) (xe b c)∧k7 (f a) (f b) (f c) (f d)=k7 a b c d){a b c d:Int×Int}:jz (f a) (f b) (f c) (f d)=jz a b c d:=by
 have hs:∀{a b c:Int×Int},zl (f a) (f b) (f c)=zl a b c:=fun{a b c}=>(@h a b c a).1
 have hd:∀{a b c:Int×Int},yM (xe (f a) (f c)) (xe (f b) (f c))=yM (xe a c) (xe b c):=fun{a b c}=>(@h a b c a).2.1
 have ha:k7 (f a) (f b) (f c) (f d)=k7 a b c d:=h.2.2
 rw[←quad_eq,←quad_eq]
 unfold KD vy onI
 rw[ha]
 simp only[hs,hd]
theorem zbR:∀(n:Nat) {a b c d:Int×Int},jz (Qp n a) (Qp n b) (Qp n c) (Qp n d)=jz a b c d
 |0,_,_,_,_=>rfl
 |n+1,a,b,c,d=>(zbS (f:=qtI) qt_inv).trans (zbR n)
theorem quad_mv{n:Nat}{v a b c d:Int×Int}:jz (mvI n v a) (mvI n v b) (mvI n v c) (mvI n v d)=jz a b c d:=(zbS (f:=shI v) sh_inv).trans (zbR n)
theorem JW{N:Nat}:∀(n:Nat) {p:Int×Int},Nr N p→Nr N (Qp n p)
 |0,_,h=>h
 |n+1,p,h=>by
  obtain⟨h1,h2⟩:=JW n h
  exact⟨by show(0-_:Int).natAbs≤N;omega,h1⟩
theorem z34_ok{p:Int×Int}(h:Nr 8 p){k:Nat}(hk:k<4):z34 p (k:Int)=some (Qp k p):=by
 unfold z34
 refine zk k (fun i x=>x=((i:Int),Qp i p)) (fun o=>o=_) Oz rfl ?_ ?_
 ·rintro i x g hi rfl hg
  have e:=JW i h
  have h2:=e.2
  rw[aF (zM hi)]
  show(i64 (0-(Qp i p).2)).bind _=_
  rw[xh Oz,aA,zp (show i<100000 by omega),aA]
  exact hg _ rfl
 ·rintro x g rfl
  rw[aD Y8]
def Qn(N:Nat)(l:List (Int×Int)):Prop:=∃a b c d,l=[a,b,c,d]∧Nr N a∧Nr N b∧Nr N c∧Nr N d
def Qd(N:Nat)(l:List (Int×Int)):Prop:=∃a b c d,l=[a,b,c,d]∧(Nr N a∧Nr N b∧Nr N c∧Nr N d)∧jz a b c d=true
theorem z33_ok{Q:List (List (Int×Int))}(hl:Q.length<12)(h:∀q∈Q,Qn 8 q):∃v,z33 Q=some v∧(v=true→∀q∈Q,Qd 8 q):=by
 unfold z33
 refine zk Q.length (fun i x=>x=(i:Int)∧∀q∈Q.take i,Qd 8 q) (fun o=>∃v,o=some v∧(v=true→∀q∈Q,Qd 8 q)) hl ⟨rfl,by simp⟩ ?_ ?_
 ·rintro i x g hi ⟨rfl,n⟩ hg
  obtain⟨a,b,c,d,e,ha,hb,hc,hd⟩:=h _ (aK hi)
  have j:=ha.le (M:=1000) Uz
  have k:=hb.le (M:=1000) Uz
  have l:=hc.le (M:=1000) Uz
  have m:=hd.le (M:=1000) Uz
  rw[aF (zM hi),zt hi,aA,zfL (p:=(0,0,Q[i],[],[],0,0,0,0,0)) e j k l m,aA,zfM j k l m,aA]
  cases hv:jz a b c d
  ·exact⟨false,rfl,fun q=>nomatch q⟩
  ·rw[aD Uz,zp (show i<100000 by omega),aA]
   refine hg _ ⟨rfl,fun q f=>?_⟩
   rw[yz hi]at f
   rcases aU.mp f with f|f
   ·exact n q f
   ·rw[aV.mp f]
    exact⟨a,b,c,d,e,⟨ha,hb,hc,hd⟩,hv⟩
 ·rintro x g ⟨rfl,n⟩
  rw[aD Y8]
  rw[aY]at n
  exact⟨true,rfl,fun _=>n⟩
theorem zfe{w h x y b r t l:Int}(hw:4≤w∧w≤8)(hh:4≤h∧h≤8)(hx:0≤x∧x≤8)(j:0≤y∧y≤8)(hb:0≤b∧b≤8)(m:0≤r∧r≤8)(n:0≤t∧t≤8)(hl:0≤l∧l≤8):∃Q,z32 w h (x,y) b r t l=some Q∧Q.length=4∧∀q∈Q,Qn 8 q:=by
 have e:∀{p q:Int},0≤p∧p≤8→0≤q∧q≤8→Nr 8 (p,q):=fun h g=>⟨by show Int.natAbs _≤8;omega,by show Int.natAbs _≤8;omega⟩
 have z:(0:Int)≤0∧(0:Int)≤8:=by omega
 have i:0≤w∧w≤8:=by omega
 have f:0≤h∧h≤8:=by omega
 refine⟨_,rfl,rfl,?_⟩
 intro q k
 simp only[aL,cH,or_false]at k
 rcases k with rfl|rfl|rfl|rfl
 ·exact⟨_,_,_,_,rfl,e z z,e hb z,e hx j,e z hl⟩
 ·exact⟨_,_,_,_,rfl,e hb z,e i z,e i m,e hx j⟩
 ·exact⟨_,_,_,_,rfl,e hx j,e i m,e i f,e n f⟩
 ·exact⟨_,_,_,_,rfl,e z hl,e hx j,e n f,e z f⟩
theorem corners4:∃Q,z32 4 4 (2,2) 2 2 2 2=some Q∧Q.length=4∧∀q∈Q,Qd 8 q:=by
 refine⟨_,rfl,rfl,?_⟩
 intro q e
 simp only[aL,cH,or_false]at e
 rcases e with rfl|rfl|rfl|rfl<;>exact⟨_,_,_,_,rfl,⟨by unfold Nr;decide,by unfold Nr;decide,by unfold Nr;decide,by unfold Nr;decide⟩,by decide⟩
theorem mv_qd{q:List (Int×Int)}(h:Qd 8 q){n:Nat}{v:Int×Int}(hv:Nr 4 v):QuadOK (q.map (mvI n v)):=by
 obtain⟨a,b,c,d,rfl,⟨ha,hb,hc,hd⟩,f⟩:=h
 have e:∀{p:Int×Int},Nr 8 p→Nr 12 (mvI n v p):=fun hp=>by
  obtain⟨h1,h2⟩:=JW n hp
  obtain⟨h3,h4⟩:=hv
  exact⟨by show(_+_:Int).natAbs≤12;omega,by show(_+_:Int).natAbs≤12;omega⟩
 exact⟨_,_,_,_,rfl,⟨e ha,e hb,e hc,e hd⟩,quad_mv.trans f⟩
theorem ZD{t:Rat×Rat}(h:Tn 1 t):V2 1 1 t:=by
 obtain⟨d,x,y,h0,hd,hs,e1,e2⟩:=h
 obtain rfl:d=1:=by omega
 have hx:=XN Uz hs
 have a:=XN (x:=y) (y:=x) (d:=((1:Nat):Int)) Uz (by rw[←hs];omega)
 have key:∀{z:Int},z.natAbs≤1→QV 1 1 (mkRat z 1):=fun{z} hz=>by
  refine⟨z,?_,by omega⟩
  rw[Rat.mkRat_eq_div]
  exact Rat.div_mul_cancel Uz
 exact⟨by rw[e1];exact key hx,by rw[e2];exact key a⟩
theorem tn_still':Tn 1 (qI 1,0):=tn_still
structure Inv(i:Nat)(P:List Pc)(A:List Pl):Prop where
 pl:P.length=i
 pc:∀p∈P,PcB p
 al:A.length=i
 at':∀v∈A,Tn 1 v.1∧V2 1 8 v.2
theorem JN{r:Int}(h:0≤r∧r<3)(d:Int)(hd:d=2∨d=4):ofG r d=some (Rat.divInt r d)∧0≤Rat.divInt r d:=by
 refine⟨Xn Oz Oz,?_⟩
 have e:r=0∨r=1∨r=2:=by omega
 rcases e with rfl|rfl|rfl<;>rcases hd with rfl|rfl<;>decide
theorem zbZ{n:Int}{l:List (Int×Int)}(h:l.length=4):z35 n l=some (n,0,l,[false,false,false,false],[0,0,0,0],0,qI 1,qI 1,qI 100,Rat.divInt 1 2):=by
 have c:ofG 1 1=some (qI 1):=ofI Uz
 have a:ofG 100 1=some (qI 100):=ofI Uz
 have b:app ([]:List (Int×Int)) l=some l:=by rw[yF (by simp;omega)];rfl
 unfold z35
 rw[c,aA,b,aA,a,aA,zep,aA,h,aF ⟨by decide,rfl,by decide⟩,aF ⟨by decide,rfl,by decide⟩]
 rfl
theorem piece_ok{n:Int}{l:List (Int×Int)}(hn:0≤n∧n≤999)(hl:QuadOK l){r s u:Int}(c:0≤r∧r<3)(hs:0≤s∧s<3)(hu:0≤u∧u<3) :
 PcB (n,0,l,[false,false,false,false],[0,0,0,0],Rat.divInt r 4,qI (1+s),qI (1+s)+Rat.divInt u 2,qI 100,Rat.divInt 1 2):=by
 have b:QV 4 1 (Rat.divInt r 4):=Vy (q:=4) Uz 1 rfl Oz
 refine⟨?_,b⟩
 have h2:=(JN hu 2 (.inl rfl)).2
 have a:QV 2 3 (qI (1+s)):=(QV.int (n:=1+s) (B:=3) Oz).up (k:=2)
 have l2:QV 2 1 (Rat.divInt u 2):=Vy (q:=2) Uz 1 rfl Oz
 refine⟨hl,hn,⟨Int.le_refl _,show(0:Int)≤4 by decide⟩,rfl,rfl,⟨b.le Uz,(JN c 4 (.inr rfl)).2⟩,⟨a.le Uz,?_⟩,⟨(a.add l2).le Uz,?_⟩,rfl,rfl⟩
 ·have:=qI_lt (show(0:Int)<1+s by omega)
  exact this
 ·show qI (1+s)≤qI (1+s)+Rat.divInt u 2
  grind
section
variable{l:List Int}(hl:L64 l){Q:List (List (Int×Int))}(hQ:Q.length=4)(hq:∀q∈Q,Qd 8 q){i:Nat}(hi:i<4){P:List Pc}{A:List Pl}(hI:Inv i P A){g:Int×List Pc×List Pl→Option (List Pc×List Fq×List Pl)}{Post:Option (List Pc×List Fq×List Pl)→Prop}(hg:∀P' A',Inv (i+1) P' A'→Post (g (((i+1:Nat):Int),P',A')))
include hl hQ hq hi hI hg
theorem bk1_ok{r:Nat}(U:r<4){u w:Int}(hv:Nr 4 (u,w)):Post (bk1 l Q g ((i:Int),P,A) (r:Int) u w):=by
 have o:i<Q.length:=by omega
 have s:=hq _ (aK o)
 have h:=mv_qd s (n:=r) hv
 obtain⟨a,b,c,d,f,⟨G,H,I,J⟩,-⟩:=s
 have hlen:Q[i].length=4:=by rw[f];rfl
 have D:∀p∈Q[i],Nr 8 p:=by
  rw[f]
  intro p hp
  simp only[aL,cH,or_false]at hp
  rcases hp with rfl|rfl|rfl|rfl
  ·exact G
  ·exact H
  ·exact I
  ·exact J
 clear f G H I J a b c d
 have C:=zt o
 generalize Q[i]=q at *
 unfold bk1
 refine zk 4 (fun j x=>x=((j:Int),(q.take j).map (mvI r (u,w)))) Post Oz rfl ?_ ?_
 ·rintro j x k hj rfl hk
  have e:j<q.length:=by omega
  have K:=D _ (aK e)
  have Y:=JW r K
  obtain⟨r1,r2⟩:=Y
  obtain⟨v1,v2⟩:=hv
  rw[aF (aH (by show(j:Int)<4;omega)),C,aA]
  show(idx q (j:Int)).bind _ |> Post
  rw[zt e,aA,z34_ok K U,aA,xh (show((Qp r q[j]).1+u).natAbs<_ by have:u.natAbs≤4:=v1;omega),aA,xh (show((Qp r q[j]).2+w).natAbs<_ by have:w.natAbs≤4:=v2;omega),aA]
  rw[yF (by simp;omega),aA,zp (show j<100000 by omega),aA]
  refine hk _ ?_
  rw[yz e,List.map_append]
  rfl
 ·rintro x k rfl
  rw[dC Oz]
  obtain⟨t1,e1,g1⟩:=v8 hl (i:=21+(i:Int)) (m:=3) Oz Uz Uz
  obtain⟨t2,e2,g2⟩:=v8 hl (i:=25+(i:Int)) (m:=3) Oz Uz Uz
  obtain⟨y,O,F⟩:=v8 hl (i:=29+(i:Int)) (m:=3) Oz Uz Uz
  have pc:=piece_ok (n:=10+(i:Int)) Oz h g1 g2 F
  have R:=(JN g1 4 (.inr rfl)).1
  have T:=(JN F 2 (.inl rfl)).1
  have S:ofG (1+t2) 1=some (qI (1+t2)):=ofI Oz
  have W:QV 2 3 (qI (1+t2)):=(QV.int (n:=1+t2) (B:=3) Oz).up (k:=2)
  have l2:QV 2 1 (Rat.divInt y 2):=Vy (q:=2) Uz 1 rfl Oz
  have N:=xr (W.sm ⟨by decide,by decide⟩) (l2.sm ⟨by decide,by decide⟩)
  have:=hI.pl
  have:=hI.al
  rw[aD (show ¬(decide (((4:Nat):Int)<4)=true)by decide),xh (show(10+(i:Int)).natAbs<_ by omega),aA]
  rw[zbZ (n:=10+(i:Int)) (l:=q.map (mvI r (u,w))) (by rw[bI];exact hlen),aA,xh (show(21+(i:Int)).natAbs<_ by omega),aA,e1,aA,R,aA,xh (show(25+(i:Int)).natAbs<_ by omega),aA,e2,aA,xh (show(1+t2).natAbs<_ by omega),aA,S,aA,xh (show(29+(i:Int)).natAbs<_ by omega),aA,O,aA,T,aA,N,aA]
  show(app P _).bind _ |> Post
  rw[yF (by simp;omega),aA,still_eq.2,aA]
  have V:∀p∈P++[(10+(i:Int),0,q.map (mvI r (u,w)),[false,false,false,false],[0,0,0,0],Rat.divInt t1 4,qI (1+t2),qI (1+t2)+Rat.divInt y 2,qI 100,Rat.divInt 1 2)],PcB p:=fun p hp=>by
   rcases aU.mp hp with hp|hp
   ·exact hI.pc p hp
   ·rw[aV.mp hp];exact pc
  have X:(P++[(10+(i:Int),0,q.map (mvI r (u,w)),[false,false,false,false],[0,0,0,0],Rat.divInt t1 4,qI (1+t2),qI (1+t2)+Rat.divInt y 2,qI 100,Rat.divInt 1 2)]).length=i+1:=by simp;omega
  generalize P++[(10+(i:Int),0,q.map (mvI r (u,w)),[false,false,false,false],[0,0,0,0],Rat.divInt t1 4,qI (1+t2),qI (1+t2)+Rat.divInt y 2,qI 100,Rat.divInt 1 2)]=P' at *
  have m4:∃m:Nat,m<4∧Int.tmod (4-(r:Int)) 4=(m:Int):=by
   have:r=0∨r=1∨r=2∨r=3:=by omega
   rcases this with rfl|rfl|rfl|rfl
   ·exact⟨0,by decide,by decide⟩
   ·exact⟨3,by decide,by decide⟩
   ·exact⟨2,by decide,by decide⟩
   ·exact⟨1,by decide,by decide⟩
  obtain⟨m,hm,E⟩:=m4
  refine zk m (fun j x=>x.1=(j:Int)∧Tn 1 x.2) Post Oz ⟨rfl,tn_still'⟩ ?_ ?_
  ·rintro j ⟨x,Z,ts⟩ k hj ⟨rfl,t⟩ hk
   have z:=ZD t
   rw[xh (show(4-(r:Int)).natAbs<_ by omega),aA,aD Uz,E,aF (zM hj),kL (z.2.sm ⟨by decide,by decide⟩),aA,zp (show j<100000 by omega),aA]
   exact hk _ ⟨rfl,t.quarter⟩
  ·rintro⟨x,Z,ts⟩ k ⟨rfl,t⟩
   have z:=ZD t
   have pv:=uE hv
   have s1:SB 1 8:=⟨by decide,by decide⟩
   have ro:=Xf z pv ⟨by decide,by decide⟩ ⟨by decide,by decide⟩ ⟨by decide,by decide⟩
   have L:=V2.rot z pv
   have zv:V2 1 8 (0,0):=⟨QV.int (n:=0) Uz,QV.int (n:=0) Uz⟩
   have z0:V2 1 0 (0,0):=⟨QV.int (n:=0) Uz,QV.int (n:=0) Uz⟩
   rw[xh (show(4-(r:Int)).natAbs<_ by omega),aA,aD Uz,E,aD Y8,wP (hv.le (M:=10000) Uz),aA]
   rw[Jy ro,aA,z39_v zv L s1 s1,aA]
   show(app A _).bind _ |> Post
   rw[yF (by simp;omega),aA]
   show(i64 ((i:Int)+1)).bind _ |> Post
   rw[zp (show i<100000 by omega),aA]
   refine hg _ _ ⟨X,V,by simp;omega,fun v hv=>?_⟩
   rcases aU.mp hv with hv|hv
   ·exact hI.at' v hv
   ·rw[aV.mp hv]
    exact⟨t,z0.sub L⟩
end
theorem bk0_eq{l:List Int}{Q:List (List (Int×Int))}{g:Int×List Pc×List Pl→Option (List Pc×List Fq×List Pl)}{x:Int×List Pc×List Pl}:bk0 l Q g x=bk1 l Q g x 0 0 0:=by
 have e:i64 (4-0)=some 4:=xh Uz
 unfold bk0 bk1
 simp only[e,aA]
theorem strR_ok{a b:Pc}{f:Fq}(la:a.2.2.1.length=4)(lb:b.2.2.1.length=4):z171 a b f=some (Ko f):=by
 unfold z171
 rw[la,lb]
 simp only[show((4:Nat):Int)=4 from rfl]
 by_cases c:Ko f=true
 ·have c':=dE c
  rw[c,aF (aH c'.1.1),aF (aH c'.1.2),aF (aH c'.2.1.1),aF (aH c'.2.1.2),aF (aH c'.2.2.1),aF (aH c'.2.2.2),aH c'.2.2.2]
 ·have c':¬((0≤f.2.2.1∧f.2.2.1<4)∧(0≤f.2.2.2.1∧f.2.2.2.1<4)∧(1≤f.2.2.2.2.1∧f.2.2.2.2.1<4)):=fun q=>c (aH q)
  rw[show Ko f=false by simpa using c]
  repeat' split
  all_goals (try rfl)
  all_goals (rename_i h1 h2 d e g h;simp only[aB]at *;exact absurd ⟨⟨h1,h2⟩,⟨d,e⟩,g,h⟩ c')
theorem zdm{a:Int}(h0 : -3≤a)(h1:a≤7):∃j:Nat,j<4∧z172 a 4=some (j:Int):=by
 have e:a = -3∨a = -2∨a = -1∨a=0∨a=1∨a=2∨a=3∨a=4∨a=5∨a=6∨a=7:=by omega
 have q:∀{a:Int} (j:Nat),(Int.tmod a 4+4).natAbs<1000→Int.tmod (Int.tmod a 4+4) 4=(j:Int)→j<4→∃j:Nat,j<4∧z172 a 4=some (j:Int):=fun j h g k=>⟨j,k,by
  unfold z172
  rw[aD Uz,xh Oz,aA,aD Uz,g]⟩
 rcases e with rfl|rfl|rfl|rfl|rfl|rfl|rfl|rfl|rfl|rfl|rfl
 ·exact q 1 Uz Uz Uz
 ·exact q 2 Uz Uz Uz
 ·exact q 3 Uz Uz Uz
 ·exact q 0 Uz Uz Uz
 ·exact q 1 Uz Uz Uz
 ·exact q 2 Uz Uz Uz
 ·exact q 3 Uz Uz Uz
 ·exact q 0 Uz Uz Uz
 ·exact q 1 Uz Uz Uz
 ·exact q 2 Uz Uz Uz
 ·exact q 3 Uz Uz Uz
theorem if_tt{ρ:Type}{a b:ρ}:(if true=true then a else b)=a:=aF rfl
theorem if_ff{ρ:Type}{a b:ρ}:(if false=true then a else b)=b:=aD Uz
abbrev AgR:=Option ((Rat×Rat)×(Rat×Rat)×Bool)
def AgOK(o:AgR):Prop:=∃lo hi b,o=some (lo,hi,b)∧V2 4 60 lo∧V2 4 60 hi
theorem agree_ok{i j:Pc}(G:PcOK i)(H:PcOK j){x y ea eb:Int}{t:Rat×Rat}(I:Tn 1 t)(ha:0≤ea∧ea<4)(hb:0≤eb∧eb<4):AgOK (jQ i j (x,y,ea,eb,1,t,(0,0),0,0)):=by
 obtain⟨la,ra,-,na,-⟩:=jX G
 obtain⟨lb,rb,-,nb,-⟩:=jX H
 have st:z171 i j (x,y,ea,eb,1,t,(0,0),0,0)=some true:=by
  rw[strR_ok la lb]
  exact congrArg some (aH ⟨ha,hb,show(1:Int)≤1 by decide,show(1:Int)<4 by decide⟩)
 have M:=ZD I
 have ut:z54 t=some true:=by
  obtain⟨d,h1,h2,h⟩:=tn_qv I Uz
  rw[(JI h1 ⟨h2.1.le Uz,h2.2.le Uz⟩).2,h]
 have u:SB 4 2:=⟨by decide,by decide⟩
 have p:SB 4 4:=⟨by decide,by decide⟩
 have f:SB 4 60:=⟨by decide,by decide⟩
 have s40:SB 4 40:=⟨by decide,by decide⟩
 have he:=G.tol.1.add H.tol.1
 have S:=xr (G.tol.1.sm u) (H.tol.1.sm u)
 generalize i.2.2.2.2.2.1+j.2.2.2.2.2.1=e at *
 have q:QV 4 60 0:=(QV.int (n:=0) (B:=60) Uz).up (k:=4)
 unfold jQ
 rw[st,aA,aD Uz]
 show(z54 t).bind _ |> AgOK
 rw[ut,aA,aD Uz,ra,aA,rb,aA,S,aA]
 have le:(i.2.2.1.map ptQ).length=4:=by rw[bI];exact la
 have Z:(j.2.2.1.map ptQ).length=4:=by rw[bI];exact lb
 refine zk 2 (fun k x=>x.1=(k:Int)∧QV 4 60 x.2.1∧QV 4 60 x.2.2.1∧QV 4 60 x.2.2.2.1∧QV 4 60 x.2.2.2.2) AgOK Oz ⟨rfl,q,q,q,q⟩ ?_ ?_
 ·rintro k ⟨x0,v,x2,w,z⟩ g hk ⟨rfl,h1,h2,h,l⟩ hg
  have h1:QV 4 60 v:=h1
  have h2:QV 4 60 x2:=h2
  have h:QV 4 60 w:=h
  have l:QV 4 60 z:=l
  obtain⟨A,q1,q2⟩:=zdm (a:=ea+k) Oz Oz
  obtain⟨D,r1,r2⟩:=zdm (a:=eb+1-k) Oz Oz
  have v1:=na _ (aK (show A<i.2.2.1.length by omega))
  have v2:=nb _ (aK (show D<j.2.2.1.length by omega))
  have w3:idx (i.2.2.1.map ptQ) (A:Int)=some (ptQ i.2.2.1[A]):=by rw[zt V4,List.getElem_map]
  have w4:idx (j.2.2.1.map ptQ) (D:Int)=some (ptQ j.2.2.1[D]):=by rw[zt V4,List.getElem_map]
  generalize i.2.2.1[A]=c1 at *
  generalize j.2.2.1[D]=m at *
  have o2:=Xf M (uE v2) ⟨by decide,by decide⟩ ⟨by decide,by decide⟩ ⟨by decide,by decide⟩
  have N:=V2.rot M (uE v2)
  have d:=(V2.sub (uE v1) N).up (k:=4)
  have d:V2 4 36 (wv (ptQ c1) (xL t (ptQ m))):=d
  have e1:=z39_v (uE v1) N ⟨by decide,by decide⟩ ⟨by decide,by decide⟩
  have F:V2 4 4 (e,e):=⟨he,he⟩
  have o:SB 4 36:=⟨by decide,by decide⟩
  have e2:=z39_v d F o p
  have T:z19 (wv (ptQ c1) (xL t (ptQ m))) (e,e)=some (addV (wv (ptQ c1) (xL t (ptQ m))) (e,e)):=by
   unfold z19
   rw[xr (d.1.sm o) (he.sm p),xr (d.2.sm o) (he.sm p)]
   rfl
  have lo:V2 4 40 (wv (wv (ptQ c1) (xL t (ptQ m))) (e,e)):=V2.sub (C:=4) d F
  have hi:V2 4 40 (addV (wv (ptQ c1) (xL t (ptQ m))) (e,e)):=V2.add (C:=4) d F
  rw[aF (aH (by show(k:Int)≤1;omega)),xh (show(ea+(k:Int)).natAbs<_ by omega),aA,xh (show(eb+1).natAbs<_ by omega),aA,xh (show(eb+1-(k:Int)).natAbs<_ by omega),aA,le,Z]
  rw[show((4:Nat):Int)=4 from rfl,q2,aA,w3,aA,r2,aA,w4,aA,Jy o2,aA,e1,aA,e2,aA,T,aA]
  generalize wv (wv (ptQ c1) (xL t (ptQ m))) (e,e)=s at *
  generalize addV (wv (ptQ c1) (xL t (ptQ m))) (e,e)=r at *
  have J:=lo.1.le (C:=60) Uz
  have l2:=lo.2.le (C:=60) Uz
  have K:=hi.1.le (C:=60) Uz
  have L:=hi.2.le (C:=60) Uz
  have U:=q8 (J.sm f) (h1.sm f)
  have V:=q8 (l2.sm f) (h2.sm f)
  have W:=q8 (K.sm f) (h.sm f)
  have X:=q8 (L.sm f) (l.sm f)
  have fin:∀{O P Q R:Rat},QV 4 60 O→QV 4 60 P→QV 4 60 Q→QV 4 60 R→AgOK ((i64 ((k:Int)+1)).bind fun n=>g (n,O,P,Q,R)):=fun a b c d=>by
   rw[zp (show k<100000 by omega),aA]
   exact hg _ ⟨rfl,a,b,c,d⟩
  have Y:k=0∨k=1:=by omega
  rcases Y with rfl|rfl
  ·have z0:decide (((0:Nat):Int)=0)=true:=rfl
   simp only[z0,if_tt]
   exact fin J l2 K L
  ·have z1:decide (((1:Nat):Int)=0)=false:=rfl
   simp only[z1,if_ff,U,V,W,X,aA]
   cases decide (0<wd s.1 v)<;>cases decide (0<wd s.2 x2)<;>cases decide (wd r.1 w<0)<;>cases decide (wd r.2 z<0)<;>simp only[if_tt,if_ff]<;>exact fin Z1 Z1 Z1 Z1
 ·rintro⟨x0,v,x2,w,z⟩ g ⟨rfl,h1,h2,h,l⟩
  have h1:QV 4 60 v:=h1
  have h2:QV 4 60 x2:=h2
  have h:QV 4 60 w:=h
  have l:QV 4 60 z:=l
  have E:V2 4 60 (0,0):=⟨q,q⟩
  rw[aD (show ¬(decide (((2:Nat):Int)≤1)=true)by decide),q8 (h1.sm f) (h.sm f),aA]
  cases decide (0<wd v w)
  ·rw[if_ff,q8 (h2.sm f) (l.sm f),aA]
   cases decide (0<wd x2 z)
   ·exact⟨_,_,_,rfl,⟨h1,h2⟩,⟨h,l⟩⟩
   ·exact⟨_,_,_,rfl,E,E⟩
  ·exact⟨_,_,_,rfl,E,E⟩
theorem gn{e f:Pc}(j:PcOK e)(k:PcOK f){va a:Pl}(ha:Tn 1 va.1)(hb:Tn 1 a.1){x y ea eb:Int}(hx:x.natAbs<100)(hy:y.natAbs<100)(h1:0≤ea∧ea<4)(h2:0≤eb∧eb<4) :
 jR va.1=some (bck va.1)∧z73 (bck va.1) a.1=some (xL (bck va.1) a.1)∧∃r,jQ e f (x,y,ea,eb,1,xL (bck va.1) a.1,(0,0),0,0)=some r∧FitOK (x,y,ea,eb,1,xL (bck va.1) a.1,r.1,r.2.1)∧Tn 1 (xL (bck va.1) a.1):=by
 have g:=ZD ha
 have c:=ha.bck
 have h:=ZD hb
 have e1:jR va.1=some (bck va.1):=by
  unfold jR
  rw[kL (g.2.sm ⟨by decide,by decide⟩)]
  rfl
 have d:Kd 1:=⟨by decide,by decide⟩
 have e2:=(zdA d d (ZD c) h).2.1
 have tu:Tn 1 (xL (bck va.1) a.1):=c.aft hb
 obtain⟨lo,hi,b,i,g1,g2⟩:=agree_ok j k (x:=x) (y:=y) tu h1 h2
 exact⟨e1,e2,_,i,⟨(show yy x from W4 Oz),(show yy y from W4 Oz),tu.le Uz⟩,tu⟩
theorem prs{α:Type}{a b c d:α}:idx [a,b,c,d] 0=some a∧idx [a,b,c,d] 1=some b∧idx [a,b,c,d] 2=some c∧idx [a,b,c,d] 3=some d:=⟨rfl,rfl,rfl,rfl⟩
def FsOK(P:List Pc)(A:List Pl)(o:Option (List Pc×List Fq×List Pl)):Prop:=∃F,o=some (P,F,A)∧(0<F.length∧F.length≤4)∧∀f∈F,FitOK f∧Tn 1 f.2.2.2.2.2.1
theorem bkF_ok{n:Nat}(hn:2≤n∧n≤4){P:List Pc}{A:List Pl}(b:Inv n P A){x:Int}:FsOK P A (bkF (n:Int) (x,P,A)):=by
 have hP:=b.pl
 have hA:=b.al
 have a:∀k:Nat,k<n→∃p v,idx P (k:Int)=some p∧idx A (k:Int)=some v∧PcOK p∧Tn 1 v.1:=fun k hk=>by
  have h1:k<P.length:=by omega
  have h2:k<A.length:=by omega
  exact⟨_,_,zt h1,zt h2,(b.pc _ (aK h1)).1,(b.at' _ (aK h2)).1⟩
 obtain⟨D,F,ip0,iv0,kp0,kv0⟩:=a 0 Oz
 obtain⟨p1,v1,ip1,iv1,kp1,kv1⟩:=a 1 Oz
 obtain⟨o,s,r1,c1,j⟩:=gn kp0 kp1 kv0 kv1 (x:=0) (y:=1) (ea:=1) (eb:=3) Uz Uz Uz Uz
 have ip0:idx P 0=some D:=ip0
 have iv0:idx A 0=some F:=iv0
 have ip1:idx P 1=some p1:=ip1
 have iv1:idx A 1=some v1:=iv1
 have app1:∀f:Fq,app ([]:List Fq) [f]=some [f]:=fun _=>rfl
 have app2:∀(l:List Fq) (f:Fq),l.length<10→app l [f]=some (l++[f]):=fun l f h=>yF (by simp;omega)
 have e:n=2∨n=3∨n=4:=by omega
 have all:∀{l:List Fq} {f:Fq},(∀f∈l,FitOK f∧Tn 1 f.2.2.2.2.2.1)→FitOK f∧Tn 1 f.2.2.2.2.2.1→∀g∈l++[f],FitOK g∧Tn 1 g.2.2.2.2.2.1:=fun h k g hg=>by
  rcases aU.mp hg with hg|hg
  ·exact h g hg
  ·rw[aV.mp hg];exact k
 have jM:∀{f:Fq},FitOK f∧Tn 1 f.2.2.2.2.2.1→∀g∈[f],FitOK g∧Tn 1 g.2.2.2.2.2.1:=fun k g hg=>by rw[aV.mp hg];exact k
 unfold bkF
 simp only[prs,aA,ip0,iv0,ip1,iv1,o,s,c1,app1]
 rcases e with rfl|rfl|rfl
 ·rw[aF (show decide ((1:Int)<((2:Nat):Int))=true from rfl),aD (show ¬decide ((3:Int)<((2:Nat):Int))=true by decide),aD (show ¬decide ((2:Int)<((2:Nat):Int))=true by decide),aD (show ¬decide ((3:Int)<((2:Nat):Int))=true by decide)]
  exact⟨_,rfl,⟨by simp,by simp⟩,jM j⟩
 ·obtain⟨p2,v2,ip2,iv2,kp2,kv2⟩:=a 2 Oz
  have ip2:idx P 2=some p2:=ip2
  have iv2:idx A 2=some v2:=iv2
  obtain⟨c,d,r2,i,m⟩:=gn kp1 kp2 kv1 kv2 (x:=1) (y:=2) (ea:=2) (eb:=0) Uz Uz Uz Uz
  rw[aF (show decide ((1:Int)<((3:Nat):Int))=true from rfl),aD (show ¬decide ((3:Int)<((3:Nat):Int))=true by decide),aF (show decide ((2:Int)<((3:Nat):Int))=true from rfl)]
  simp only[ip2,iv2,aA,c,d,i]
  rw[app2 _ _ Y8,aA,aD (show ¬decide ((3:Int)<((3:Nat):Int))=true by decide)]
  exact⟨_,rfl,⟨by simp,by simp⟩,all (jM j) m⟩
 ·obtain⟨p2,v2,ip2,iv2,kp2,kv2⟩:=a 2 Oz
  obtain⟨E,G,ip3,iv3,kp3,kv3⟩:=a 3 Oz
  have ip2:idx P 2=some p2:=ip2
  have iv2:idx A 2=some v2:=iv2
  have ip3:idx P 3=some E:=ip3
  have iv3:idx A 3=some G:=iv3
  obtain⟨c,d,r2,i,m⟩:=gn kp0 kp3 kv0 kv3 (x:=0) (y:=3) (ea:=2) (eb:=0) Uz Uz Uz Uz
  obtain⟨q,t,r3,w,B⟩:=gn kp1 kp2 kv1 kv2 (x:=1) (y:=2) (ea:=2) (eb:=0) Uz Uz Uz Uz
  obtain⟨r,u,r4,z,C⟩:=gn kp2 kp3 kv2 kv3 (x:=2) (y:=3) (ea:=3) (eb:=1) Uz Uz Uz Uz
  rw[aF (show decide ((1:Int)<((4:Nat):Int))=true from rfl),aF (show decide ((3:Int)<((4:Nat):Int))=true from rfl)]
  simp only[ip3,iv3,aA,c,d,i]
  rw[app2 _ _ Y8,aA,aF (show decide ((2:Int)<((4:Nat):Int))=true from rfl)]
  simp only[ip2,iv2,o,aA,q,t,w]
  rw[app2 _ _ Y8,aA,aF (show decide ((3:Int)<((4:Nat):Int))=true from rfl)]
  simp only[aA,r,u,z]
  rw[app2 _ _ Y8]
  exact⟨_,rfl,⟨by simp,by simp⟩,all (all (all (jM j) m) B) C⟩
def BxOK(o:Option (List Pc×List Fq×List Pl)):Prop:=∃P F A,o=some (P,F,A)∧BoxOK P F A
theorem bkZ_ok{l:List Int}(hl:L64 l){Q:List (List (Int×Int))}(c:Q.length=4)(d:∀q∈Q,Qd 8 q):BxOK (bkZ l Q):=by
 obtain⟨r,j,r0,r1⟩:=v8 hl (i:=8) (m:=3) Uz Uz Uz
 obtain⟨m,rfl⟩:=Int.eq_ofNat_of_zero_le r0
 unfold bkZ
 rw[j,aA,xh (show(2+(m:Int)).natAbs<_ by omega),aA]
 have hm:m≤2:=by omega
 refine zk (2+m) (fun i x=>x.1=(i:Int)∧Inv i x.2.1 x.2.2) BxOK Oz ⟨rfl,rfl,by simp,rfl,by simp⟩ ?_ ?_
 ·rintro i ⟨x,P,A⟩ g hi ⟨rfl,a⟩ hg
  have a:Inv i P A:=a
  obtain⟨q,f,q0,q1⟩:=v8 hl (i:=9+(i:Int)) (m:=4) Oz Uz Uz
  obtain⟨u,n,u0,u1⟩:=v8 hl (i:=13+(i:Int)) (m:=9) Oz Uz Uz
  obtain⟨w,o,w0,w1⟩:=v8 hl (i:=17+(i:Int)) (m:=9) Oz Uz Uz
  obtain⟨k,rfl⟩:=Int.eq_ofNat_of_zero_le q0
  have post:∀P' b,Inv (i+1) P' b→BxOK (g (((i+1:Nat):Int),P',b)):=fun P' b h=>hg _ ⟨rfl,h⟩
  unfold bkR
  rw[aF (aH (by show(i:Int)<_;omega)),xh (show(9+(i:Int)).natAbs<_ by omega),aA,f,aA,xh (show(13+(i:Int)).natAbs<_ by omega),aA,n,aA,xh (show(u-4).natAbs<_ by omega),aA,xh (show(17+(i:Int)).natAbs<_ by omega),aA,o,aA,xh (show(w-4).natAbs<_ by omega),aA]
  by_cases h:i=0
  ·rw[aF (aH (by show(i:Int)=0;omega)),bk0_eq]
   exact bk1_ok hl c d Oz a post (r:=0) Uz (u:=0) (w:=0) ⟨by decide,by decide⟩
  ·rw[aD (by simp only[aB];omega)]
   exact bk1_ok hl c d Oz a post Oz ⟨by show(u-4).natAbs≤4;omega,by show(w-4).natAbs≤4;omega⟩
 ·rintro⟨x,P,A⟩ g ⟨rfl,a⟩
  have a:Inv (2+m) P A:=a
  obtain⟨F,e,h1,h2⟩:=bkF_ok Oz a (x:=((2+m:Nat):Int))
  unfold bkR
  rw[aD (by simp only[aB];omega)]
  refine⟨P,F,A,e,⟨?_,a.pc,h1,h2,?_,fun v hv=>⟨ZD (a.at' v hv).1,(a.at' v hv).2⟩⟩⟩
  ·have:=a.pl;omega
  ·have:=a.pl;have:=a.al;omega
theorem z8_ok{l:List Int}(hl:L64 l):BxOK (z8 l):=by
 obtain⟨a,ea,a0,g⟩:=v8 hl (i:=0) (m:=5) Uz Uz Uz
 obtain⟨b,eb,n,o⟩:=v8 hl (i:=1) (m:=5) Uz Uz Uz
 have v:∀{i s:Int},0≤i→0≤s→s<5→∃r,z21 l i (4+s-1)=some r∧0≤r∧r≤7:=fun{i s} hi h0 h1=>by
  obtain⟨r,e,r0,r1⟩:=v8 hl (i:=i) (m:=4+s-1) hi Oz Oz
  exact⟨r,e,r0,by omega⟩
 obtain⟨c,u,c0,c1⟩:=v (i:=2) Uz a0 g
 obtain⟨d,ed,d0,d1⟩:=v (i:=3) Uz n o
 obtain⟨f,z,f0,f1⟩:=v (i:=4) Uz a0 g
 obtain⟨h,A,h0,h1⟩:=v (i:=5) Uz n o
 obtain⟨j,B,j0,j1⟩:=v (i:=6) Uz a0 g
 obtain⟨k,C,k0,k1⟩:=v (i:=7) Uz n o
 obtain⟨Q,p,H,E⟩:=zfe (w:=4+a) (h:=4+b) (x:=1+c) (y:=1+d) (b:=1+f) (r:=1+h) (t:=1+j) (l:=1+k) Oz Oz Oz Oz Oz Oz Oz Oz
 obtain⟨w,D,G⟩:=z33_ok Oz E
 obtain⟨R,q,I,F⟩:=corners4
 unfold z8
 rw[ea,aA,xh (show(4+a).natAbs<_ by omega),aA,eb,aA,xh (show(4+b).natAbs<_ by omega),aA,xh (show(4+a-1).natAbs<_ by omega),aA,u,aA,xh (show(1+c).natAbs<_ by omega),aA,xh (show(4+b-1).natAbs<_ by omega),aA,ed,aA,xh (show(1+d).natAbs<_ by omega),aA,aA,aA,aA,aA,z,aA,xh (show(1+f).natAbs<_ by omega),aA,A,aA,xh (show(1+h).natAbs<_ by omega),aA,B,aA,xh (show(1+j).natAbs<_ by omega),aA,C,aA,xh (show(1+k).natAbs<_ by omega),aA,p,aA,D,aA]
 cases w
 ·rw[aF Uz,q,aA]
  exact bkZ_ok hl I F
 ·rw[aD Uz]
  exact bkZ_ok hl H (G rfl)
theorem fit_sm{f:Fq}(h:FitOK f):Sm f.2.2.2.2.2.1.1∧Sm f.2.2.2.2.2.1.2:=by
 obtain⟨h1,h2⟩:=h.tn.bd
 exact⟨⟨by have:=h1.1;omega,by have:=h1.2;omega⟩,⟨by have:=h2.1;omega,by have:=h2.2;omega⟩⟩
theorem quart_ok{F:List Fq}(h6:F.length≤6)(hf:∀f∈F,FitOK f):∃q:Bool,z28 F=some q∧(q=true→∀f∈F,Qv f.2.2.2.2.2.1):=by
 unfold z28
 refine zk F.length (fun i (x:Int)=>x=(i:Int)∧∀f∈F.take i,Qv f.2.2.2.2.2.1) (fun o=>∃q:Bool,o=some q∧(q=true→∀f∈F,Qv f.2.2.2.2.2.1)) Oz ⟨rfl,fun f hf=>by simp at hf⟩ ?_ ?_
 ·rintro i x g hi ⟨rfl,b⟩ hg
  have ok:=hf _ (aK hi)
  obtain⟨s1,s2⟩:=fit_sm ok
  have next:Qv F[i].2.2.2.2.2.1→∃q:Bool,((i64 ((i:Int)+1)).bind fun d=>g d)=some q∧(q=true→∀f∈F,Qv f.2.2.2.2.2.1):=fun h=>by
   rw[zp Oz,aA]
   refine hg _ ⟨rfl,fun f a=>?_⟩
   rw[yz hi,aU,aV]at a
   rcases a with a|rfl
   ·exact b f a
   ·exact h
  rw[aF (zM hi),zt hi,aA,ZF s1,aA,aA,ZF s2,aA]
  by_cases c1:F[i].2.2.2.2.2.1.1=0
  ·rw[aD (by rw[aB];exact fun h=>h (sgR_0.mpr c1))]
   exact next ⟨ok.tn.one,.inl c1⟩
  ·rw[aF (by rw[aB];exact fun h=>c1 (sgR_0.mp h))]
   by_cases c:F[i].2.2.2.2.2.1.2=0
   ·rw[aD (by rw[aB];exact fun h=>h (sgR_0.mpr c))]
    exact next ⟨ok.tn.one,.inr c⟩
   ·rw[aF (by rw[aB];exact fun h=>c (sgR_0.mp h))]
    exact⟨false,rfl,fun h=>nomatch h⟩
 ·rintro x g ⟨rfl,b⟩
  rw[aD Y8]
  rw[aY]at b
  exact⟨true,rfl,fun _=>b⟩
theorem same_self{K:Nat}(a:Kd K){A:List Pl}(h6:A.length≤6)(h:∀v∈A,PlOK K v):z29 A A=some true:=by
 unfold z29
 rw[aD Y8]
 refine zk A.length (fun i (x:Int)=>x=(i:Int)) (fun o=>o=some true) Oz rfl ?_ ?_
 ·rintro i x g hi rfl hg
  have p:=h _ (aK hi)
  have s1:=a.s0 (B:=1) Uz
  have s2:=a.s1 (c:=4) (B:=360) Uz
  obtain⟨-,-,e1,-⟩:=Yy p.turn p.turn s1 s1
  obtain⟨-,-,-,e2⟩:=Yy p.at' p.at' s2 s2
  have e:z72 A[i] A[i]=some true:=by
   unfold z72
   rw[e1,aH rfl,aA,aF rfl,e2,aH rfl]
   rfl
  rw[aF (zM hi),zt hi,aA,aA,e,aA,aD Y8,zp Oz,aA]
  exact hg _ rfl
 ·rintro x g rfl
  rw[aD Y8]
section
variable{n K:Nat}{X:List Bd}(hK:Kd K)(hn:0<n∧n≤4)(hg:zhn K n 60 X){xs:List Rat}(hl:xs.length=n)(hx:∀v,v<n→QV (K*4) 360 (fx xs v))
include hK hn hg hl hx
theorem Wx:∃b:Bool,z69 (n:Int) X xs []=some (if b=true then 0 else 22)∧(b=true↔Sat (X.map toE) (fx xs)):=by
 have hX:=hg.1
 have key:∃b:Bool,z129 ((n:Int),X) xs=some b∧(b=true↔Sat (X.map toE) (fx xs)):=by
  unfold z129
  rw[aF (aH (by show(xs.length:Int)=n;omega))]
  refine zk X.length (fun i x=>x=(i:Int)∧∀c∈X.take i,fx xs (toE c).to≤fx xs (toE c).fr+(toE c).m) (fun o=>∃b:Bool,o=some b∧(b=true↔Sat (X.map toE) (fx xs))) Oz ⟨rfl,fun c hc=>by simp at hc⟩ ?_ ?_
  ·rintro i x g hi ⟨rfl,hs⟩ a
   obtain⟨⟨h1,h2⟩,⟨q,h4⟩,r⟩:=hg.2 _ (aK hi)
   obtain⟨f,hf⟩:=Int.eq_ofNat_of_zero_le h1
   obtain⟨t,k⟩:=Int.eq_ofNat_of_zero_le q
   have l:=hx f Oz
   have p:=hx t Oz
   have s1:=hK.s1 (c:=4) (B:=720) Uz
   have efr:(toE X[i]).fr=f:=by show X[i].1.toNat=f;rw[hf];rfl
   have eto:(toE X[i]).to=t:=by show X[i].2.1.toNat=t;rw[k];rfl
   have j:(toE X[i]).m=X[i].2.2:=rfl
   rw[aF (zM hi),zt hi,aA]
   simp only[hf,k]
   rw[X2 (show t<xs.length by omega),aA,X2 (show f<xs.length by omega),aA,vv ((p.le (show 360≤720 by decide)).sm s1) ((l.le (show 360≤720 by decide)).sm s1),aA,q8 (((p.sub l).le (show 360+360≤720 by decide)).sm s1) ((r.le (show 60≤720 by decide)).sm s1),aA]
   by_cases c:X[i].2.2<fx xs t-fx xs f
   ·rw[aF (aH (cmpQ_pos.mpr c)),show decide ((0:Int)≤(i:Int))=true from aH Oz]
    refine⟨false,rfl,fun h=>(nomatch h),fun h=>?_⟩
    have:=h _ (dS (aK hi))
    rw[efr,eto,j]at this
    exact absurd c (Rat.not_lt.mpr (by grind))
   ·rw[aD (by rw[aB];exact fun h=>c (cmpQ_pos.mp h)),zp Oz,aA]
    refine a _ ⟨rfl,fun d hd=>?_⟩
    rw[yz hi,aU,aV]at hd
    rcases hd with hd|rfl
    ·exact hs d hd
    ·rw[efr,eto,j]
     have:=Rat.not_lt.mp c
     grind
  ·rintro x g ⟨rfl,hs⟩
   rw[aD Y8]
   rw[aY]at hs
   refine⟨true,rfl,fun _ c hc=>?_,fun _=>rfl⟩
   obtain⟨e,he,rfl⟩:=List.mem_map.mp hc
   exact hs e he
 obtain⟨b,e1,e2⟩:=key
 refine⟨b,?_,e2⟩
 unfold z69
 rw[zgz hn hg.1 hg.2]
 simp only[aA,eJ,aX,cK,List.length_nil]
 rw[aF Uz,e1]
 simp only[aA]
 cases b
 ·rw[aD Uz,aD (by simp only[aB];omega),aD Uz]
 ·rw[aF rfl,aF rfl]
end
def tnA(A:List Pl):List Q2:=A.map (·.1)
def xsA(A:List Pl):List Rat:=A.map (·.2.1)
def ysA(A:List Pl):List Rat:=A.map (·.2.2)
structure ChkP(P:List Pc)(F:List Fq)(A:List Pl):Prop where
 ok:okB P F=true
 root:∀i (hi:i<A.length),(xN P.length F).getD i 0=(i:Int)→A[i].1=zX∧A[i].2=(0,0)
 fit:∀f∈F,qW (tnA A) f.2.1=aft (qW (tnA A) f.1) f.2.2.2.2.2.1
 sx:Sat ((Zq P (tnA A) F).map toE) (fx (xsA A))
 sy:Sat ((Yc P (tnA A) F).map toE) (fx (ysA A))
section
variable{P:List Pc}{F:List Fq}{K:Nat}(h:CaseOK P F K){A:List Pl}(hl:A.length=P.length)(hA:∀v∈A,PlOK K v)(hu:∀v∈A,Y4 v.1=true)
include h hl hA hu
theorem gI:(ChkP P F A→z24 P F A=some (if vm P (xN P.length F) A=true then 13 else 0))∧(¬ChkP P F A→∃e,z24 P F A=some e∧e≠0∧e≠13):=by
 have r:=h.k
 have hn:=h.n
 have e1:=uj h.fl h.tu rfl h.n.2 h.pc
 cases b:okB P F with
 |false=>
  refine⟨fun c=>absurd c.ok (by rw[b];decide),fun _=>⟨1,?_,by decide,by decide⟩⟩
  unfold okB at b
  rw[b,aD Y8]at e1
  unfold z24
  rw[e1,aA,aF Y8]
 |true=>
 have s:=b
 unfold okB at s
 rw[s,aF rfl]at e1
 have ro:=JT b
 have lR:=ro.len
 have D:=z17_eq h b
 generalize M:xN P.length F=R at *
 have rR:∀i (hi:i<R.length),0≤R[i]∧R[i]<P.length:=fun i hi=>by
  have:=ro.le i Oz
  rw[zD hi]at this
  exact⟨this.1,by omega⟩
 have uni:∀i (hi:i<A.length),z62 A[i]=some false:=fun i hi=>by
  have p:=hA _ (aK hi)
  obtain⟨h1,-⟩:=JI r ⟨p.turn.1.le (show 1≤12 by decide),p.turn.2.le (show 1≤12 by decide)⟩
  unfold z62
  rw[h1,hu _ (aK hi)]
  rfl
 have lens:∀{α:Type} {f:Pl→α} (i:Nat),((A.take i).map f).length+1≤60000:=fun{α f} i=>by rw[bI,bU];omega
 have snoc:∀{α:Type} (f:Pl→α) (i:Nat) (hi:i<A.length),(A.take i).map f++[f A[i]]=(A.take (i+1)).map f:=fun f i hi=>by rw[yz hi,List.map_append];rfl
 have T:=r.s0 (B:=1) Uz
 have s4:=r.s1 (c:=4) (B:=360) Uz
 have G:SB 1 1:=⟨by decide,by decide⟩
 have still':V2 1 1 (qI 1,0):=⟨QV.int Uz,QV.int (n:=0) Uz⟩
 have zero:V2 1 1 (0,0):=⟨QV.int (n:=0) Uz,QV.int (n:=0) Uz⟩
 have qst:(qI 1,(0:Rat))=zX:=rfl
 have E:=ok_f b
 have tl:(tnA A).length=P.length:=by rw[tnA,bI];exact hl
 have tm:∀t∈tnA A,V2 K 1 t:=fun t h=>by
  obtain⟨v,hv,rfl⟩:=List.mem_map.mp h
  exact(hA v hv).turn
 obtain⟨I,gX,gY⟩:=Js r rfl h.pc tl tm h.fl E
 have fxA:∀v,v<P.length→QV (K*4) 360 (fx (xsA A) v)∧QV (K*4) 360 (fx (ysA A) v):=fun v hv=>by
  have z:v<A.length:=by omega
  unfold fx xsA ysA
  rw[zD (by rw[bI];exact z),zD (by rw[bI];exact z),List.getElem_map,List.getElem_map]
  exact(hA _ (aK z)).at'
 obtain⟨X,p1,N⟩:=Wx r hn gX (xs:=xsA A) (by rw[xsA,bI];exact hl) fun v hv=>(fxA v hv).1
 obtain⟨Y,p2,O⟩:=Wx r hn gY (xs:=ysA A) (by rw[ysA,bI];exact hl) fun v hv=>(fxA v hv).2
 have Z:=zcW r hn.2 rfl hl lR (fun i hi=>rR i Oz) h.pc hA
 -- what is left to show of a result
 let Q:Option Int→Prop:=fun o=>(ChkP P F A→o=some (if vm P R A=true then 13 else 0))∧(¬ChkP P F A→∃e,o=some e∧e≠0∧e≠13)
 have bad:∀{e:Int},e≠0→e≠13→¬ChkP P F A→Q (some e):=fun h0 h1 hc=>⟨fun c=>absurd c hc,fun _=>⟨_,rfl,h0,h1⟩⟩
 show Q (z24 P F A)
 unfold z24
 rw[e1,aA,aD Y8,aD (by simp only[aB];omega)]
 refine zk A.length (fun i x=>x=(i:Int)) Q Oz rfl ?_ ?_
 ·rintro i x g hi rfl hg
  rw[aF (zM hi),zt hi,aA,uni i hi,aA,aD Uz,zp (show i<100000 by omega),aA]
  exact hg _ rfl
 rintro x g rfl
 rw[aD Y8,D,aA]
 refine zk A.length (fun i x=>x=((i:Int),(A.take i).map (·.1),(A.take i).map (·.2.1),(A.take i).map (·.2.2))∧∀j (hj:j<A.length),j<i→R.getD j 0=(j:Int)→A[j].1=zX∧A[j].2=(0,0)) Q Oz ⟨rfl,fun j _ hj=>by omega⟩ ?_ ?_
 ·rintro i x g hi ⟨rfl,y⟩ hg
  have u:i<R.length:=by omega
  have pl:=hA _ (aK hi)
  obtain⟨f1,-,-,-⟩:=Yy pl.turn still' T G
  obtain⟨-,f2,-,-⟩:=Yy pl.at' zero s4 G
  rw[aF (zM hi),zt hi,aA,zt u,aA]
  have next:(R[i]=(i:Int)→A[i].1=zX∧A[i].2=(0,0))→Q (g (((i+1:Nat):Int),(A.take (i+1)).map (·.1),(A.take (i+1)).map (·.2.1),(A.take (i+1)).map (·.2.2))):=fun h1=>hg _ ⟨rfl,fun j hj hji C=>by
   by_cases c:j=i
   ·subst c
    rw[zD u]at C
    exact h1 C
   ·exact y j hj Oz C⟩
  by_cases c:R[i]=(i:Int)
  ·have S:ChkP P F A→A[i].1=zX∧A[i].2=(0,0):=fun q=>q.root i hi (by rw[M,zD u];exact c)
   rw[aF (aH c),still_eq.1,aA,f1,aA]
   by_cases h1:A[i].1=(qI 1,0)
   ·rw[aH h1,aD Uz,f2,aA]
    by_cases h2:A[i].2=(0,0)
    ·rw[aH h2,aD Uz,yF (lens i),aA,yF (lens i),aA,yF (lens i),aA,zp (show i<100000 by omega),aA,snoc (·.1) i hi,snoc (·.2.1) i hi,snoc (·.2.2) i hi]
     exact next fun _=>⟨h1,h2⟩
    ·rw[bA h2,aF Uz]
     exact bad Uz Uz fun q=>h2 (S q).2
   ·rw[bA h1,aF Uz]
    exact bad Uz Uz fun q=>h1 (S q).1
  ·rw[aD (by simp only[aB];exact c),yF (lens i),aA,yF (lens i),aA,yF (lens i),aA,zp (show i<100000 by omega),aA,snoc (·.1) i hi,snoc (·.2.1) i hi,snoc (·.2.2) i hi]
   exact next fun h=>absurd h c
 rintro x g ⟨rfl,y⟩
 rw[aD Y8]
 simp only[aY]
 refine zk F.length (fun i x=>x=(i:Int)∧∀f∈F.take i,qW (tnA A) f.2.1=aft (qW (tnA A) f.1) f.2.2.2.2.2.1) Q (by have:=h.fl;omega) ⟨rfl,fun f hf=>by simp at hf⟩ ?_ ?_
 ·rintro i x g hi ⟨rfl,l⟩ hg
  have hi6:=h.fl
  have w:=aK hi
  have m:=E _ w
  obtain⟨d,hd,J,-⟩:=h.tu _ w
  have ia:idx (A.map (·.1)) F[i].1=some (qW (tnA A) F[i].1):=by
   have a0:=m.a0;have ab:=m.ab;have bn:=m.bn
   obtain⟨a,ha⟩:=Int.eq_ofNat_of_zero_le a0
   rw[ha]
   exact xo V4
  have ib:idx (A.map (·.1)) F[i].2.1=some (qW (tnA A) F[i].2.1):=by
   have a0:=m.a0;have ab:=m.ab;have bn:=m.bn
   obtain⟨a,ha⟩:=Int.eq_ofNat_of_zero_le (show 0≤F[i].2.1 by omega)
   rw[ha]
   exact xo V4
  have mem:∀v:Int,0≤v→v<(P.length:Int)→V2 K 1 (qW (tnA A) v):=fun v h0 h1=>by
   unfold qW
   rw[zD (show v.toNat<(tnA A).length by omega)]
   exact tm _ (aK _)
  have ma:=mem F[i].1 m.a0 (by have:=m.ab;have:=m.bn;omega)
  have mb:=mem F[i].2.1 (by have:=m.a0;have:=m.ab;omega) m.bn
  obtain⟨U,-,V,W⟩:=zdA r hd ma J
  obtain⟨H,-,-,-⟩:=Yy mb V T W
  rw[aF (zM hi)]
  simp only[zt hi,aA,ia,ib,U,H,zp (show i<100000 by omega)]
  by_cases c:qW (tnA A) F[i].2.1=xL (qW (tnA A) F[i].1) F[i].2.2.2.2.2.1
  ·rw[aH c,aD Uz]
   refine hg _ ⟨rfl,fun f hf=>?_⟩
   rw[yz hi,aU,aV]at hf
   rcases hf with hf|rfl
   ·exact l f hf
   ·exact c
  ·rw[bA c,aF Uz]
   exact bad Uz Uz fun q=>c (q.fit _ w)
 rintro x g ⟨rfl,l⟩
 rw[aY]at l
 rw[aD Y8]
 show Q ((z68 P F (tnA A)).bind _)
 rw[I,aA,aF (aH Oz)]
 show Q ((z69 (P.length:Int) (Zq P (tnA A) F) (xsA A) []).bind _)
 rw[p1,aA]
 cases X with
 |false=>exact bad Uz Uz fun q=>by have:=N.mpr q.sx;cases this
 |true=>
  rw[aF rfl,aD Uz]
  show Q ((z69 (P.length:Int) (Yc P (tnA A) F) (ysA A) []).bind _)
  rw[p2,aA]
  cases Y with
  |false=>exact bad Uz Uz fun q=>by have:=O.mpr q.sy;cases this
  |true=>
   rw[aF rfl,aD Uz,Z,aA]
   refine⟨fun _=>by cases vm P R A<;>rfl,fun L=>absurd ⟨b,?_,l,N.mp rfl,O.mp rfl⟩ L⟩
   intro i hi C
   rw[M]at C
   exact y i hi hi C
end
def Γ18l:TypeId→Option Ty:=fun t=>find [(77,T77),(69,S77),(38,T38),(34,.rat),(72,T72),(4,.bool),(3,(.int .i64)),(36,T36),(40,T40),(27,T27),(54,T54),(87,T87),(214,T214),(126,T126),(162,T162),(164,Qy),(166,uC),(139,S38),(290,T290),(271,T271),(185,Wn),(229,zdC),(226,jN),(125,T125),(118,jl)] t
noncomputable def z18:Option Bool:=((z35 0 [(0,0),(2,0),(2,2),(0,2)]).bind fun r1=>((z35 1 [(0,0),(2,0),(2,2),(0,2)]).bind fun r2=>((z35 2 [(0,0),(2,0),(2,2),(0,2)]).bind fun b=>((z35 3 [(0,0),(2,0),(2,2),(0,2)]).bind fun c=>((z37).bind fun d=>((z37).bind fun e=>((z37).bind fun f=>((z37).bind fun g=>((z26 [r1,r2,b,c] [(0,1,1,3,1,d,(0,0),0,0),(1,2,2,0,1,e,(0,0),0,0),(2,3,3,1,1,f,(0,0),0,0),(0,3,2,0,1,g,(0,0),0,0)]).bind fun k=>((z37).bind fun s=>((z37).bind fun t=>((z41 2 0).bind fun u=>((z37).bind fun v=>((z41 2 2).bind fun w=>((z37).bind fun x=>((z41 0 2).bind fun y=>((z37).bind fun r17=>((ofG (-1) 1).bind fun z=>((xK [(0,1,1,3,1,d,(0,0),0,0),(1,2,2,0,1,e,(0,0),0,0),(2,3,3,1,1,f,(0,0),0,0),(0,3,2,0,1,g,(0,0),0,0)] 0 3).bind fun l=>((app ([]:List Fq) l).bind fun m=>((app m [(0,3,1,0,1,(0,z),(0,0),0,0)]).bind fun n=>((xK [(0,1,1,3,1,d,(0,0),0,0),(1,2,2,0,1,e,(0,0),0,0),(2,3,3,1,1,f,(0,0),0,0),(0,3,2,0,1,g,(0,0),0,0)] 0 3).bind fun o=>((app ([]:List Fq) o).bind fun p=>((z37).bind fun A=>((app p [(0,3,0,2,1,A,(0,0),0,0)]).bind fun q=>((z26 [r1,r2,b,c] n).bind fun a=>((z26 [r1,r2,b,c] q).bind fun h=>((idx [(0,1,1,3,1,d,(0,0),0,0),(1,2,2,0,1,e,(0,0),0,0),(2,3,3,1,1,f,(0,0),0,0),(0,3,2,0,1,g,(0,0),0,0)] 0).bind fun J=>((z37).bind fun B=>((z26 [r1,r2,b,c] [J,(0,1,2,0,1,B,(0,0),0,0)]).bind fun i=>((idx [(0,1,1,3,1,d,(0,0),0,0),(1,2,2,0,1,e,(0,0),0,0),(2,3,3,1,1,f,(0,0),0,0),(0,3,2,0,1,g,(0,0),0,0)] 0).bind fun K=>((z37).bind fun C=>((z26 [r1,r2,b,c] [K,(0,2,1,3,1,C,(0,0),0,0)]).bind fun j=>(if (decide (k.2.2≠0))=true then some false else(if (decide (a.2.2≠14))=true then some false else(if (decide (h.2.2≠14))=true then some false else(if (decide (i.2.2≠14))=true then some false else(if (decide (j.2.2≠13))=true then some false else(if (decide (0<(j.2.1.length:Int)))=true then some false else((z14 a.2.1 [0,1,2,3]).bind fun D=>(if D=true then((z14 h.2.1 a.2.1).bind fun E=>(if E=true then((z14 i.2.1 [0,1]).bind fun F=>(if F=true then((z29 k.1 [(s,0,0),(t,u),(v,w),(x,y)]).bind fun G=>(if G=true then((z24 [r1,r2,b,c] [(0,1,1,3,1,d,(0,0),0,0),(1,2,2,0,1,e,(0,0),0,0),(2,3,3,1,1,f,(0,0),0,0),(0,3,2,0,1,g,(0,0),0,0)] k.1).bind fun H=>(if (decide (H=0))=true then((xK k.1 0 3).bind fun r=>((z24 [r1,r2,b,c] [(0,1,1,3,1,d,(0,0),0,0),(1,2,2,0,1,e,(0,0),0,0),(2,3,3,1,1,f,(0,0),0,0),(0,3,2,0,1,g,(0,0),0,0)] r).bind fun I=>some (decide (I=1))))else some false))else some false))else some false))else some false))else some false)))))))))))))))))))))))))))))))))))))))))
noncomputable def T18c:=zm T26c 18 ⟨[],.bool,17285335892622,fun x=>z18⟩
theorem t18:ConOK T18c:=ConOK.next (Γ:=Γ18l) (Hs:=hsF []) (rs:=[17285335892622,4703]) t26 rfl fun x=>by kernel_rfl
end Go.Proofs.YtocnbjjmmgolfaaGreat
