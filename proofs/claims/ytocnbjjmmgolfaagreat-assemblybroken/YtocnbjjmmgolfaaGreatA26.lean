/- Plain law: the cells of a placed piece (printed by mkLn.py). -/
import Derived.Test.YtocnbjjmmgolfaaGreatA24
import Derived.Test.YtocnbjjmmgolfaaGreatA25
set_option linter.unusedSimpArgs false
set_option linter.unusedVariables false
set_option linter.unusedSectionVars false
namespace Go.Proofs.YtocnbjjmmgolfaaGreat
open Go Go.M Go.Proofs.C14
def vJ(v:Pl)(p:Rat×Rat):Rat×Rat:=((yx v.1 p).1+v.2.1,(yx v.1 p).2+v.2.2)
structure dF(v:Pl)(p:Rat×Rat):Prop where
 r:fZ v.1 p
 r1:Sm (yx v.1 p).1
 r2:Sm (yx v.1 p).2
 v1:Sm v.2.1
 v2:Sm v.2.2
theorem Q7{v:Pl}{p:Rat×Rat}(h:dF v p):tz v p=some (vJ v p):=by
 unfold tz Wn
 rw[jA h.r,aA,yE h.r1 h.v1,aA,yE h.r2 h.v2]
 rfl
noncomputable def uf(a:Pl)(b:List (Rat×Rat))(c:(Int×List (Rat×Rat))->Option (List (Rat×Rat)))(d:Int×List (Rat×Rat)):Option (List (Rat×Rat)):=if decide (d.1<b.length)then(ae b d.1).bind λe=>(tz a e).bind λf=>(app d.2 [f]).bind λg=>(i64 (d.1+1)).bind λh=>c (h,g)else some d.2
theorem Ca(a0:(Rat×Rat)×Rat×Rat)(a:List (Rat×Rat)):IU a0 a =  (zk (uf a0 a) (zi 12) (0,[])):=rfl
theorem pF{v:Pl}{p q r:Rat×Rat}(h:dF v p)(g:(Int×List (Rat×Rat))->Option (List (Rat×Rat))):uf v [p,q,r] g (0,[])=g (1,[vJ v p]):=by
 have f:=Q7 h
 unfold uf
 simp[ae,zP,yk,f,app]
theorem pG{v:Pl}{p q r:Rat×Rat}(h:dF v q)(g:(Int×List (Rat×Rat))->Option (List (Rat×Rat))):uf v [p,q,r] g (1,[vJ v p])=g (2,[vJ v p,vJ v q]):=by
 have f:=Q7 h
 unfold uf
 simp[ae,zP,yk,f,app]
theorem pH{v:Pl}{p q r:Rat×Rat}(h:dF v r)(g:(Int×List (Rat×Rat))->Option (List (Rat×Rat))):uf v [p,q,r] g (2,[vJ v p,vJ v q])=g (3,[vJ v p,vJ v q,vJ v r]):=by
 have f:=Q7 h
 unfold uf
 simp[ae,zP,yk,f,app]
theorem pI{v:Pl}{p q r:Rat×Rat}{l:List (Rat×Rat)}(g:(Int×List (Rat×Rat))->Option (List (Rat×Rat))):uf v [p,q,r] g (3,l)=some l:=by
 unfold uf
 simp
theorem vZ{v:Pl}{p q r:Rat×Rat}(hp:dF v p)(a:dF v q)(b:dF v r):IU v [p,q,r]=some [vJ v p,vJ v q,vJ v r]:=by
 rw[Ca,zF,ze,pF hp,ze,pG a,ze,pH b,ze,pI]
section
variable{a b c d:Int×Int}
def gG(v:Pl)(l:List (List (Int×Int))):List (List (Rat×Rat)):=l.map λt=>t.map λp=>vJ v (ah p)
noncomputable def gE(a:Pl)(b:Int×List (List (Rat×Rat)))(c:(Int×List (List (Rat×Rat)))->Option (List (List (Rat×Rat))))(d:Int×List (List (Rat×Rat))):Option (List (List (Rat×Rat))):=if decide (d.1<b.2.length)then(ae d.2 d.1).bind λe=>(ae d.2 d.1).bind λf=>(IU a f).bind λg=>(ae d.2 d.1).bind λh=>(ae d.2 d.1).bind λi=>(i64 (d.1+1)).bind λj=>c (j,(zM d.2 (Int.toNat d.1) g))else some d.2
noncomputable def uE(a:Pl)(b:List (Rat×Rat))(c:List (Int×Int×Int)×Int)(d:(Int×List (List (Rat×Rat)))->Option (List (List (Rat×Rat))))(e:Int×List (List (Rat×Rat))):Option (List (List (Rat×Rat))):=if decide (e.1<c.1.length)then(ae c.1 e.1).bind λf=>(ae b f.1).bind λg=>(ae b f.2.1).bind λh=>(ae b f.2.2).bind λi=>(app e.2 [[g,h,i]]).bind λj=>(i64 (e.1+1)).bind λk=>d (k,j)else zk (gE a e) (zi 12) (0,e.2)
theorem B3(a0:Int×Int×(List (Int×Int))×List Bool×List Int×Rat×Rat×Rat×Rat×Rat)(e:(Rat×Rat)×Rat×Rat):JV a0 e =  ((JX a0).bind λr1=>((tw r1).bind λr2=>(zk (uE e r1 r2) (zi 12) (0,[])))):=rfl
theorem zq{v:Pl}(g:(Int×List (List (Rat×Rat)))->Option (List (List (Rat×Rat)))):uE v [ah a,ah b,ah c,ah d] ([(3,0,1),(1,2,3)],0) g (0,[])=g (1,[[ah d,ah a,ah b]]):=by
 unfold uE
 generalize gE=B
 simp[ae,zP,yk,app]
theorem zv{v:Pl}(g:(Int×List (List (Rat×Rat)))->Option (List (List (Rat×Rat)))):uE v [ah a,ah b,ah c,ah d] ([(3,0,1),(1,2,3)],0) g (1,[[ah d,ah a,ah b]])=g (2,[[ah d,ah a,ah b],[ah b,ah c,ah d]]):=by
 unfold uE
 generalize gE=B
 simp[ae,zP,yk,app]
theorem zz{v:Pl}(g:(Int×List (List (Rat×Rat)))->Option (List (List (Rat×Rat)))):uE v [ah a,ah b,ah c,ah d] ([(0,1,2),(0,2,3)],0) g (0,[])=g (1,[[ah a,ah b,ah c]]):=by
 unfold uE
 generalize gE=B
 simp[ae,zP,yk,app]
theorem Aa{v:Pl}(g:(Int×List (List (Rat×Rat)))->Option (List (List (Rat×Rat)))):uE v [ah a,ah b,ah c,ah d] ([(0,1,2),(0,2,3)],0) g (1,[[ah a,ah b,ah c]])=g (2,[[ah a,ah b,ah c],[ah a,ah c,ah d]]):=by
 unfold uE
 generalize gE=B
 simp[ae,zP,yk,app]
theorem Ab{v:Pl}(g:(Int×List (List (Rat×Rat)))->Option (List (List (Rat×Rat)))):uE v [ah a,ah b,ah c,ah d] ([(1,2,3),(0,1,3)],0) g (0,[])=g (1,[[ah b,ah c,ah d]]):=by
 unfold uE
 generalize gE=B
 simp[ae,zP,yk,app]
theorem Ac{v:Pl}(g:(Int×List (List (Rat×Rat)))->Option (List (List (Rat×Rat)))):uE v [ah a,ah b,ah c,ah d] ([(1,2,3),(0,1,3)],0) g (1,[[ah b,ah c,ah d]])=g (2,[[ah b,ah c,ah d],[ah a,ah b,ah d]]):=by
 unfold uE
 generalize gE=B
 simp[ae,zP,yk,app]
theorem Ad{v:Pl}(g:(Int×List (List (Rat×Rat)))->Option (List (List (Rat×Rat)))):uE v [ah a,ah b,ah c,ah d] ([(2,3,0),(0,1,2)],0) g (0,[])=g (1,[[ah c,ah d,ah a]]):=by
 unfold uE
 generalize gE=B
 simp[ae,zP,yk,app]
theorem Ae{v:Pl}(g:(Int×List (List (Rat×Rat)))->Option (List (List (Rat×Rat)))):uE v [ah a,ah b,ah c,ah d] ([(2,3,0),(0,1,2)],0) g (1,[[ah c,ah d,ah a]])=g (2,[[ah c,ah d,ah a],[ah a,ah b,ah c]]):=by
 unfold uE
 generalize gE=B
 simp[ae,zP,yk,app]
theorem Sk{v:Pl}{f:List (Rat×Rat)}{e:List (Int×Int×Int)}(h:e.length=2){l:List (List (Rat×Rat))}(g:(Int×List (List (Rat×Rat)))->Option (List (List (Rat×Rat)))):uE v f (e,0) g (2,l)=zk (gE v (2,l)) (zi 12) (0,l):=by
 unfold uE
 generalize gE=B
 simp[h]
theorem Sj{v:Pl}{t1 t2 u:List (Rat×Rat)}(f:IU v t1=some u)(g:(Int×List (List (Rat×Rat)))->Option (List (List (Rat×Rat)))):gE v (2,[t1,t2]) g (0,[t1,t2])=g (1,[u,t2]):=by
 unfold gE
 simp[ae,zP,yk,f,zM]
theorem Si{v:Pl}{t1 t2 u w:List (Rat×Rat)}(f:IU v t2=some u)(g:(Int×List (List (Rat×Rat)))->Option (List (List (Rat×Rat)))):gE v (2,[t1,t2]) g (1,[w,t2])=g (2,[w,u]):=by
 unfold gE
 simp[ae,zP,yk,f,zM]
theorem Sh{v:Pl}{t1 t2:List (Rat×Rat)}{l:List (List (Rat×Rat))}(g:(Int×List (List (Rat×Rat)))->Option (List (List (Rat×Rat)))):gE v (2,[t1,t2]) g (2,l)=some l:=by
 unfold gE
 simp
theorem sN(ha:Nr 1000 a)(hb:Nr 1000 b)(hc:Nr 1000 c)(hd:Nr 1000 d){p:Pc}(hp:p.2.2.1=[a,b,c,d]){v:Pl}(hv:KI a b c d=true)(e:dF v (ah a))(f:dF v (ah b))(g:dF v (ah c))(kd:dF v (ah d)):JV p v=some (gG v (vL a b c d)):=by
 rw[B3,zbE hp ha hb hc hd,aA,tx ha hb hc hd hv,aA,zF]
 unfold so vL gG
 cases wN d a b c
 case true=>
  simp only[dQ,cK,aV,List.map_cons,List.map_nil]
  rw[ze,zq,ze,zv,ze,Sk rfl,zF,ze,Sj (vZ kd e f),ze,Si (vZ f g kd),ze,Sh]
 cases wN a b c d
 case true=>
  simp only[dQ,cK,aV,List.map_cons,List.map_nil]
  rw[ze,zz,ze,Aa,ze,Sk rfl,zF,ze,Sj (vZ e f g),ze,Si (vZ e g kd),ze,Sh]
 cases wN b c d a
 case true=>
  simp only[dQ,cK,aV,List.map_cons,List.map_nil]
  rw[ze,Ab,ze,Ac,ze,Sk rfl,zF,ze,Sj (vZ f g kd),ze,Si (vZ e f kd),ze,Sh]
 simp only[dQ,cK,aV,List.map_cons,List.map_nil]
 rw[ze,Ad,ze,Ae,ze,Sk rfl,zF,ze,Sj (vZ g kd e),ze,Si (vZ e f g),ze,Sh]
end
abbrev QV(d B:Nat)(x:Rat):Prop:=QB d (d*B) x
def SB(d B:Nat):Prop:=0<d/\d*(B+1)<500000000
theorem QV.sm{d B:Nat}{x:Rat}(h:QV d B x)(g:SB d B):Sm x:=by
 obtain⟨g1,g2⟩:=g
 rw[Nat.mul_add,cG]at g2
 exact QB.sm h ⟨g1,by omega,by omega⟩
theorem QV.add{d B C:Nat}{x y:Rat}(h:QV d B x)(g:QV d C y):QV d (B+C) (x+y):=by
 have:=QB.add h g
 rw[<-Nat.mul_add]at this
 exact this
theorem QV.sub{d B C:Nat}{x y:Rat}(h:QV d B x)(g:QV d C y):QV d (B+C) (x-y):=by
 have:=QB.sub h g
 rw[<-Nat.mul_add]at this
 exact this
theorem QV.neg{d B:Nat}{x:Rat}(h:QV d B x):QV d B (-x):=QB.neg h
theorem QV.mul{d e B C:Nat}{x y:Rat}(h:QV d B x)(g:QV e C y):QV (d*e) (B*C) (x*y):=by
 have:=QB.mul h g
 rw[show d*B*(e*C)=d*e*(B*C)by ac_rfl]at this
 exact this
theorem QV.up{d B k:Nat}{x:Rat}(h:QV d B x):QV (d*k) B x:=by
 have:=QB.up (k:=k) h
 rw[show d*B*k=d*k*B by ac_rfl]at this
 exact this
theorem QV.le{d B C:Nat}{x:Rat}(h:QV d B x)(g:B<=C):QV d C x:=QB.le h (cI _ g)
theorem QV.int{n:Int}{B:Nat}(h:n.natAbs<=B):QV 1 B (qI n):=by
 show QB 1 (1*B) _
 rw[eG]
 exact QB.int h
def V2(d B:Nat)(v:Rat×Rat):Prop:=QV d B v.1/\QV d B v.2
theorem V2.up{d B k:Nat}{v:Rat×Rat}(h:V2 d B v):V2 (d*k) B v:=⟨h.1.up,h.2.up⟩
theorem V2.le{d B C:Nat}{v:Rat×Rat}(h:V2 d B v)(g:B<=C):V2 d C v:=⟨h.1.le g,h.2.le g⟩
def vx(a b:Rat×Rat):Rat×Rat:=(a.1+b.1,a.2+b.2)
def y5(a b:Rat×Rat):Rat×Rat:=(a.1-b.1,a.2-b.2)
def qR(a b:Rat×Rat):Rat:=a.1*b.1+a.2*b.2
theorem V2.add{d B C:Nat}{v w:Rat×Rat}(h:V2 d B v)(g:V2 d C w):V2 d (B+C) (vx v w):=⟨h.1.add g.1,h.2.add g.2⟩
theorem V2.sub{d B C:Nat}{v w:Rat×Rat}(h:V2 d B v)(g:V2 d C w):V2 d (B+C) (y5 v w):=⟨h.1.sub g.1,h.2.sub g.2⟩
theorem V2.dot{d e B C:Nat}{v w:Rat×Rat}(h:V2 d B v)(g:V2 e C w):QV (d*e) (B*C+B*C) (qR v w):=(h.1.mul g.1).add (h.2.mul g.2)
theorem V2.rot{d e C:Nat}{t p:Rat×Rat}(h:V2 d 1 t)(g:V2 e C p):V2 (d*e) (C+C) (yx t p):=by
 have h1:=h.1.mul g.1
 have h2:=h.2.mul g.2
 have c:=h.2.mul g.1
 have f:=h.1.mul g.2
 rw[eG]at h1 h2 c f
 exact⟨h1.sub h2,c.add f⟩
theorem u7{d e C:Nat}{t p:Rat×Rat}(h:V2 d 1 t)(g:V2 e C p)(h1:SB d 1)(h2:SB e C)(c:SB (d*e) C):fZ t p:=by
 have m:∀{x y:Rat},QV d 1 x->QV e C y->Sm (x*y):=λhx f=>by
  have:=hx.mul f
  rw[eG]at this
  exact this.sm c
 exact⟨h.1.sm h1,h.2.sm h1,g.1.sm h2,g.2.sm h2,m h.1 g.1,m h.2 g.2,m h.2 g.1,m h.1 g.2⟩
def SG(d B:Nat):Prop:=0<d/\d<1000000/\d*(B+1)<250000000000
theorem QV.sg{d B:Nat}{x:Rat}(h:QV d B x)(g:SG d B):Sg x:=by
 obtain⟨g1,g2,c⟩:=g
 rw[Nat.mul_add,cG]at c
 exact QB.sg h ⟨g1,g2,by omega⟩
def Kd(K:Nat):Prop:=0<K/\K<=289
theorem Kd.s0{K B:Nat}(h:Kd K)(g:289*(B+1)<500000000):SB K B:=⟨h.1,cD (bQ _ h.2) g⟩
theorem Kd.g0{K B:Nat}(h:Kd K)(g:289*(B+1)<250000000000):SG K B:=⟨h.1,cD h.2 Uz,cD (bQ _ h.2) g⟩
theorem Kd.s1{K c B:Nat}(h:Kd K)(g:0<c/\289*c*(B+1)<500000000):SB (K*c) B:=⟨Nat.mul_pos h.1 g.1,cD (bQ _ (bQ _ h.2)) g.2⟩
theorem Kd.g1{K c B:Nat}(h:Kd K)(g:0<c/\289*c<1000000/\289*c*(B+1)<250000000000):SG (K*c) B:=⟨Nat.mul_pos h.1 g.1,cD (bQ _ h.2) g.2.1,cD (bQ _ (bQ _ h.2)) g.2.2⟩
theorem Kd.g2{K c B:Nat}(h:Kd K)(g:0<c/\83521*c<1000000/\83521*c*(B+1)<250000000000):SG (K*(K*c)) B:=by
 have:K*(K*c)<=289*(289*c):=eE h.2 (bQ _ h.2)
 have e:289*(289*c)=83521*c:=by omega
 rw[e]at this
 exact⟨Nat.mul_pos h.1 (Nat.mul_pos h.1 g.1),cD this g.2.1,cD (bQ _ this) g.2.2⟩
section
variable{a b:Rat×Rat}
theorem Rj{d B C:Nat}(ha:V2 d B a)(hb:V2 d C b)(h:SB d B)(g:SB d C):iA a b=some (y5 a b):=by
 unfold iA
 rw[vA (ha.1.sm h) (hb.1.sm g),vA (ha.2.sm h) (hb.2.sm g)]
 rfl
theorem JZ{d B C:Nat}(ha:V2 d B a)(hb:V2 d C b)(h:SB d B)(g:SB d C):ZA a b=some (y5 a b):=by
 unfold ZA
 rw[vA (ha.1.sm h) (hb.1.sm g),vA (ha.2.sm h) (hb.2.sm g)]
 rfl
theorem Ix{d e B C:Nat}(ha:V2 d B a)(hb:V2 e C b)(h:SB d B)(g:SB e C)(hg:SG (d*e) (B*C)):Qu a b=some (qR a b):=by
 unfold Qu
 rw[xK (ha.1.sm h) (hb.1.sm g),xK (ha.2.sm h) (hb.2.sm g)]
 simp only[aA]
 rw[mL ((ha.1.mul hb.1).sg hg) ((ha.2.mul hb.2).sg hg)]
 rfl
end
theorem uC(x y:Rat):kV x y = -1/\x<y\/kV x y=1/\y<x/\¬x<y\/kV x y=0/\¬x<y/\¬y<x:=by
 unfold kV
 by_cases h:x<y
 .simp[h]
 .by_cases g:y<x<;>simp[h,g]
theorem fm{x y:Rat}:kV x y<0↔x<y:=by rcases uC x y with h|h|h<;>rw[h.1]<;>simp[h.2]
theorem Ag{x y:Rat}:kV x y = -1↔x<y:=by rcases uC x y with h|h|h<;>rw[h.1]<;>simp[h.2]
theorem Ah{x y:Rat}:kV x y=1↔y<x:=by
 rcases uC x y with h|h|h<;>rw[h.1]<;>simp[h.2]
 have:=h.2
 grind
theorem cN{x y:Rat}:0<kV x y↔y<x:=by
 rcases uC x y with h|h|h<;>rw[h.1]<;>simp[h.2]
 have:=h.2
 grind
theorem yY{α:Type}{l:List α}{i:Nat}(h:i<l.length):l.take (i+1)=l.take i++[l[i]]:=by rw[List.take_append_getElem h]
theorem Zd{a b c:Rat}(h:a<=b)(g:b<=c):a<=c:=dP h g
def fe(x y:Rat):Rat:=if y<x then y else x
def fb(x y:Rat):Rat:=if x<y then y else x
theorem Hd{x y:Rat}:fe x y<=x/\fe x y<=y:=by
 unfold fe
 split
 .rename_i h;exact⟨Rat.le_of_lt h,dH⟩
 .rename_i h;exact⟨dH,Rat.not_lt.mp h⟩
theorem Hf{x y:Rat}:x<=fb x y/\y<=fb x y:=by
 unfold fb
 split
 .rename_i h;exact⟨Rat.le_of_lt h,dH⟩
 .rename_i h;exact⟨dH,Rat.not_lt.mp h⟩
theorem uh:∀(l:List Rat) (x:Rat),(l.foldl fe x<=x/\∀y∈l,l.foldl fe x<=y)/\(l.foldl fe x=x\/l.foldl fe x∈l)
 | [],x=>⟨⟨dH,λy h=>nomatch h⟩,.inl rfl⟩
 |z::l,x=>by
  obtain⟨⟨h1,h2⟩,a⟩:=uh l (fe x z)
  obtain⟨g1,g2⟩:= @Hd x z
  refine⟨⟨Zd h1 g1,λy b=>?_⟩,?_⟩
  .rcases aJ.mp b with rfl|b
   .exact Zd h1 g2
   .exact h2 y b
  .rw[List.foldl_cons]
   rcases a with a|a
   .rw[a]
    unfold fe
    split
    .exact .inr (aO ..)
    .exact .inl rfl
   .exact .inr (aP _ a)
theorem QS:∀(l:List Rat) (x:Rat),(x<=l.foldl fb x/\∀y∈l,y<=l.foldl fb x)/\(l.foldl fb x=x\/l.foldl fb x∈l)
 | [],x=>⟨⟨dH,λy h=>nomatch h⟩,.inl rfl⟩
 |z::l,x=>by
  obtain⟨⟨h1,h2⟩,a⟩:=QS l (fb x z)
  obtain⟨g1,g2⟩:= @Hf x z
  refine⟨⟨Zd g1 h1,λy b=>?_⟩,?_⟩
  .rcases aJ.mp b with rfl|b
   .exact Zd g2 h1
   .exact h2 y b
  .rw[List.foldl_cons]
   rcases a with a|a
   .rw[a]
    unfold fb
    split
    .exact .inr (aO ..)
    .exact .inl rfl
   .exact .inr (aP _ a)
theorem IA{dir:Rat×Rat}{l:List (Rat×Rat)}(hl:l.length<12)(h:∀p∈l,Qu dir p=some (qR dir p)):mV dir l=some (l.map (qR dir)):=by
 unfold mV
 refine zl l.length (λi x=>x=((i:Int),(l.take i).map (qR dir))) (λo=>o=_) hl rfl ?_ ?_
 .rintro i x g hi rfl hg
  simp only[zV hi,dQ,zu hi,aA,h _ (aL hi),zo (show i<100000 by omega)]
  rw[yP (by simp;omega),aA]
  exact hg _ (by rw[yY hi,List.map_append];rfl)
 .rintro x g rfl
  simp
theorem Ch{x:Rat}{l:List Rat}(hl:l.length<12)(hx:Sg x)(h:∀p∈l,Sg p):Wk (-1) x l=some (l.foldl fe x)/\Sg (l.foldl fe x):=by
 have hs:Sg (l.foldl fe x):=by
  rcases(uh l x).2 with e|e
  .rw[e];exact hx
  .exact h _ e
 refine⟨?_,hs⟩
 unfold Wk
 refine zl l.length (λi y=>y=((i:Int),(l.take i).foldl fe x)) (λo=>o=_) hl rfl ?_ ?_
 .rintro i y g hi rfl hg
  have hm:Sg ((l.take i).foldl fe x):=by
   rcases(uh (l.take i) x).2 with e|e
   .rw[e];exact hx
   .exact h _ (List.mem_of_mem_take e)
  simp only[zV hi,dQ,zu hi,aA,zbg (h _ (aL hi)) hm,zo (show i<100000 by omega),Ag]
  have e:(l.take (i+1)).foldl fe x=fe ((l.take i).foldl fe x) l[i]:=by rw[yY hi,List.foldl_append];rfl
  unfold fe at e
  by_cases c:l[i]<(l.take i).foldl fe x
  .rw[aG (aH c)]
   unfold fe at c
   rw[aG c]at e
   exact hg _ (by rw[<-e];rfl)
  .rw[aD (by simp[c])]
   unfold fe at c
   rw[aD c]at e
   exact hg _ (by unfold fe;rw[<-e])
 .rintro y g rfl
  simp
theorem zgo{x:Rat}{l:List Rat}(hl:l.length<12)(hx:Sg x)(h:∀p∈l,Sg p):Wk 1 x l=some (l.foldl fb x)/\Sg (l.foldl fb x):=by
 have hs:Sg (l.foldl fb x):=by
  rcases(QS l x).2 with e|e
  .rw[e];exact hx
  .exact h _ e
 refine⟨?_,hs⟩
 unfold Wk
 refine zl l.length (λi y=>y=((i:Int),(l.take i).foldl fb x)) (λo=>o=_) hl rfl ?_ ?_
 .rintro i y g hi rfl hg
  have hm:Sg ((l.take i).foldl fb x):=by
   rcases(QS (l.take i) x).2 with e|e
   .rw[e];exact hx
   .exact h _ (List.mem_of_mem_take e)
  simp only[zV hi,dQ,zu hi,aA,zbg (h _ (aL hi)) hm,zo (show i<100000 by omega),Ah]
  have e:(l.take (i+1)).foldl fb x=fb ((l.take i).foldl fb x) l[i]:=by rw[yY hi,List.foldl_append];rfl
  unfold fb at e
  by_cases c:(l.take i).foldl fb x<l[i]
  .rw[aG (aH c)]
   unfold fb at c
   rw[aG c]at e
   exact hg _ (by rw[<-e];rfl)
  .rw[aD (by simp[c])]
   unfold fb at c
   rw[aD c]at e
   exact hg _ (by unfold fb;rw[<-e])
 .rintro y g rfl
  simp
structure cY(K:Nat)(l:List (Rat×Rat)):Prop where
 len:0<l.length/\l.length<=3
 pt:∀p∈l,V2 (K*4) 400 p
 ed:∀p∈l,∀q∈l,V2 K 64 (y5 p q)
def IS(dir:Rat×Rat):List (Rat×Rat)->Rat
 | []=>0
 |p::l=>(l.map (qR dir)).foldl fe (qR dir p)
def I5(dir:Rat×Rat):List (Rat×Rat)->Rat
 | []=>0
 |p::l=>(l.map (qR dir)).foldl fb (qR dir p)
section
variable{K:Nat}(hK:Kd K){dir:Rat×Rat}(hd:V2 K 64 dir)
include hK hd
theorem zfz{p:Rat×Rat}(h:V2 (K*4) 400 p):Qu dir p=some (qR dir p)/\QV (K*(K*4)) 51200 (qR dir p):=by
 have e1:=hK.s0 (B:=64) Uz
 have e2:=hK.s1 (c:=4) (B:=400) Uz
 have a:=hK.g2 (c:=4) (B:=64*400) Uz
 exact⟨Ix hd h e1 e2 a,(V2.dot hd h).le Uz⟩
theorem GU{l m:List (Rat×Rat)}(h1:cY K l)(h2:cY K m):Cf dir l m=some (IS dir m-I5 dir l)/\QV (K*(K*4)) 102400 (IS dir m-I5 dir l):=by
 match l,m,h1,h2 with
 |p::ps,q::b,h1,h2=>
  have j:=h1.len.2
  have k:=h2.len.2
  have s:=hK.g2 (c:=4) (B:=51200) Uz
  have f:∀{l:List (Rat×Rat)},cY K l->mV dir l=some (l.map (qR dir)):=λh=>IA (by have:=h.len.2;omega) λp hp=>(zfz hK hd (h.pt p hp)).1
  have mp:∀x∈p::ps,QV (K*(K*4)) 51200 (qR dir x):=λx hx=>(zfz hK hd (h1.pt x hx)).2
  have d:∀x∈q::b,QV (K*(K*4)) 51200 (qR dir x):=λx hx=>(zfz hK hd (h2.pt x hx)).2
  have g:=(Ch (x:=qR dir q) (l:=b.map (qR dir)) (by simp at k |-;omega) ((d _ (aO ..)).sg s) (by intro x hx;obtain⟨y,a,rfl⟩:=List.mem_map.mp hx;exact(d _ (aP _ a)).sg s))
  have i:=(zgo (x:=qR dir p) (l:=ps.map (qR dir)) (by simp at j |-;omega) ((mp _ (aO ..)).sg s) (by intro x hx;obtain⟨y,a,rfl⟩:=List.mem_map.mp hx;exact(mp _ (aP _ a)).sg s))
  have sl:∀(x:Rat) (l:List Rat),qK (x::l) 1 ((x::l).length:Int)=some l:=λx l=>by
   unfold qK
   rw[aG (by simp;omega)]
   simp
  have u1:QV (K*(K*4)) 51200 (IS dir (q::b)):=by
   rcases(uh (b.map (qR dir)) (qR dir q)).2 with e|e
   .rw[IS,e];exact d _ (aO ..)
   .obtain⟨y,a,e⟩:=List.mem_map.mp e
    rw[IS,<-e];exact d _ (aP _ a)
  have u2:QV (K*(K*4)) 51200 (I5 dir (p::ps)):=by
   rcases(QS (ps.map (qR dir)) (qR dir p)).2 with e|e
   .rw[I5,e];exact mp _ (aO ..)
   .obtain⟨y,a,e⟩:=List.mem_map.mp e
    rw[I5,<-e];exact mp _ (aP _ a)
  refine⟨?_,u1.sub u2⟩
  unfold Cf
  rw[f h1,f h2]
  simp only[aA,List.map_cons]
  rw[show ae (qR dir q::b.map (qR dir)) 0=some (qR dir q)from rfl,show ae (qR dir p::ps.map (qR dir)) 0=some (qR dir p)from rfl]
  simp only[aA]
  rw[sl,sl]
  simp only[aA]
  rw[g.1,i.1]
  simp only[aA]
  rw[BO g.2 i.2]
  rfl
 | [],_,h1,_=>exact absurd h1.len.1 Y8
 |_::_,[],_,h2=>exact absurd h2.len.1 Y8
def Cv(x:Rat):Rat:=if x<0 then -x else x
def Kv(d:Rat×Rat):Rat:=Cv d.1+Cv d.2
omit hK hd in
theorem nC{x:Rat}{B:Nat}(h:QV K B x):QV K B (Cv x):=by unfold Cv;split;exact h.neg;exact h
theorem BE{t:Rat}(i:QV 4 4 t):Cg dir t=some (t*Kv dir)/\QV (K*4) 512 (t*Kv dir):=by
 have a:=hK.s0 (B:=64) Uz
 have g0:=hK.g0 (B:=64) Uz
 have e1:=hK.s0 (B:=128) Uz
 have e:=nC hd.1
 have f:=nC hd.2
 have sz:QV K 128 (Kv dir):=e.add f
 have j:∀{x:Rat},QV K 64 x->(jL x).bind (λr=>(Wk 1 x [r]).bind λr=>some r)=some (Cv x):=λ{x} h=>by
  rw[kJ (h.sm a),aA,(zgo (x:=x) (l:=[-x]) Y8 (h.sg g0) (by intro y k;rw[bC.mp k];exact h.neg.sg g0)).1,aA]
  show some (fb x (-x))=_
  unfold fb Cv
  congr 1
  by_cases c:x<0
  .rw[aG c,aG (by grind)]
  .rw[aD c]
   by_cases g:x < -x
   .exact absurd (show x<0 by grind) c
   .rw[aD g]
 refine⟨?_,?_⟩
 .unfold Cg IB
  have b:=j hd.1
  have d:=j hd.2
  rw[kJ (hd.1.sm a),aA]at b
  rw[kJ (hd.2.sm a),aA]at d
  simp only[kJ (hd.1.sm a),kJ (hd.2.sm a),aA]
  simp only[Option.bind_fun_some]at b d
  rw[b,d]
  simp only[aA]
  rw[yE (e.sm a) (f.sm a)]
  simp only[aA]
  rw[show Cv dir.1+Cv dir.2=Kv dir from rfl,xK (i.sm ⟨by decide,by decide⟩) (sz.sm e1)]
  rfl
 .rw[Rat.mul_comm]
  exact sz.mul i
def Ka(t:Rat)(l m:List (Rat×Rat))(dir:Rat×Rat):Bool:=decide (t*Kv dir<=IS dir m-I5 dir l)
theorem HI{t:Rat}(a:QV 4 4 t){l m:List (Rat×Rat)}(h1:cY K l)(h2:cY K m):Ce dir l m t=some (Ka t l m dir):=by
 obtain⟨g1,u⟩:=GU hK hd h1 h2
 obtain⟨r1,r2⟩:=BE hK hd a
 have c:=zbg (u.sg (hK.g2 Uz)) (r2.sg (hK.g1 Uz))
 unfold Ce Ka
 rw[g1,r1,aA,aA,c,aA]
 congr 1
 rw[decide_eq_decide,<-Rat.not_lt,<-fm]
 omega
end
def uO(a b:Rat×Rat):Rat×Rat:=(b.2-a.2,a.1-b.1)
def FT(l:List (Rat×Rat))(i:Nat):Rat×Rat:=l.getD ((i+1) % l.length) (0,0)
def gw(l:List (Rat×Rat))(n:Nat):List (Rat×Rat):=(List.range n).map λi=>uO (l.getD i (0,0)) (FT l i)
def Zx(l:List (Rat×Rat))(n:Nat):List (Rat×Rat):=(List.range n).map λi=>uO (FT l i) (l.getD i (0,0))
def SD:List (Rat×Rat):=[(qI 1,qI 0),(qI 0,qI 1),(qI (-1),qI 0),(qI 0,qI (-1))]
def Qm(l m:List (Rat×Rat)):List (Rat×Rat):=gw l l.length++Zx m m.length++SD
theorem zp{α:Type}{l:List α}{i:Nat}{d:α}(h:i<l.length):l.getD i d=l[i]:=by rw[aB,aE h,bN]
theorem QQ{l:List (Rat×Rat)}{i:Nat}(h:i<l.length):FT l i∈l:=by
 unfold FT
 rw[zp (Nat.mod_lt _ Oz)]
 exact aL _
theorem QP{x y:Int}(hx:x.natAbs<1000 )(hy:y.natAbs<1000):Xd x y=some (qI x,qI y):=by
 unfold Xd
 rw[l8 Oz,l8 Oz]
 rfl
theorem Xa{α:Type}{P:α->Bool}{l:List α}{i:Nat}(hi:i<l.length)(h:(l.take i).all P=true)(g:P l[i]=true):(l.take (i+1)).all P=true:=by
 rw[yY hi,List.all_append,h,List.all_cons,g]
 rfl
theorem Q4{α:Type}{P:α->Bool}{l:List α}{i:Nat}(hi:i<l.length)(g:P l[i]=false):l.all P=false:=by
 rw[<-Bool.not_eq_true,List.all_eq_true]
 intro h
 rw[h _ (aL hi)]at g
 exact absurd g Uz
section
variable{K:Nat}(hK:Kd K)
include hK
theorem Sd{l:List (Rat×Rat)}(h:cY K l){p q:Rat×Rat}(hp:p∈l)(b:q∈l):tA p q=some (uO p q)/\V2 K 64 (uO p q):=by
 have s:=hK.s1 (c:=4) (B:=400) Uz
 have a:=h.pt _ hp
 have d:=h.pt _ b
 have e1:=h.ed _ hp _ b
 have e2:=h.ed _ b _ hp
 have e:=hK.s0 (B:=64) Uz
 refine⟨?_,e2.2,e1.1⟩
 unfold tA
 rw[JZ d a s s]
 simp only[aA]
 rw[kJ (e2.1.sm e)]
 show some (q.2-p.2,-(q.1-p.1))=some (q.2-p.2,p.1-q.1)
 rw[Rat.neg_sub]
theorem lh{l:List (Rat×Rat)}(h:cY K l):∀d∈gw l l.length,V2 K 64 d:=by
 intro d hd
 obtain⟨i,hi,rfl⟩:=List.mem_map.mp hd
 have hi:=dX.mp hi
 rw[zp hi]
 exact(Sd hK h (aL hi) (QQ hi)).2
theorem lj{l:List (Rat×Rat)}(h:cY K l):∀d∈Zx l l.length,V2 K 64 d:=by
 intro d hd
 obtain⟨i,hi,rfl⟩:=List.mem_map.mp hd
 have hi:=dX.mp hi
 rw[zp hi]
 exact(Sd hK h (QQ hi) (aL hi)).2
omit hK in
theorem nP:∀d∈SD,V2 K 64 d:=by
 have e:∀{n:Int},n.natAbs<=1->QV K 64 (qI n):=λ{n} h=>by
  have:=(QV.int (B:=64) (show n.natAbs<=64 by omega)).up (k:=K)
  rw[eG]at this
  exact this
 have a:=e (n:=0) Uz
 have e1:=e (n:=1) Uz
 have e2:=e (n:= -1) Uz
 intro d hd
 simp only[SD,aJ,aY,or_false]at hd
 rcases hd with rfl|rfl|rfl|rfl
 .exact⟨e1,a⟩
 .exact⟨a,e1⟩
 .exact⟨e2,a⟩
 .exact⟨a,e2⟩
theorem oB{l m:List (Rat×Rat)}(h:cY K l)(g:cY K m):∀d∈Qm l m,V2 K 64 d:=by
 intro d hd
 rcases aW.mp hd with hd|hd
 .rcases aW.mp hd with hd|hd
  .exact lh hK h d hd
  .exact lj hK g d hd
 .exact nP d hd
omit hK in
theorem Xr{α:Type}(f:Nat->α)(i:Nat):(List.range (i+1)).map f=(List.range i).map f++[f i]:=by rw[List.range_succ,List.map_append];rfl
omit hK in
theorem pL{l:List (Rat×Rat)}{i:Nat}(hi:i<l.length):ae l (Int.tmod ((i+1:Nat):Int) (l.length:Int))=some (FT l i):=by
 have hm:(i+1) % l.length<l.length:=Nat.mod_lt _ Oz
 rw[show Int.tmod ((i+1:Nat):Int) (l.length:Int)=(((i+1) % l.length:Nat):Int)from rfl,zu hm]
 unfold FT
 rw[zp hm]
theorem oA{l m:List (Rat×Rat)}(h:cY K l)(g:cY K m):Cd l m=some (Qm l m):=by
 have l1:=h.len
 have l2:=g.len
 unfold Cd
 refine zl l.length (λi x=>x=((i:Int),gw l i)) (λo=>o=_) Oz rfl ?_ ?_
 .rintro i x k hi rfl hk
  rw[aG (zV hi)]
  simp only[zu hi,aA,zo (show i<100000 by omega)]
  rw[aD Oz,pL hi]
  simp only[aA]
  rw[(Sd hK h (aL hi) (QQ hi)).1]
  simp only[aA]
  rw[yP (by simp[gw];omega)]
  refine hk _ ?_
  unfold gw
  rw[Xr,zp hi]
 .rintro x k rfl
  rw[aD Y8]
  refine zl m.length (λi x=>x=((i:Int),gw l l.length++Zx m i)) (λo=>o=_) Oz (by simp[Zx]) ?_ ?_
  .rintro i x k hi rfl hk
   rw[aG (zV hi)]
   simp only[zu hi,aA,zo (show i<100000 by omega)]
   rw[aD Oz,pL hi]
   simp only[aA]
   rw[(Sd hK g (QQ hi) (aL hi)).1]
   simp only[aA]
   rw[yP (by simp[gw,Zx];omega)]
   refine hk _ ?_
   unfold Zx
   rw[Xr,zp hi,bF]
  .rintro x k rfl
   rw[aD Y8,QP Uz Uz,QP Uz Uz,QP Uz Uz,QP Uz Uz]
   simp only[aA]
   rw[yP (by simp[gw,Zx];omega)]
   rfl
def uK(t:Rat)(l m:List (Rat×Rat)):Bool:=(Qm l m).any (Ka t l m)
def V8(t:Rat)(l m:List (List (Rat×Rat))):Bool:=l.all λx=>m.all λy=>uK t x y
omit hK in
theorem nK{α:Type}{P:α->Bool}{l:List α}{i:Nat}(hi:i<l.length)(h:(l.take i).any P=false)(g:P l[i]=false):(l.take (i+1)).any P=false:=by
 rw[yY hi,List.any_append,h,List.any_cons,g];rfl
theorem Az{t:Rat}(a:QV 4 4 t){l m:List (Rat×Rat)}(h:cY K l)(g:cY K m):∃d,B9 l m t=some (d,uK t l m):=by
 have l1:=h.len
 have l2:=g.len
 have hm:=oB hK h g
 have hl:(Qm l m).length<12:=by simp[Qm,gw,Zx,SD];omega
 unfold B9 uK
 rw[oA hK h g]
 simp only[aA]
 generalize Qm l m=D at *
 refine zl D.length (λi x=>x.1=(i:Int)/\(D.take i).any (Ka t l m)=false) (λo=>∃d,o=some (d,D.any (Ka t l m))) hl ⟨rfl,rfl⟩ ?_ ?_
 .rintro i ⟨x,y,z⟩ k hi ⟨rfl,hn⟩ hk
  have e1:=HI hK (hm _ (aL hi)) a h g
  simp only[zV hi,dQ,zu hi,aA,e1,zo (show i<100000 by omega)]
  cases hb:Ka t l m D[i]
  .exact hk _ ⟨rfl,nK hi hn hb⟩
  .exact⟨_,by rw[dT.mpr ⟨_,aL hi,hb⟩];rfl⟩
 .rintro⟨x,y,z⟩ k ⟨rfl,hn⟩
  rw[bE]at hn
  simp only[Int.lt_irrefl,dR,aV,cK,hn]
  exact⟨_,rfl⟩
theorem nI{t:Rat}(e:QV 4 4 t){l m:List (List (Rat×Rat))}(h:∀x∈l,cY K x)(g:∀x∈m,cY K x)(hl:l.length<5)(hm:m.length<5):∃d,sM l m t=some (d,V8 t l m):=by
 unfold sM
 refine zl l.length (λi x=>x.1=(i:Int)/\(l.take i).all (λx=>m.all λy=>uK t x y)=true/\x.2.2.length<=12*i) (λo=>∃d,o=some (d,V8 t l m)) hl ⟨rfl,rfl,by simp⟩ ?_ ?_
 .rintro i ⟨x,b,y⟩ k hi ⟨rfl,ha,c⟩ hk
  have c:y.length<=12*i:=c
  simp only[zV hi,dQ,zu hi,aA]
  refine zl m.length (λj x=>x.1=(j:Int)/\(m.take j).all (λy=>uK t l[i] y)=true/\x.2.2.length<=12*i+j) (λo=>∃d,o=some (d,V8 t l m)) hm ⟨rfl,rfl,c⟩ ?_ ?_
  .rintro j ⟨x,b,z⟩ k hj ⟨rfl,hb,a⟩ hk
   have a:z.length<=12*i+j:=a
   obtain⟨d,e1⟩:=Az hK e (h _ (aL hi)) (g _ (aL hj))
   simp only[zV hj,dQ,zu hj,aA,e1]
   cases hf:uK t l[i] m[j]
   .refine⟨[],?_⟩
    rw[show V8 t l m=false from Q4 hi (Q4 hj hf)]
    rfl
   .simp only[eJ,aV,cK]
    rw[yP (by simp;omega)]
    simp only[aA,zo (show j<100000 by omega)]
    exact hk _ ⟨rfl,Xa hj hb hf,by simp;omega⟩
  .rintro⟨x,b,z⟩ k ⟨rfl,hb,a⟩
   rw[bE]at hb
   simp only[Int.lt_irrefl,dR,aV,cK,zo (show i<100000 by omega),aA]
   have a:z.length<=12*i+m.length:=a
   exact hk _ ⟨rfl,Xa hi ha hb,by show z.length<=_;omega⟩
 .rintro⟨x,b,y⟩ k ⟨rfl,ha,c⟩
  rw[bE]at ha
  simp only[Int.lt_irrefl,dR,aV,cK,V8,ha]
  exact⟨_,rfl⟩
end
theorem QV.upl{d B k:Nat}{x:Rat}(h:QV d B x):QV (k*d) B x:=by rw[Nat.mul_comm];exact h.up
structure ij(l:List (Int×Int)):Prop where
 ex:∃a b c d,l=[a,b,c,d]/\(Nr 12 a/\Nr 12 b/\Nr 12 c/\Nr 12 d)/\jc a b c d=true
structure bm(p:Pc):Prop where
 quad:ij p.2.2.1
 id:0<=p.1/\p.1<=999
 home:0<=p.2.1/\p.2.1<=4
 worn:p.2.2.2.1.length=4
 marks:p.2.2.2.2.1=[0,0,0,0]
 tol:QV 4 2 p.2.2.2.2.2.1/\0<=p.2.2.2.2.2.1
 light:QV 2 10 p.2.2.2.2.2.2.1/\0<p.2.2.2.2.2.2.1
 heavy:QV 2 10 p.2.2.2.2.2.2.2.1/\p.2.2.2.2.2.2.1<=p.2.2.2.2.2.2.2.1
 strength:p.2.2.2.2.2.2.2.2.1=qI 100
 rough:p.2.2.2.2.2.2.2.2.2=Rat.divInt 1 2
structure eV(K:Nat)(v:Pl):Prop where
 turn:V2 K 1 v.1
 at':V2 (K*4) 360 v.2
theorem kN{N:Nat}{a:Int×Int}(h:Nr N a):V2 1 N (ah a):=⟨QV.int h.1,QV.int h.2⟩
section
variable{K:Nat}(hK:Kd K){v:Pl}(hv:eV K v)
include hK hv
theorem rE{a:Int×Int}(h:Nr 12 a):fZ v.1 (ah a)/\V2 K 24 (yx v.1 (ah a)):=by
 have hp:=kN h
 have:=V2.rot hv.turn hp
 rw[cG]at this
 exact⟨u7 hv.turn hp (hK.s0 Uz) ⟨by decide,by decide⟩ (hK.s1 Uz),this⟩
theorem Rn{a:Int×Int}(h:Nr 12 a):dF v (ah a)/\V2 (K*4) 400 (vJ v (ah a)):=by
 obtain⟨h1,h2⟩:=rE hK hv h
 have s:=hK.s0 (B:=24) Uz
 have s2:=hK.s1 (c:=4) (B:=360) Uz
 exact⟨⟨h1,h2.1.sm s,h2.2.sm s,hv.at'.1.sm s2,hv.at'.2.sm s2⟩,(h2.up.add hv.at').le Uz⟩
theorem BA{a b:Int×Int}(h:Nr 12 a)(g:Nr 12 b):V2 K 64 (y5 (vJ v (ah a)) (vJ v (ah b))):=by
 have:=(rE hK hv h).2.sub (rE hK hv g).2
 have e:y5 (vJ v (ah a)) (vJ v (ah b))=y5 (yx v.1 (ah a)) (yx v.1 (ah b)):=by
  unfold y5 vJ
  exact Prod.ext (by show _=_;grind) (by show _=_;grind)
 rw[e]
 exact this.le Uz
theorem Xg{a b c:Int×Int}(ha:Nr 12 a)(hb:Nr 12 b)(hc:Nr 12 c):cY K ([a,b,c].map λp=>vJ v (ah p)):=by
 have hm:∀x∈[a,b,c],Nr 12 x:=by
  intro x hx
  simp only[aJ,aY,or_false]at hx
  rcases hx with rfl|rfl|rfl
  .exact ha
  .exact hb
  .exact hc
 refine⟨by simp,λp hp=>?_,λp hp q d=>?_⟩
 .obtain⟨x,hx,rfl⟩:=List.mem_map.mp hp
  exact(Rn hK hv (hm _ hx)).2
 .obtain⟨x,hx,rfl⟩:=List.mem_map.mp hp
  obtain⟨y,e,rfl⟩:=List.mem_map.mp d
  exact BA hK hv (hm _ hx) (hm _ e)
def kW(p:Pc)(v:Pl):List (List (Rat×Rat)):=match p.2.2.1 with
 | [a,b,c,d]=>gG v (vL a b c d)
 |_=>[]
theorem Y3{p:Pc}(hp:bm p):JV p v=some (kW p v)/\(kW p v).length=2/\∀x∈kW p v,cY K x:=by
 obtain⟨a,b,c,d,e,⟨ha,hb,hc,hd⟩,l⟩:=hp.quad.ex
 have g:=ha.le (M:=1000) Uz
 have h:=hb.le (M:=1000) Uz
 have i:=hc.le (M:=1000) Uz
 have j:=hd.le (M:=1000) Uz
 have m:=(Rn hK hv ha).1
 have n:=(Rn hK hv hb).1
 have o:=(Rn hK hv hc).1
 have kd:=(Rn hK hv hd).1
 have k:kW p v=gG v (vL a b c d):=by unfold kW;rw[e]
 rw[k]
 refine⟨sN g h i j e (fg.trans l) m n o kd,?_,?_⟩
 .unfold gG vL
  rw[bI]
  split
  .rfl
  split
  .rfl
  split
  .rfl
  .rfl
 .intro x hx
  unfold gG at hx
  obtain⟨t,f,rfl⟩:=List.mem_map.mp hx
  have key:t=[d,a,b]\/t=[b,c,d]\/t=[a,b,c]\/t=[a,c,d]\/t=[a,b,d]\/t=[c,d,a]:=by
   unfold vL at f
   split at f
   .simp only[aJ,aY,or_false]at f;rcases f with rfl|rfl<;>simp
   split at f
   .simp only[aJ,aY,or_false]at f;rcases f with rfl|rfl<;>simp
   split at f
   .simp only[aJ,aY,or_false]at f;rcases f with rfl|rfl<;>simp
   .simp only[aJ,aY,or_false]at f;rcases f with rfl|rfl<;>simp
  rcases key with rfl|rfl|rfl|rfl|rfl|rfl
  .exact Xg hK hv hd ha hb
  .exact Xg hK hv hb hc hd
  .exact Xg hK hv ha hb hc
  .exact Xg hK hv ha hc hd
  .exact Xg hK hv ha hb hd
  .exact Xg hK hv hc hd ha
def Jb(p q:Pc)(v w:Pl):Bool:= !V8 (-(p.2.2.2.2.2.1+q.2.2.2.2.2.1)) (kW p v) (kW q w)
theorem AM{p q:Pc}(hp:bm p)(a:bm q){w:Pl}(hw:eV K w):mQ p q v w=some (Jb p q v w):=by
 obtain⟨b,a3,c⟩:=Y3 hK hv hp
 obtain⟨d,b3,e⟩:=Y3 hK hw a
 have f:=(hp.tol.1.add a.tol.1).neg
 have s:SB 4 4:=⟨by decide,by decide⟩
 obtain⟨r,e1⟩:=nI hK f c e Oz Oz
 unfold mQ Jb
 rw[b,d]
 simp only[aA]
 rw[yE (hp.tol.1.sm ⟨by decide,by decide⟩) (a.tol.1.sm ⟨by decide,by decide⟩)]
 simp only[aA]
 rw[kJ ((hp.tol.1.add a.tol.1).sm s)]
 simp only[aA]
 rw[e1]
 rfl
end
theorem Aj(x y:Int×Int):∃r,B6 x y=some r:=by
 unfold B6 IY JR
 simp only[aA]
 repeat' (first|exact⟨_,rfl⟩|(split;skip))
section
variable{P:List Pc}{A:List Pl}{mt:Nat->Nat->Bool}
theorem pB{n:Nat}(hn:n<=4)(D:P.length=n)(hA:A.length=n)(z:∀i k (hi:i<k) (hk:k<n),mQ (P[i]'Oz) P[k] (A[i]'Oz) A[k]=some (mt i k))(m:Int)(bit:Nat->Bool)
 (p:∀i,i<n->decide (F7 (Int.fdiv m (2 ^ min i 64)) 1=1)=bit i) :
 ∃l,BZ P A m=some l/\(0<l.length↔∃i k,i<k/\k<n/\bit i=true/\bit k=true/\mt i k=true):=by
 generalize G:(∃i k,i<k/\k<n/\bit i=true/\bit k=true/\mt i k=true)=C
 unfold BZ
 refine zl n (λk (x:Int×List (Int×Int))=>x.1=(k:Int)/\x.2.length<=3*k/\(0<x.2.length↔∃i j,i<j/\j<k/\bit i=true/\bit j=true/\mt i j=true)) (λ(o:Option (List (Int×Int)))=>∃l,o=some l/\(0<l.length↔C)) ?_ ?_ ?_ ?_
 .omega
 .refine⟨rfl,by simp,⟨λh=>absurd h Y8,?_⟩⟩
  rintro⟨i,j,a,b,c⟩
  omega
 .rintro k ⟨x,L⟩ g hk ⟨rfl,h1,h2⟩ hg
  rw[aG (by rw[D];exact zV hk)]
  refine zl k (λi (y:Int×List (Int×Int))=>y.1=(i:Int)/\y.2.length<=3*k+i/\(0<y.2.length↔∃d j,d<j/\(j<k\/j=k/\d<i)/\bit d=true/\bit j=true/\mt d j=true)) (λ(o:Option (List (Int×Int)))=>∃l,o=some l/\(0<l.length↔C)) ?_ ?_ ?_ ?_
  .omega
  .refine⟨rfl,h1,h2.trans ⟨?_,?_⟩⟩
   .rintro⟨d,j,a,b,c⟩
    exact⟨d,j,a,by omega,c⟩
   .rintro⟨d,j,a,b,c⟩
    exact⟨d,j,a,by omega,c⟩
  .rintro i ⟨y,L'⟩ w hi ⟨rfl,e1,e2⟩ f
   have e1:L'.length<=3*k+i:=e1
   rw[aG (zV hi),aG Oz]
   simp only[Int.toNat_natCast,p i Oz,p k hk]
   have stay:(bit i=true->bit k=true->mt i k=false)->∀y,y=(((i+1:Nat):Int),L')->(y.1=((i+1:Nat):Int)/\y.2.length<=3*k+(i+1)/\(0<y.2.length↔∃d j,d<j/\(j<k\/j=k/\d<i+1)/\bit d=true/\bit j=true/\mt d j=true)):=by
    rintro B y rfl
    refine⟨rfl,by show L'.length<=_;omega,e2.trans ⟨?_,?_⟩⟩
    .rintro⟨d,j,a,b,c⟩
     exact⟨d,j,a,by omega,c⟩
    .rintro⟨d,j,a,b,c⟩
     refine⟨d,j,a,?_,c⟩
     rcases b with b|⟨rfl,b⟩
     .exact .inl b
     .refine .inr ⟨rfl,?_⟩
      apply cX
      intro hc
      obtain rfl:d=i:=by omega
      rw[B c.1 c.2.1]at c
      exact absurd c.2.2 Uz
   by_cases s:bit i=true
   .rw[aG s,aG Oz]
    by_cases u:bit k=true
    .rw[aG u]
     simp only[zu (show i<P.length by omega),zu (show k<P.length by omega),zu (show i<A.length by omega),zu (show k<A.length by omega),aA,z i k hi hk,zo (show i<100000 by omega)]
     by_cases v:mt i k=true
     .rw[aG v,yP (by simp;omega)]
      refine f _ ⟨rfl,by simp;omega,⟨λ_=>⟨i,k,hi,.inr ⟨rfl,by omega⟩,s,u,v⟩,λ_=>by simp⟩⟩
     .rw[aD v]
      exact f _ (stay (λ_ _=>by simpa using v) _ rfl)
    .rw[aD u,zo (show i<100000 by omega)]
     exact f _ (stay (λ_ h=>absurd h u) _ rfl)
   .rw[aD s,zo (show i<100000 by omega)]
    exact f _ (stay (λh=>absurd h s) _ rfl)
  .rintro⟨y,L'⟩ w ⟨rfl,e1,e2⟩
   have e1:L'.length<=3*k+k:=e1
   rw[aD Y8,zo (show k<100000 by omega)]
   refine hg _ ⟨rfl,by show L'.length<=_;omega,e2.trans ⟨?_,?_⟩⟩
   .rintro⟨d,j,a,b,c⟩
    exact⟨d,j,a,by omega,c⟩
   .rintro⟨d,j,a,b,c⟩
    exact⟨d,j,a,by omega,c⟩
 .rintro⟨x,L⟩ g ⟨rfl,h1,h2⟩
  have h1:L.length<=3*n:=h1
  have hL:L.length<=12:=by omega
  have em:(L.length:Int) % 18446744073709551616=(L.length:Int):=by omega
  rw[aD (by rw[D];simp)]
  dsimp only
  rw[em,aG ⟨by omega,by omega⟩]
  rw[show((L.length:Int)-0)=(L.length:Int)by omega,xd Oz,aA,aG (aH Oz)]
  have fin:∀{o:Option (List (Int×Int))},(∃l,o=some l/\l.length=L.length)->∃l,o=some l/\(0<l.length↔C):=by
   rw[<-G]
   rintro o ⟨l,rfl,e⟩
   exact⟨l,rfl,by rw[e];exact h2⟩
  refine fin (zl (L.length-1) (λi (x:Int×List (Int×Int))=>x.1=((i+1:Nat):Int)/\x.2.length=L.length) (λ(o:Option (List (Int×Int)))=>∃l,o=some l/\l.length=L.length) ?_ ⟨rfl,rfl⟩ ?_ ?_)
  .omega
  .rintro i ⟨x,M⟩ g hi ⟨rfl,e⟩ hg
   have e:M.length=L.length:=e
   rw[aG (aH (show((i+1:Nat):Int)<(L.length:Int)by omega))]
   refine zl (i+1) (λt (x:Int×List (Int×Int))=>t<=i+1/\x.1=((i+1-t:Nat):Int)/\x.2.length=L.length) (λ(o:Option (List (Int×Int)))=>∃l,o=some l/\l.length=L.length) ?_ ⟨by omega,rfl,e⟩ ?_ ?_
   .omega
   .rintro t ⟨x,M'⟩ w ht ⟨F,rfl,q⟩ f
    have q:M'.length=L.length:=q
    have p1:i+1-t<M'.length:=by omega
    have p2:i+1-t-1<M'.length:=by omega
    have E:(((i+1-t:Nat):Int)-1)=((i+1-t-1:Nat):Int):=by omega
    obtain⟨r,H⟩:=Aj M'[i+1-t] M'[i+1-t-1]
    rw[aG (aH Oz)]
    simp only[zu p1,aA]
    rw[E,xd (show(((i+1-t-1:Nat):Int)).natAbs<_ by omega)]
    simp only[aA,zu p2,H]
    by_cases c:r<0
    .rw[aG (aH c)]
     rw[zu (show i+1-t-1<(zM M' (Int.toNat ((i+1-t:Nat):Int)) M'[i+1-t-1]).length by rw[y9];exact p2)]
     simp only[aA]
     exact f _ ⟨by omega,by show _=_;omega,by simp only[y9];exact q⟩
    .rw[aD (by simp only[aC];exact c),zo (show i+1<100000 by omega)]
     exact hg _ ⟨rfl,q⟩
   .rintro⟨x,M'⟩ w ⟨F,rfl,q⟩
    rw[aD (by simp only[aC];omega),zo (show i+1<100000 by omega)]
    exact hg _ ⟨rfl,q⟩
  .rintro⟨x,M⟩ g ⟨rfl,e⟩
   have e:M.length=L.length:=e
   rw[aD (by simp only[aC];omega)]
   exact⟨M,rfl,e⟩
end
def E6(f:Nat->Bool):Nat->Int
 |0=>0
 |k+1=>if f k=true then Ov (E6 f k) (2 ^ k)else E6 f k
theorem AN(f:Nat->Bool){n i:Nat}(hn:n<=4)(hi:i<n):decide (F7 (Int.fdiv (E6 f n) (2 ^ min i 64)) 1=1)=f i:=by
 have h:∀a b c d:Bool,f 0=a->f 1=b->f 2=c->f 3=d->decide (F7 (Int.fdiv (E6 f n) (2 ^ min i 64)) 1=1)=f i:=by
  intro a b c d h0 h1 h2 g
  have e:n=1\/n=2\/n=3\/n=4:=by omega
  have j:i=0\/i=1\/i=2\/i=3:=by omega
  rcases e with rfl|rfl|rfl|rfl<;>rcases j with rfl|rfl|rfl|rfl<;>(try omega)<;>simp only[E6,h0,h1,h2,g]<;>clear h0 h1 h2 g hn hi f<;>revert a b c d<;>decide
 exact h _ _ _ _ rfl rfl rfl rfl
section
variable{P:List Pc}{A:List Pl}{R:List Int}{mt:Nat->Nat->Bool}{n:Nat}(hn:n<=4)(hP:P.length=n)(hA:A.length=n)(hR:R.length=n)(hr:∀i (hi:i<n),0<=R[i]/\R[i]<n)
include hn hP hA hR
include hr in
theorem lg(s:∀i k (hi:i<k) (hk:k<n),mQ (P[i]'Oz) P[k] (A[i]'Oz) A[k]=some (mt i k))(c:Bool)(hc:c=true↔∃i k,∃(hi:i<k) (hk:k<n),R[i]=R[k]/\mt i k=true):Cl P R A=some c:=by
 unfold Cl
 refine zl n (λr x=>x=(r:Int)/\¬ ∃i k,∃(hi:i<k) (hk:k<n),R[i]=R[k]/\R[i]<r/\mt i k=true) (λo=>o=some c) Oz ⟨rfl,by rintro⟨i,k,hi,hk,a,b,d⟩;have:=hr i Oz;omega⟩ ?_ ?_
 .rintro r x g hi ⟨rfl,m⟩ hg
  rw[aG (by rw[hP];exact zV hi)]
  refine zl n (λk y=>y=(E6 (λi=>decide (R.getD i 0=(r:Int))) k,(k:Int))) (λo=>o=some c) Oz rfl ?_ ?_
  .rintro k y t hk rfl p
   have j:k<R.length:=by omega
   rw[aG (by rw[hR];exact zV hk)]
   simp only[zu j,aA,zo (show k<100000 by omega)]
   by_cases h:R[k]=(r:Int)
   .rw[aG (aH h),aG ⟨by omega,by omega⟩]
    have e:(1:Int)*2 ^ (Int.toNat (k:Int))=2 ^ k:=by rw[Int.toNat_natCast,Int.one_mul]
    have e2:i64 ((2:Int) ^ k)=some (2 ^ k):=by
     have:k=0\/k=1\/k=2\/k=3:=by omega
     rcases this with rfl|rfl|rfl|rfl<;>exact xd Uz
    rw[e,e2]
    exact p _ (by simp only[E6,zp j,h,decide_true,dQ])
   .rw[aD (by simp only[aC];exact h)]
    exact p _ (by simp only[E6,zp j,h,dR,aV,cK])
  .rintro y t rfl
   rw[aD (by rw[hR];simp)]
   obtain⟨l,h1,h2⟩:=pB hn hP hA s _ (λi=>decide (R.getD i 0=(r:Int))) (λi hi=>AN _ hn hi)
   simp only[h1,aA]
   by_cases h:0<l.length
   .rw[aG (aH Oz)]
    obtain⟨i,k,a,b,d,e,f⟩:=h2.mp h
    rw[zp Oz]at d e
    congr 1
    refine(hc.mpr ⟨i,k,a,b,?_,f⟩).symm
    rw[cO d,cO e]
   .rw[aD (by simp only[aC];omega),zo (show r<100000 by omega)]
    refine hg _ ⟨rfl,?_⟩
    rintro⟨i,k,a,b,d,e,f⟩
    by_cases q:R[i]=(r:Int)
    .refine h (h2.mpr ⟨i,k,a,b,?_,?_,f⟩)
     .rw[zp Oz];exact aH q
     .rw[zp Oz];exact aH Oz
    .exact m ⟨i,k,a,b,d,by omega,f⟩
 .rintro x g ⟨rfl,m⟩
  rw[aD (by rw[hP];simp)]
  congr 1
  cases c
  .rfl
  .obtain⟨i,k,a,b,d,e⟩:=hc.mp rfl
   exact absurd ⟨i,k,a,b,d,(hr i Oz).2,e⟩ m
end
def kE(P:List Pc)(R:List Int)(A:List Pl):Bool:=(List.range P.length).any λk=>(List.range k).any λi=>decide (R.getD i 0=R.getD k 0)&&Jb (P.getD i default) (P.getD k default) (A.getD i default) (A.getD k default)
theorem zdv{K n:Nat}(a:Kd K){P:List Pc}{A:List Pl}{R:List Int}(hn:n<=4)(hP:P.length=n)(hA:A.length=n)(hR:R.length=n)(hr:∀i (hi:i<n),0<=R[i]/\R[i]<n)(hp:∀p∈P,bm p)(hv:∀v∈A,eV K v):Cl P R A=some (kE P R A):=by
 refine lg hn hP hA hR hr (mt:=λi k=>Jb (P.getD i default) (P.getD k default) (A.getD i default) (A.getD k default)) (λi k hi hk=>?_) _ ?_
 .rw[zp (show i<P.length by omega),zp (show k<P.length by omega),zp (show i<A.length by omega),zp (show k<A.length by omega)]
  exact AM a (hv _ (aL _)) (hp _ (aL _)) (hp _ (aL _)) (hv _ (aL _))
 .unfold kE
  simp only[dT,dX,aF,aC]
  constructor
  .rintro⟨k,hk,i,hi,e,m⟩
   rw[zp (show i<R.length by omega),zp (show k<R.length by omega)]at e
   exact⟨i,k,hi,by omega,e,m⟩
  .rintro⟨i,k,hi,hk,e,m⟩
   refine⟨k,by omega,i,hi,?_,m⟩
   rw[zp (show i<R.length by omega),zp (show k<R.length by omega)]
   exact e
theorem zaG{α:Type}{l:List α}{a:Int}(h0:0<=a)(h1:a<l.length):∃x∈l,ae l a=some x:=by
 obtain⟨k,rfl⟩:=Int.eq_ofNat_of_zero_le h0
 have:k<l.length:=by omega
 exact⟨l[k],aL this,zu this⟩
structure tU(n:Nat)(f:Fq):Prop where
 a0:0<=f.1
 ab:f.1<f.2.1
 bn:f.2.1<n
 e1:0<=f.2.2.1/\f.2.2.1<4
 e2:0<=f.2.2.2.1/\f.2.2.2.1<4
 m:1<=f.2.2.2.2.1/\f.2.2.2.2.1<4
theorem qB{p:Pc}(hp:bm p):p.2.2.1.length=4/\IM p=some (p.2.2.1.map ah)/\JX p=some (p.2.2.1.map ah)/\(∀x∈p.2.2.1,Nr 12 x)/\Rd (p.2.2.1.map ah)=some true/\mO (p.2.2.1.map ah)=some true:=by
 obtain⟨a,b,c,d,e,⟨ha,hb,hc,hd⟩,k⟩:=hp.quad.ex
 have g:=ha.le (M:=1000) Uz
 have h:=hb.le (M:=1000) Uz
 have i:=hc.le (M:=1000) Uz
 have j:=hd.le (M:=1000) Uz
 have h1:=zgm e g h i j
 have h2:=zbE e g h i j
 rw[e]
 refine⟨rfl,h1,h2,λx hx=>?_,?_,?_⟩
 .simp only[aJ,aY,or_false]at hx
  rcases hx with rfl|rfl|rfl|rfl
  .exact ha
  .exact hb
  .exact hc
  .exact hd
 .rw[<-k];exact zgn g h i j
 .rw[<-k,<-fg];exact zbA g h i j
abbrev Bd:=Int×Int×Rat
def nc(K n:Nat)(e:Bd):Prop:=(0<=e.1/\e.1<n)/\(0<=e.2.1/\e.2.1<n)/\QV (K*4) 60 e.2.2
def SF(K n m:Nat)(L:List Bd):Prop:=L.length<=m/\∀e∈L,nc K n e
def ER(p:Pc)(j:Int):Rat×Rat:=ah (p.2.2.1.getD (Int.tmod j 4).toNat (0,0))
def YF(P:List Pc)(v:Int):Pc:=P.getD v.toNat default
def q6(T:List (Rat×Rat))(v:Int):(Rat×Rat):=T.getD v.toNat default
def fp(P:List Pc)(T:List (Rat×Rat))(f:Fq)(k:Nat):Rat×Rat:=y5 (yx (q6 T f.1) (ER (YF P f.1) (f.2.2.1+k))) (yx (q6 T f.2.1) (ER (YF P f.2.1) (f.2.2.2.1+1-k+4)))
def wn(P:List Pc)(f:Fq):Rat:=(YF P f.1).2.2.2.2.2.1+(YF P f.2.1).2.2.2.2.2.1
def bj(f:Fq):Nat:=f.2.2.2.2.1.toNat
def iP(a b:Int)(d e:Rat):List Bd:=[(a,b,d+e),(b,a,e-d)]
def EN(P:List Pc)(T:List (Rat×Rat))(f:Fq):List Bd:=(List.range (bj f+1)).flatMap λk=>iP f.1 f.2.1 (fp P T f k).1 (wn P f)
def EO(P:List Pc)(T:List (Rat×Rat))(f:Fq):List Bd:=(List.range (bj f+1)).flatMap λk=>iP f.1 f.2.1 (fp P T f k).2 (wn P f)
def Yb(P:List Pc)(T:List (Rat×Rat))(F:List Fq):List Bd:=F.flatMap (EN P T)
def Xb(P:List Pc)(T:List (Rat×Rat))(F:List Fq):List Bd:=F.flatMap (EO P T)
def jW(F:List Fq)(m:Nat):List Int:=(List.range m).flatMap λj=>List.replicate (2*(bj (F.getD j default)+1)) (j:Int)
theorem ZO{a b:Int}{d:Nat->Rat}{e:Rat}:∀m:Nat,((List.range m).flatMap λk=>iP a b (d k) e).length=2*m
 |0=>rfl
 |m+1=>by rw[List.range_succ,List.flatMap_append,aQ,ZO m];show 2*m+2=_;omega
theorem zgC{a b:Int}{d:Nat->Rat}{e:Rat}(m:Nat):((List.range (m+1)).flatMap λk=>iP a b (d k) e)=((List.range m).flatMap λk=>iP a b (d k) e)++[(a,b,d m+e),(b,a,e-d m)]:=by
 rw[List.range_succ,List.flatMap_append];rfl
theorem zev{F:List Fq}{i:Nat}:jW F (i+1)=jW F i++List.replicate (2*(bj (F.getD i default)+1)) (i:Int):=by
 unfold jW
 rw[List.range_succ,List.flatMap_append]
 simp
theorem rD{x:Int}{k:Nat}:List.replicate (2*k) x++[x,x]=List.replicate (2*(k+1)) x:=by
 rw[show 2*(k+1)=2*k+1+1 by omega,List.replicate_succ',List.replicate_succ',bF];rfl
section
variable{K n:Nat}(hK:Kd K){P:List Pc}{F:List Fq}{T:List (Rat×Rat)}
section
variable(hP:P.length=n)(hp:∀p∈P,bm p)(hT:T.length=n)(ht:∀t∈T,V2 K 1 t){f:Fq}(hf:tU n f)
include hK hP hp hT ht hf
theorem Sf{k:Nat}(hk:k<=bj f):∃pa∈P,∃pb∈P,∃s∈T,∃tb∈T,∃c1 d:Int×Int,(YF P f.1=pa/\YF P f.2.1=pb/\q6 T f.1=s/\q6 T f.2.1=tb)/\(ae P f.1=some pa/\ae P f.2.1=some pb/\ae T f.1=some s/\ae T f.2.1=some tb)/\(ae pa.2.2.1 (Int.tmod (f.2.2.1+k) 4)=some c1/\ae pb.2.2.1 (Int.tmod (f.2.2.2.1+1-k+4) 4)=some d)/\Nr 12 c1/\Nr 12 d/\fp P T f k=y5 (yx s (ah c1)) (yx tb (ah d))/\V2 K 48 (fp P T f k):=by
 obtain⟨a,b,ea,eb,m,rest⟩:=f
 obtain⟨a0,ab,bn,⟨g,i⟩,⟨l,o⟩,⟨C,m1⟩⟩:=hf
 simp only at a0 ab bn g i l o C m1
 have hk:k<=m.toNat:=hk
 obtain⟨a',rfl⟩:=Int.eq_ofNat_of_zero_le a0
 obtain⟨b',rfl⟩:=Int.eq_ofNat_of_zero_le (show 0<=b by omega)
 have ha:a'<P.length:=by omega
 have hb:b'<P.length:=by omega
 have q:a'<T.length:=by omega
 have r:b'<T.length:=by omega
 have z:∀{p:Pc},p∈P->∀{x:Int},0<=x->∃c,ae p.2.2.1 (Int.tmod x 4)=some c/\Nr 12 c/\ER p x=ah c:=λ{p} h {x} hx=>by
  obtain⟨l4,-,-,D,-⟩:=qB (hp p h)
  have h0:=Int.tmod_nonneg 4 hx
  have h1:=Int.tmod_lt_of_pos x (show(0:Int)<4 by decide)
  obtain⟨j,hj⟩:=Int.eq_ofNat_of_zero_le h0
  have e:j<p.2.2.1.length:=by omega
  refine⟨p.2.2.1[j],?_,D _ (aL _),?_⟩
  .rw[hj,zu e]
  .unfold ER
   rw[hj,show Int.toNat (j:Int)=j from rfl,zp e]
 obtain⟨c1,E,w,A⟩:=z (aL ha) (x:=ea+k) Oz
 obtain⟨d,G,y,B⟩:=z (aL hb) (x:=eb+1-k+4) Oz
 have e1:YF P (a':Int)=P[a']:=zp ha
 have e2:YF P (b':Int)=P[b']:=zp hb
 have u:q6 T (a':Int)=T[a']:=zp q
 have v:q6 T (b':Int)=T[b']:=zp r
 have ed:fp P T ((a':Int),(b':Int),ea,eb,m,rest) k=y5 (yx T[a'] (ah c1)) (yx T[b'] (ah d)):=by
  unfold fp
  simp only[e1,e2,u,v,A,B]
 have u1:=V2.rot (ht _ (aL q)) (kN w)
 have u2:=V2.rot (ht _ (aL r)) (kN y)
 rw[cG]at u1 u2
 refine⟨P[a'],aL _,P[b'],aL _,T[a'],aL _,T[b'],aL _,c1,d,⟨e1,e2,u,v⟩,⟨zu ha,zu hb,zu q,zu r⟩,⟨E,G⟩,w,y,ed,?_⟩
 rw[ed]
 exact u1.sub u2
theorem zhK:(∀e∈EN P T f,nc K n e)/\∀e∈EO P T f,nc K n e:=by
 have key:∀{d:Nat->Rat},(∀k,k<=bj f->QV K 48 (d k))->∀e∈(List.range (bj f+1)).flatMap λk=>iP f.1 f.2.1 (d k) (wn P f),nc K n e:=by
  intro d hd e he
  obtain⟨k,hk,he⟩:=List.mem_flatMap.mp he
  have hk:=dX.mp hk
  obtain⟨pa,a,pb,b,-,-,-,-,-,-,⟨e1,e2,-,-⟩,-⟩:=Sf hK hP hp hT ht hf (show 0<=bj f by omega)
  have t:=(hp pa a).tol.1.add (hp pb b).tol.1
  have c:QV 4 4 (wn P f):=by unfold wn;rw[e1,e2];exact t
  have d1:=hd k Oz
  obtain⟨a0,ab,bn,-⟩:=hf
  unfold iP at he
  simp only[aJ,aY,or_false]at he
  rcases he with rfl|rfl
  .exact⟨⟨a0,by show f.1<_;omega⟩,⟨by show 0<=f.2.1;omega,bn⟩,(d1.up.add c.upl).le Uz⟩
  .exact⟨⟨by show 0<=f.2.1;omega,bn⟩,⟨a0,by show f.1<_;omega⟩,(c.upl.sub d1.up).le Uz⟩
 have dv:∀k,k<=bj f->V2 K 48 (fp P T f k):=λk hk=>by
  obtain⟨-,-,-,-,-,-,-,-,-,-,-,-,-,-,-,-,h⟩:=Sf hK hP hp hT ht hf hk
  exact h
 exact⟨key λk hk=>(dv k hk).1,key λk hk=>(dv k hk).2⟩
end
theorem zhe{f:Fq}(hf:tU n f):bj f<=3:=by
 have:=hf.m
 unfold bj
 omega
include hK in
theorem JI(hP:P.length=n)(hp:∀p∈P,bm p)(hT:T.length=n)(ht:∀t∈T,V2 K 1 t)(hF:F.length<=6)(hf:∀f∈F,tU n f) :
 FK P F T=some (Yb P T F,Xb P T F,jW F F.length)/\SF K n 60 (Yb P T F)/\SF K n 60 (Xb P T F):=by
 have s0:=hK.s0 (B:=24) Uz
 have s1:=hK.s0 (B:=48) Uz
 have D:SB 4 4:=⟨by decide,by decide⟩
 have C:SB 4 2:=⟨by decide,by decide⟩
 have len:∀(i:Nat),((F.take i).flatMap (EN P T)).length<=8*i/\((F.take i).flatMap (EO P T)).length<=8*i/\(jW F i).length<=8*i\/F.length<i:=by
  intro i
  induction i with
  |zero=>left;simp[jW]
  |succ i Y=>
   by_cases hi:i<F.length
   .left
    obtain⟨h1,h2,h3⟩:=Y.resolve_right Oz
    have mm:=zhe (hf _ (aL hi))
    refine⟨?_,?_,?_⟩
    .rw[yY hi,List.flatMap_append,aQ]
     simp only[List.flatMap_cons,List.flatMap_nil,bP]
     have e:(EN P T F[i]).length=2*(bj F[i]+1):=ZO _
     omega
    .rw[yY hi,List.flatMap_append,aQ]
     simp only[List.flatMap_cons,List.flatMap_nil,bP]
     have e:(EO P T F[i]).length=2*(bj F[i]+1):=ZO _
     omega
    .rw[zev,aQ,dE,zp hi];omega
   .right;omega
 refine⟨?_,⟨?_,λe he=>?_⟩,⟨?_,λe he=>?_⟩⟩
 rotate_left
 .have:=(len F.length).resolve_right Oz
  rw[bE]at this
  show(F.flatMap _).length<=_
  omega
 .obtain⟨f,h1,h2⟩:=List.mem_flatMap.mp he
  exact(zhK hK hP hp hT ht (hf f h1)).1 e h2
 .have:=(len F.length).resolve_right Oz
  rw[bE]at this
  show(F.flatMap _).length<=_
  omega
 .obtain⟨f,h1,h2⟩:=List.mem_flatMap.mp he
  exact(zhK hK hP hp hT ht (hf f h1)).2 e h2
 unfold FK
 refine zl F.length (λi (x:Int×List Int×List Bd×List Bd)=>x=((i:Int),jW F i,(F.take i).flatMap (EN P T),(F.take i).flatMap (EO P T))) (λo=>o=_) Oz rfl ?_ ?_
 .rintro i x g hi rfl hg
  have c:=hf _ (aL hi)
  obtain⟨lX,lY,lO⟩:=(len i).resolve_right Oz
  have mm3:=zhe c
  obtain⟨pa,E,pb,G,ta,j,tb,l,-,-,⟨c1,V,c3,c4⟩,⟨q,r,s,u⟩,-⟩:=Sf hK hP hp hT ht c (show 0<=bj F[i]by omega)
  have H:=hp _ E
  have I:=hp _ G
  have la:=(qB H).1
  have lb:=(qB I).1
  have he:=H.tol.1.add I.tol.1
  have S:=yE (H.tol.1.sm C) (I.tol.1.sm C)
  have W:wn P F[i]=pa.2.2.2.2.2.1+pb.2.2.2.2.2.1:=by unfold wn;rw[c1,V]
  rw[<-W]at S he
  have hm:=c.m
  have mn:F[i].2.2.2.2.1=(bj F[i]:Int):=by unfold bj;omega
  have oD:F.getD i default=F[i]:=zp hi
  rw[aG (zV hi)]
  simp only[zu hi,aA,q,r,S]
  rw[xd (show(F[i].2.2.2.2.1+1).natAbs<_ by omega)]
  simp only[aA]
  refine zl (bj F[i]+1) (λk (x:Int×List Int×List Bd×List Bd)=>x=((k:Int),jW F i++List.replicate (2*k) (i:Int),(F.take i).flatMap (EN P T)++((List.range k).flatMap λk=>iP F[i].1 F[i].2.1 (fp P T F[i] k).1 (wn P F[i])),(F.take i).flatMap (EO P T)++((List.range k).flatMap λk=>iP F[i].1 F[i].2.1 (fp P T F[i] k).2 (wn P F[i])))) (λo=>o=_) Oz Y8 ?_ ?_
  .rintro k x h hk rfl X
   obtain⟨pa',-,pb',-,ta',hta',tb',htb',v1,v2,-,⟨v,w,z,A⟩,⟨w1,w2⟩,N,O,ed,dv⟩:=Sf hK hP hp hT ht c (show k<=bj F[i]by omega)
   rw[q]at v;rw[r]at w;rw[s]at z;rw[u]at A
   cases v;cases w;cases z;cases A
   have Z:=u7 (ht _ j) (kN N) (hK.s0 Uz) ⟨by decide,by decide⟩ (hK.s1 Uz)
   have o2:=u7 (ht _ l) (kN O) (hK.s0 Uz) ⟨by decide,by decide⟩ (hK.s1 Uz)
   have u1:=V2.rot (ht _ j) (kN N)
   have u2:=V2.rot (ht _ l) (kN O)
   rw[cG]at u1 u2
   have t1:=wF (N.le (M:=10000) Uz)
   have t2:=wF (O.le (M:=10000) Uz)
   have e1:=c.e1
   have e2:=c.e2
   have i1:i64 (F[i].2.2.1+k)=some (F[i].2.2.1+k):=xd Oz
   have i2:i64 (F[i].2.2.2.1+1)=some (F[i].2.2.2.1+1):=xd Oz
   have i3:i64 (F[i].2.2.2.1+1-k)=some (F[i].2.2.2.1+1-k):=xd Oz
   have i4:i64 (F[i].2.2.2.1+1-k+4)=some (F[i].2.2.2.1+1-k+4):=xd Oz
   have n4:¬((4:Int)=0):=by decide
   have U:=JZ u1 u2 s0 s0
   rw[<-ed]at U
   have m1:=yE (dv.1.sm s1) (he.sm D)
   have m2:=vA (he.sm D) (dv.1.sm s1)
   have m3:=yE (dv.2.sm s1) (he.sm D)
   have m4:=vA (he.sm D) (dv.2.sm s1)
   have J:=ZO (a:=F[i].1) (b:=F[i].2.1) (d:=λk=>(fp P T F[i] k).1) (e:=wn P F[i]) k
   have L:=ZO (a:=F[i].1) (b:=F[i].2.1) (d:=λk=>(fp P T F[i] k).2) (e:=wn P F[i]) k
   have Q:=zgC (a:=F[i].1) (b:=F[i].2.1) (d:=λk=>(fp P T F[i] k).1) (e:=wn P F[i]) k
   have R:=zgC (a:=F[i].1) (b:=F[i].2.1) (d:=λk=>(fp P T F[i] k).2) (e:=wn P F[i]) k
   rw[aG (aH (by show(k:Int)<_;omega))]
   simp only[i1,i2,i3,i4,la,lb,aA,w1,w2,s,u,t1,t2,jA Z,jA o2,U,show((4:Nat):Int)=4 from rfl,aD n4]
   simp only[show ∀x y:Rat,ae [x,y] 0=some x from λ_ _=>rfl,show ∀x y:Rat,ae [x,y] 1=some y from λ_ _=>rfl,aA,m1,m2,m3,m4]
   generalize fp P T F[i] k=dd at *
   rw[yP (by rw[aQ,J];show _+2<=_;omega),aA,yP (by rw[aQ,L];show _+2<=_;omega),aA,yP (by simp;omega),aA,zo (show k<100000 by omega)]
   simp only[aA]
   refine X _ ?_
   rw[bF,bF,bF,rD,Q,R]
  .rintro x h rfl
   rw[aD (by simp only[aC];omega),zo (show i<100000 by omega)]
   simp only[aA]
   refine hg _ ?_
   rw[zev,oD,yY hi,List.flatMap_append,List.flatMap_append]
   simp only[List.flatMap_cons,List.flatMap_nil,bP]
   rfl
 .rintro x g rfl
  rw[aD Y8,bE]
  rfl
theorem zhf(hn:0<n/\n<=4){X:List Bd}(hX:X.length<=60)(hb:∀e∈X,nc K n e):sG (n:Int) X=some (((n:Int),X),true):=by
 unfold sG
 rw[aG (aH Oz),aG (aH Oz),aG (aH Oz)]
 refine zl X.length (λi x=>x=(i:Int)) (λo=>o=_) Oz rfl ?_ ?_
 .rintro i x g hi rfl hg
  obtain⟨⟨h1,h2⟩,⟨h3,h4⟩,-⟩:=hb _ (aL hi)
  rw[aG (zV hi)]
  simp only[zu hi,aA]
  rw[aD (by simp only[aC];omega),aD (by simp only[aC];omega),aD (by simp only[aC];omega),aD (by simp only[aC];omega),zo (show i<100000 by omega)]
  exact hg _ rfl
 .rintro x g rfl
  rw[aD Y8]
end
end Go.Proofs.YtocnbjjmmgolfaaGreat
