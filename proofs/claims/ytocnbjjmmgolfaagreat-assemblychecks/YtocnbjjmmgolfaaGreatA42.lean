/- zQ law: both packages' apart say the same. -/
/- zQ law: both packages' gaps, rooms and directions. -/
/- zQ law: both packages find the same directions; pieces meet alike. -/
/- zQ law: two placed pieces meet in both packages, or in none. -/
/- zQ law: both packages find the same parts crowded. -/
/- zQ law: both packages find the same parts crowded. -/
/- zQ law: both packages' bounds, and whether numbers solve them. -/
import Derived.Test.YtocnbjjmmgolfaaGreatA41
namespace Go.Proofs.YtocnbjjmmgolfaaGreat
open Go Go.M Go.Proofs.C14
set_option linter.unusedSimpArgs false
set_option linter.unusedSectionVars false
def EqS{ρ:Type}(a b:Option ρ):Prop:=∃r,a=some r∧b=some r
theorem EqS.mk{ρ:Type}{r:ρ}:EqS (some r) (some r):=⟨r,rfl,rfl⟩
theorem xH{α:Type}{l:List α}{i:Nat}(h:i<l.length):l.take (i+1)=l.take i++[l[i]]:=by rw[List.take_append_getElem h]
theorem le_trans'{a b c:Rat}(h:a≤b)(g:b≤c):a≤c:=Rat.le_trans h g
def mnR(x y:Rat):Rat:=if y<x then y else x
def mxR(x y:Rat):Rat:=if x<y then y else x
theorem mnR_le{x y:Rat}:mnR x y≤x∧mnR x y≤y:=by
 unfold mnR
 split
 ·rename_i h;exact⟨Rat.le_of_lt h,Rat.le_refl⟩
 ·rename_i h;exact⟨Rat.le_refl,Rat.not_lt.mp h⟩
theorem mxR_ge{x y:Rat}:x≤mxR x y∧y≤mxR x y:=by
 unfold mxR
 split
 ·rename_i h;exact⟨Rat.le_of_lt h,Rat.le_refl⟩
 ·rename_i h;exact⟨Rat.le_refl,Rat.not_lt.mp h⟩
theorem mn_spec:∀(l:List Rat) (x:Rat),(l.foldl mnR x≤x∧∀y∈l,l.foldl mnR x≤y)∧(l.foldl mnR x=x∨l.foldl mnR x∈l)
 | [],x=>⟨⟨Rat.le_refl,fun y h=>nomatch h⟩,.inl rfl⟩
 |z::l,x=>by
  obtain⟨⟨h1,h2⟩,h3⟩:=mn_spec l (mnR x z)
  obtain⟨g1,g2⟩:= @mnR_le x z
  refine⟨⟨le_trans' h1 g1,fun y hy=>?_⟩,?_⟩
  ·rcases List.mem_cons.mp hy with rfl|hy
   ·exact le_trans' h1 g2
   ·exact h2 y hy
  ·rw[List.foldl_cons]
   rcases h3 with h3|h3
   ·rw[h3]
    unfold mnR
    split
    ·exact .inr (List.mem_cons_self ..)
    ·exact .inl rfl
   ·exact .inr (List.mem_cons_of_mem _ h3)
theorem mx_spec:∀(l:List Rat) (x:Rat),(x≤l.foldl mxR x∧∀y∈l,y≤l.foldl mxR x)∧(l.foldl mxR x=x∨l.foldl mxR x∈l)
 | [],x=>⟨⟨Rat.le_refl,fun y h=>nomatch h⟩,.inl rfl⟩
 |z::l,x=>by
  obtain⟨⟨h1,h2⟩,h3⟩:=mx_spec l (mxR x z)
  obtain⟨g1,g2⟩:= @mxR_ge x z
  refine⟨⟨le_trans' g1 h1,fun y hy=>?_⟩,?_⟩
  ·rcases List.mem_cons.mp hy with rfl|hy
   ·exact le_trans' g2 h1
   ·exact h2 y hy
  ·rw[List.foldl_cons]
   rcases h3 with h3|h3
   ·rw[h3]
    unfold mxR
    split
    ·exact .inr (List.mem_cons_self ..)
    ·exact .inl rfl
   ·exact .inr (List.mem_cons_of_mem _ h3)
theorem gap_eq{q p:Rat}{qs ps:List Rat}:(p::ps).foldl (fun m x=>(q::qs).foldl (fun m y=>mnR m (y-x)) m) (q-p)=qs.foldl mnR q-ps.foldl mxR p:=by
 have e:∀(ps:List Rat) (m:Rat),ps.foldl (fun m x=>(q::qs).foldl (fun m y=>mnR m (y-x)) m) m=(ps.flatMap fun x=>(q::qs).map fun y=>y-x).foldl mnR m:=fun ps m=>by
  rw[List.foldl_flatMap]
  congr 1
  funext m x
  rw[List.foldl_map]
 rw[e]
 obtain⟨⟨h1,h2⟩,h3⟩:=mn_spec ((p::ps).flatMap fun x=>(q::qs).map fun y=>y-x) (q-p)
 obtain⟨⟨a1,a2⟩,a3⟩:=mn_spec qs q
 obtain⟨⟨b1,b2⟩,b3⟩:=mx_spec ps p
 generalize ((p::ps).flatMap fun x=>(q::qs).map fun y=>y-x).foldl mnR (q-p)=M at *
 generalize qs.foldl mnR q=A at *
 generalize ps.foldl mxR p=B at *
 have k1:∀{x y:Rat},x∈p::ps→y∈q::qs→M≤y-x:=fun hx hy=>h2 _ (List.mem_flatMap.mpr ⟨_,hx,List.mem_map.mpr ⟨_,hy,rfl⟩⟩)
 have hA:A∈q::qs:=by rcases a3 with rfl|h;exact List.mem_cons_self ..;exact List.mem_cons_of_mem _ h
 have hB:B∈p::ps:=by rcases b3 with rfl|h;exact List.mem_cons_self ..;exact List.mem_cons_of_mem _ h
 have k2:∀{x y:Rat},x∈p::ps→y∈q::qs→A-B≤y-x:=fun{x y} hx hy=>by
  have u:A≤y:=by rcases List.mem_cons.mp hy with rfl|h;exact a1;exact a2 _ h
  have v:x≤B:=by rcases List.mem_cons.mp hx with rfl|h;exact b1;exact b2 _ h
  grind
 have k3:A-B≤M:=by
  rcases h3 with h3|h3
  ·rw[h3];exact k2 (List.mem_cons_self ..) (List.mem_cons_self ..)
  ·obtain⟨x,hx,hm⟩:=List.mem_flatMap.mp h3
   obtain⟨y,hy,rfl⟩:=List.mem_map.mp hm
   exact k2 hx hy
 exact Rat.le_antisymm (k1 hB hA) k3
theorem z302_v{dir:Rat×Rat}{l:List (Rat×Rat)}(hl:l.length<12)(h:∀p∈l,z257 dir p=some (yb dir p)):z302 dir l=some (l.map (yb dir)):=by
 unfold z302
 refine zi l.length (fun i x=>x=((i:Int),(l.take i).map (yb dir))) (fun o=>o=_) hl rfl ?_ ?_
 ·rintro i x g hi rfl hg
  simp only[zr hi,if_true,zn hi,Option.bind_some,h _ (List.getElem_mem hi),zl (show i<100000 by omega)]
  rw[zN (by simp;omega),Option.bind_some]
  exact hg _ (by rw[xH hi,List.map_append];rfl)
 ·rintro x g rfl
  simp
theorem z303_mn{x:Rat}{l:List Rat}(hl:l.length<12)(hx:Sm x)(h:∀p∈l,Sm p):z303 (-1) x l=some (l.foldl mnR x)∧Sm (l.foldl mnR x):=by
 have hs:Sm (l.foldl mnR x):=by
  rcases(mn_spec l x).2 with e|e
  ·rw[e];exact hx
  ·exact h _ e
 refine⟨?_,hs⟩
 unfold z303
 refine zi l.length (fun i y=>y=((i:Int),(l.take i).foldl mnR x)) (fun o=>o=_) hl rfl ?_ ?_
 ·rintro i y g hi rfl hg
  have hm:Sm ((l.take i).foldl mnR x):=by
   rcases(mn_spec (l.take i) x).2 with e|e
   ·rw[e];exact hx
   ·exact h _ (List.mem_of_mem_take e)
  simp only[zr hi,if_true,zn hi,Option.bind_some,yJ (h _ (List.getElem_mem hi)) hm,zl (show i<100000 by omega),cmpQ_m1]
  have e:(l.take (i+1)).foldl mnR x=mnR ((l.take i).foldl mnR x) l[i]:=by rw[xH hi,List.foldl_append];rfl
  unfold mnR at e
  by_cases c:l[i]<(l.take i).foldl mnR x
  ·rw[if_pos (decide_eq_true c)]
   unfold mnR at c
   rw[if_pos c]at e
   exact hg _ (by rw[←e];rfl)
  ·rw[if_neg (by simp[c])]
   unfold mnR at c
   rw[if_neg c]at e
   exact hg _ (by unfold mnR;rw[←e])
 ·rintro y g rfl
  simp
theorem z303_mx{x:Rat}{l:List Rat}(hl:l.length<12)(hx:Sm x)(h:∀p∈l,Sm p):z303 1 x l=some (l.foldl mxR x)∧Sm (l.foldl mxR x):=by
 have hs:Sm (l.foldl mxR x):=by
  rcases(mx_spec l x).2 with e|e
  ·rw[e];exact hx
  ·exact h _ e
 refine⟨?_,hs⟩
 unfold z303
 refine zi l.length (fun i y=>y=((i:Int),(l.take i).foldl mxR x)) (fun o=>o=_) hl rfl ?_ ?_
 ·rintro i y g hi rfl hg
  have hm:Sm ((l.take i).foldl mxR x):=by
   rcases(mx_spec (l.take i) x).2 with e|e
   ·rw[e];exact hx
   ·exact h _ (List.mem_of_mem_take e)
  simp only[zr hi,if_true,zn hi,Option.bind_some,yJ (h _ (List.getElem_mem hi)) hm,zl (show i<100000 by omega),cmpQ_p1]
  have e:(l.take (i+1)).foldl mxR x=mxR ((l.take i).foldl mxR x) l[i]:=by rw[xH hi,List.foldl_append];rfl
  unfold mxR at e
  by_cases c:(l.take i).foldl mxR x<l[i]
  ·rw[if_pos (decide_eq_true c)]
   unfold mxR at c
   rw[if_pos c]at e
   exact hg _ (by rw[←e];rfl)
  ·rw[if_neg (by simp[c])]
   unfold mxR at c
   rw[if_neg c]at e
   exact hg _ (by unfold mxR;rw[←e])
 ·rintro y g rfl
  simp
structure TriOK(K:Nat)(l:List (Rat×Rat)):Prop where
 len:0<l.length∧l.length≤3
 pt:∀p∈l,V2 (K*12) 40 p
 ed:∀p∈l,∀q∈l,V2 K 64 (subV p q)
section
variable{K:Nat}(hK:Kd K){dir:Rat×Rat}(hd:V2 K 64 dir)
include hK hd
theorem dot_ok{p:Rat×Rat}{B:Nat}(h:V2 (K*12) B p)(hB:B≤80):z257 dir p=some (yb dir p)∧z265 dir p=some (yb dir p)∧QV (K*(K*12)) 10240 (yb dir p):=by
 have h:=h.le hB
 have e1:=hK.s0 (B:=64) Uz
 have e2:=hK.s1 (c:=12) (B:=80) Uz
 have e3:=hK.s2 (c:=12) (B:=64*80) Uz
 exact⟨z257_v hd h e1 e2 e3,z265_v hd h e1 e2 e3,(V2.dot hd h).le Uz⟩
theorem gapP_ok{p q:Rat×Rat}{ps qs:List (Rat×Rat)}(h1:TriOK K (p::ps))(h2:TriOK K (q::qs)) :
  z283 dir (p::ps) (q::qs)=some ((qs.map (yb dir)).foldl mnR (yb dir q)-(ps.map (yb dir)).foldl mxR (yb dir p)):=by
 have l1:=h1.len.2
 have l2:=h2.len.2
 have s:=hK.s2 (c:=12) (B:=10240) Uz
 have f:∀{l:List (Rat×Rat)},TriOK K l→z302 dir l=some (l.map (yb dir)):=fun h=>z302_v (by have:=h.len.2;omega) fun p hp=>(dot_ok hK hd (h.pt p hp) Uz).1
 have m:∀{l:List (Rat×Rat)},TriOK K l→∀p∈l,Sm (yb dir p):=fun h p hp=>(dot_ok hK hd (h.pt p hp) Uz).2.2.sm s
 have mp:=m h1
 have mq:=m h2
 have a1:=(z303_mn (x:=yb dir q) (l:=qs.map (yb dir)) (by simp at l2 ⊢;omega) (mq _ (List.mem_cons_self ..)) (by intro x hx;obtain⟨y,hy,rfl⟩:=List.mem_map.mp hx;exact mq _ (List.mem_cons_of_mem _ hy)))
 have a2:=(z303_mx (x:=yb dir p) (l:=ps.map (yb dir)) (by simp at l1 ⊢;omega) (mp _ (List.mem_cons_self ..)) (by intro x hx;obtain⟨y,hy,rfl⟩:=List.mem_map.mp hx;exact mp _ (List.mem_cons_of_mem _ hy)))
 have sl:∀(x:Rat) (l:List Rat),xq (x::l) 1 ((x::l).length:Int)=some l:=fun x l=>by
  unfold xq
  rw[if_pos (by simp;omega)]
  simp
 unfold z283
 rw[f h1,f h2]
 simp only[Option.bind_some,List.map_cons]
 rw[show idx (yb dir q::qs.map (yb dir)) 0=some (yb dir q)from rfl,show idx (yb dir p::ps.map (yb dir)) 0=some (yb dir p)from rfl]
 simp only[Option.bind_some]
 rw[sl,sl]
 simp only[Option.bind_some]
 rw[a1.1,a2.1]
 simp only[Option.bind_some]
 rw[qd a1.2 a2.2]
 rfl
theorem dot_sub{p q:Rat×Rat}:yb dir (subV q p)=yb dir q-yb dir p:=by unfold yb subV;grind
end
end Go.Proofs.YtocnbjjmmgolfaaGreat
namespace Go.Proofs.YtocnbjjmmgolfaaGreat
open Go Go.M Go.Proofs.C14
set_option linter.unusedSimpArgs false
set_option linter.unusedSectionVars false
section
variable{K:Nat}(hK:Kd K){dir:Rat×Rat}(hd:V2 K 64 dir)
include hK hd
theorem gapR_ok{p q:Rat×Rat}{ps qs:List (Rat×Rat)}(h1:TriOK K (p::ps))(h2:TriOK K (q::qs)) :
  z295 dir (p::ps) (q::qs)=some ((qs.map (yb dir)).foldl mnR (yb dir q)-(ps.map (yb dir)).foldl mxR (yb dir p)):=by
 have l1:=h1.len.2
 have l2:=h2.len.2
 have s:=hK.s2 (c:=12) (B:=10240) Uz
 have s1:=hK.s1 (c:=12) (B:=40) Uz
 have sub:∀{x y:Rat×Rat},x∈p::ps→y∈q::qs→z39 y x=some (subV y x)∧z265 dir (subV y x)=some (yb dir y-yb dir x)∧Sm (yb dir y-yb dir x):=fun{x y} hx hy=>by
  have hv:=(h2.pt _ hy).sub (h1.pt _ hx)
  have hdt:=dot_ok hK hd hv Uz
  rw[←dot_sub hK hd]
  exact⟨z39_v (h2.pt _ hy) (h1.pt _ hx) s1 s1,hdt.2.1,hdt.2.2.sm s⟩
 have key:=gap_eq (q:=yb dir q) (p:=yb dir p) (qs:=qs.map (yb dir)) (ps:=ps.map (yb dir))
 obtain⟨f1,f2,f3⟩:=sub (List.mem_cons_self ..) (List.mem_cons_self ..)
 unfold z295
 rw[show idx (q::qs) 0=some q from rfl,show idx (p::ps) 0=some p from rfl]
 simp only[Option.bind_some]
 rw[f1,Option.bind_some,f2,Option.bind_some]
 -- what is least so far
 let st:Rat→Rat×Rat→Rat:=fun m x=>(q::qs).foldl (fun m y=>mnR m (yb dir y-yb dir x)) m
 have hst:((p::ps).foldl st (yb dir q-yb dir p))=(qs.map (yb dir)).foldl mnR (yb dir q)-(ps.map (yb dir)).foldl mxR (yb dir p):=by
  rw[←key,←List.map_cons,←List.map_cons,List.foldl_map]
  congr 1
  funext m x
  rw[List.foldl_map]
 rw[←hst]
 generalize yb dir q-yb dir p=m0 at *
 have mn_sm:∀{x y:Rat},Sm x→Sm y→Sm (mnR x y):=fun hx hy=>by unfold mnR;split;exact hy;exact hx
 refine zi (p::ps).length (fun i x=>x=((i:Int),((p::ps).take i).foldl st m0)∧Sm x.2) (fun o=>o=_) Oz ⟨rfl,f3⟩ ?_ ?_
 ·rintro i x g hi ⟨rfl,hm⟩ hg
  have hx:=List.getElem_mem hi
  rw[if_pos (zr hi)]
  generalize hm1:((p::ps).take i).foldl st m0=m1 at *
  refine zi (q::qs).length (fun j y=>y=((j:Int),((q::qs).take j).foldl (fun m y=>mnR m (yb dir y-yb dir (p::ps)[i])) m1)∧Sm y.2) (fun o=>o=_) Oz ⟨rfl,hm⟩ ?_ ?_
  ·rintro j y g' hj ⟨rfl,hn⟩ hg'
   obtain⟨e1,e2,e3⟩:=sub hx (List.getElem_mem hj)
   rw[if_pos (zr hj),zn hj,Option.bind_some]
   simp only[zn hi,Option.bind_some,e1,e2]
   generalize hn1:((q::qs).take j).foldl (fun m y=>mnR m (yb dir y-yb dir (p::ps)[i])) m1=n1 at *
   have hn:Sm n1:=hn
   rw[yJ e3 hn,Option.bind_some]
   simp only[zl (show j<100000 by omega),Option.bind_some,cmpQ_neg]
   have e:((q::qs).take (j+1)).foldl (fun m y=>mnR m (yb dir y-yb dir (p::ps)[i])) m1=mnR n1 (yb dir (q::qs)[j]-yb dir (p::ps)[i]):=by
    rw[xH hj,List.foldl_append,hn1];rfl
   by_cases c:yb dir (q::qs)[j]-yb dir (p::ps)[i]<n1
   ·rw[if_pos (decide_eq_true c)]
    refine hg' _ ⟨?_,e3⟩
    rw[e];unfold mnR;rw[if_pos c]
   ·rw[if_neg (by simp[c])]
    refine hg' _ ⟨?_,hn⟩
    rw[e];unfold mnR;rw[if_neg c]
  ·rintro y g' ⟨rfl,hn⟩
   rw[if_neg Y8]
   rw[zl (show i<100000 by omega),Option.bind_some]
   refine hg _ ⟨?_,hn⟩
   rw[xH hi,List.foldl_append,hm1,List.take_length]
   rfl
 ·rintro x g ⟨rfl,hm⟩
  rw[if_neg Y8,List.take_length]
omit hK hd in
theorem num_neg'{x:Rat}:x.num<0↔x<0:=by
 have:= @Rat.num_nonneg x
 constructor
 ·intro h;exact Rat.not_le.mp fun g=>absurd (this.mpr g) Oz
 ·intro h;exact Decidable.byContradiction fun g=>absurd (this.mp Oz) (Rat.not_le.mpr h)
def absR(x:Rat):Rat:=if x<0 then -x else x
def sizeV(d:Rat×Rat):Rat:=absR d.1+absR d.2
omit hK in
theorem abs_qv{x:Rat}{B:Nat}(h:QV K B x):QV K B (absR x):=by unfold absR;split;exact h.neg;exact h
theorem roomP_ok{t:Rat}(ht:QV 4 4 t):z284 dir t=some (t*sizeV dir)∧z296 dir t=some (t*sizeV dir)∧QV (K*4) 512 (t*sizeV dir):=by
 have e0:=hK.s0 (B:=64) Uz
 have e1:=hK.s0 (B:=128) Uz
 have a1:=abs_qv hd hd.1
 have a2:=abs_qv hd hd.2
 have sz:QV K 128 (sizeV dir):=a1.add a2
 have x1:∀{x:Rat},QV K 64 x→(negG x).bind (fun r=>(z303 1 x [r]).bind fun r=>some r)=some (absR x):=fun{x} h=>by
  rw[xf (h.sm e0),Option.bind_some,(z303_mx (x:=x) (l:=[-x]) Y8 (h.sm e0) (by intro y hy;rw[List.mem_singleton.mp hy];exact h.neg.sm e0)).1,Option.bind_some]
  show some (mxR x (-x))=_
  unfold mxR absR
  congr 1
  by_cases c:x<0
  ·rw[if_pos c,if_pos (by grind)]
  ·rw[if_neg c]
   by_cases g:x < -x
   ·exact absurd (show x<0 by grind) c
   ·rw[if_neg g]
 have x2:∀{x:Rat},QV K 64 x→z317 x=some (absR x):=fun{x} h=>by
  unfold z317 absR
  rw[signG_ok (h.sm e0),Option.bind_some]
  by_cases c:x<0
  ·rw[if_pos (decide_eq_true (cmpI_neg.mpr (num_neg'.mpr c))),if_pos c,xf (h.sm e0)];rfl
  ·rw[if_neg (by simp only[decide_eq_true_eq,cmpI_neg,num_neg'];exact c),if_neg c]
 refine⟨?_,?_,?_⟩
 ·unfold z284 z304
  have y1:=x1 hd.1
  have y2:=x1 hd.2
  rw[xf (hd.1.sm e0),Option.bind_some]at y1
  rw[xf (hd.2.sm e0),Option.bind_some]at y2
  simp only[xf (hd.1.sm e0),xf (hd.2.sm e0),Option.bind_some]
  simp only[Option.bind_fun_some]at y1 y2
  rw[y1,y2]
  simp only[Option.bind_some]
  rw[yr (a1.sm e0) (a2.sm e0)]
  simp only[Option.bind_some]
  rw[show absR dir.1+absR dir.2=sizeV dir from rfl,yU (ht.sm ⟨by decide,by decide⟩) (sz.sm e1)]
  rfl
 ·unfold z296 z311
  rw[x2 hd.1,x2 hd.2]
  simp only[Option.bind_some]
  rw[yr (a1.sm e0) (a2.sm e0)]
  simp only[Option.bind_some]
  rw[show absR dir.1+absR dir.2=sizeV dir from rfl,yU (sz.sm e1) (ht.sm ⟨by decide,by decide⟩),Rat.mul_comm]
  rfl
 ·rw[Rat.mul_comm]
  exact sz.mul ht
theorem sep_eq{t:Rat}(ht:QV 4 4 t){l m:List (Rat×Rat)}(h1:TriOK K l)(h2:TriOK K m):∃b,z262 dir l m t=some b∧z279 dir l m t=some b:=by
 match l,m,h1,h2 with
 |p::ps,q::qs,h1,h2=>
  have g1:=gapP_ok hK hd h1 h2
  have g2:=gapR_ok hK hd h1 h2
  obtain⟨r1,r2,r3⟩:=roomP_ok hK hd ht
  have s:=hK.s2 (c:=12) (B:=20480) Uz
  have hq:∀p∈q::qs,QV (K*(K*12)) 10240 (yb dir p):=fun p hp=>(dot_ok hK hd (h2.pt p hp) Uz).2.2
  have hp:∀x∈p::ps,QV (K*(K*12)) 10240 (yb dir x):=fun p hp=>(dot_ok hK hd (h1.pt p hp) Uz).2.2
  have u1:QV (K*(K*12)) 10240 ((qs.map (yb dir)).foldl mnR (yb dir q)):=by
   rcases(mn_spec (qs.map (yb dir)) (yb dir q)).2 with e|e
   ·rw[e];exact hq _ (List.mem_cons_self ..)
   ·obtain⟨y,hy,e⟩:=List.mem_map.mp e
    rw[←e];exact hq _ (List.mem_cons_of_mem _ hy)
  have u2:QV (K*(K*12)) 10240 ((ps.map (yb dir)).foldl mxR (yb dir p)):=by
   rcases(mx_spec (ps.map (yb dir)) (yb dir p)).2 with e|e
   ·rw[e];exact hp _ (List.mem_cons_self ..)
   ·obtain⟨y,hy,e⟩:=List.mem_map.mp e
    rw[←e];exact hp _ (List.mem_cons_of_mem _ hy)
  have c:=yJ ((u1.sub u2).sm s) (r3.sm (hK.s1 Uz))
  unfold z262 z279
  rw[g1,g2,r1,r2]
  simp only[Option.bind_some]
  rw[c]
  exact⟨_,rfl,rfl⟩
 | [],_,h1,_=>exact absurd h1.len.1 Y8
 |_::_,[],_,h2=>exact absurd h2.len.1 Y8
end
end Go.Proofs.YtocnbjjmmgolfaaGreat
namespace Go.Proofs.YtocnbjjmmgolfaaGreat
open Go Go.M Go.Proofs.C14
set_option linter.unusedSimpArgs false
set_option linter.unusedSectionVars false
def nrmV(a b:Rat×Rat):Rat×Rat:=(b.2-a.2,a.1-b.1)
def nxt'(l:List (Rat×Rat))(i:Nat):Rat×Rat:=l.getD ((i+1) % l.length) (0,0)
def dirs1(l:List (Rat×Rat))(n:Nat):List (Rat×Rat):=(List.range n).map fun i=>nrmV (l.getD i (0,0)) (nxt' l i)
def dirs2(l:List (Rat×Rat))(n:Nat):List (Rat×Rat):=(List.range n).map fun i=>nrmV (nxt' l i) (l.getD i (0,0))
def axesV:List (Rat×Rat):=[(qI 1,qI 0),(qI 0,qI 1),(qI (-1),qI 0),(qI 0,qI (-1))]
def dirsV(l m:List (Rat×Rat)):List (Rat×Rat):=dirs1 l l.length++dirs2 m m.length++axesV
theorem xj{α:Type}{l:List α}{i:Nat}{d:α}(h:i<l.length):l.getD i d=l[i]:=by rw[List.getD_eq_getElem?_getD,List.getElem?_eq_getElem h,Option.getD_some]
theorem nxt_mem{l:List (Rat×Rat)}{i:Nat}(h:i<l.length):nxt' l i∈l:=by
 unfold nxt'
 rw[xj (Nat.mod_lt _ Oz)]
 exact List.getElem_mem _
theorem of_axis{x y:Int}(hx:x.natAbs<1000 )(hy:y.natAbs<1000):z127 x y=some (qI x,qI y)∧z41 x y=some (qI x,qI y):=by
 unfold z127 z41
 rw[ofI Oz,ofI Oz]
 exact⟨rfl,rfl⟩
section
variable{K:Nat}(hK:Kd K)
include hK
theorem nrm_ok{l:List (Rat×Rat)}(h:TriOK K l){p q:Rat×Rat}(hp:p∈l)(hq:q∈l):z282 p q=some (nrmV p q)∧z293 p q=some (nrmV p q)∧z294 (nrmV p q)=some (nrmV q p)∧V2 K 64 (nrmV p q):=by
 have s:=hK.s1 (c:=12) (B:=40) Uz
 have hpp:=h.pt _ hp
 have hqp:=h.pt _ hq
 have e1:=h.ed _ hp _ hq
 have e2:=h.ed _ hq _ hp
 have e0:=hK.s0 (B:=64) Uz
 refine⟨?_,?_,?_,e2.2,e1.1⟩
 ·unfold z282
  rw[z126_v hqp hpp s s]
  simp only[Option.bind_some]
  rw[xf (e2.1.sm e0)]
  show some (q.2-p.2,-(q.1-p.1))=some (q.2-p.2,p.1-q.1)
  rw[Rat.neg_sub]
 ·unfold z293
  rw[qd (hqp.2.sm s) (hpp.2.sm s),qd (hpp.1.sm s) (hqp.1.sm s)]
  rfl
 ·unfold z294
  show((negG (q.2-p.2)).bind fun r1=>(negG (p.1-q.1)).bind fun r2=>some (r1,r2))=_
  rw[xf (show Sm (q.2-p.2)from e2.2.sm e0),xf (show Sm (p.1-q.1)from e1.1.sm e0)]
  show some (-(q.2-p.2),-(p.1-q.1))=some (p.2-q.2,q.1-p.1)
  rw[Rat.neg_sub,Rat.neg_sub]
theorem dirs1_mem{l:List (Rat×Rat)}(h:TriOK K l):∀d∈dirs1 l l.length,V2 K 64 d:=by
 intro d hd
 obtain⟨i,hi,rfl⟩:=List.mem_map.mp hd
 have hi:=List.mem_range.mp hi
 rw[xj hi]
 exact(nrm_ok hK h (List.getElem_mem hi) (nxt_mem hi)).2.2.2
theorem dirs2_mem{l:List (Rat×Rat)}(h:TriOK K l):∀d∈dirs2 l l.length,V2 K 64 d:=by
 intro d hd
 obtain⟨i,hi,rfl⟩:=List.mem_map.mp hd
 have hi:=List.mem_range.mp hi
 rw[xj hi]
 exact(nrm_ok hK h (nxt_mem hi) (List.getElem_mem hi)).2.2.2
omit hK in
theorem axes_mem:∀d∈axesV,V2 K 64 d:=by
 have e:∀{n:Int},n.natAbs≤1→QV K 64 (qI n):=fun{n} h=>by
  have:=(QV.int (B:=64) (show n.natAbs≤64 by omega)).up (k:=K)
  rw[Nat.one_mul]at this
  exact this
 have e0:=e (n:=0) Uz
 have e1:=e (n:=1) Uz
 have e2:=e (n:= -1) Uz
 intro d hd
 simp only[axesV,List.mem_cons,List.not_mem_nil,or_false]at hd
 rcases hd with rfl|rfl|rfl|rfl
 ·exact⟨e1,e0⟩
 ·exact⟨e0,e1⟩
 ·exact⟨e2,e0⟩
 ·exact⟨e0,e2⟩
theorem dirs_mem{l m:List (Rat×Rat)}(h:TriOK K l)(g:TriOK K m):∀d∈dirsV l m,V2 K 64 d:=by
 intro d hd
 rcases List.mem_append.mp hd with hd|hd
 ·rcases List.mem_append.mp hd with hd|hd
  ·exact dirs1_mem hK h d hd
  ·exact dirs2_mem hK g d hd
 ·exact axes_mem d hd
omit hK in
theorem range_add{α:Type}(f:Nat→α)(i:Nat):(List.range (i+1)).map f=(List.range i).map f++[f i]:=by rw[List.range_succ,List.map_append];rfl
omit hK in
theorem next_P{l:List (Rat×Rat)}{i:Nat}(hi:i<l.length):idx l (Int.tmod ((i+1:Nat):Int) (l.length:Int))=some (nxt' l i):=by
 have hm:(i+1) % l.length<l.length:=Nat.mod_lt _ Oz
 rw[show Int.tmod ((i+1:Nat):Int) (l.length:Int)=(((i+1) % l.length:Nat):Int)from rfl,zn hm]
 unfold nxt'
 rw[xj hm]
omit hK in
theorem next_R{l:List (Rat×Rat)}{i:Nat}(hi:i<l.length)(hl:l.length<100):z229 l (i:Int)=some (nxt' l i):=by
 unfold z229
 rw[zl (show i<100000 by omega)]
 simp only[Option.bind_some]
 unfold nxt'
 by_cases h:i+1<l.length
 ·rw[if_pos (zr h),zn h,Nat.mod_eq_of_lt h,xj h];rfl
 ·rw[if_neg (by simp only[decide_eq_true_eq];omega),show i+1=l.length by omega,Nat.mod_self,xj Oz]
  rw[show idx l 0=some l[0]from zn (i:=0) Oz]
  rfl
theorem dirsP_ok{l m:List (Rat×Rat)}(h:TriOK K l)(g:TriOK K m):z261 l m=some (dirsV l m):=by
 have l1:=h.len
 have l2:=g.len
 unfold z261
 refine zi l.length (fun i x=>x=((i:Int),dirs1 l i)) (fun o=>o=_) Oz rfl ?_ ?_
 ·rintro i x k hi rfl hk
  rw[if_pos (zr hi)]
  simp only[zn hi,Option.bind_some,zl (show i<100000 by omega)]
  rw[if_neg Oz,next_P hi]
  simp only[Option.bind_some]
  rw[(nrm_ok hK h (List.getElem_mem hi) (nxt_mem hi)).1]
  simp only[Option.bind_some]
  rw[zN (by simp[dirs1];omega)]
  refine hk _ ?_
  unfold dirs1
  rw[range_add,xj hi]
 ·rintro x k rfl
  rw[if_neg Y8]
  refine zi m.length (fun i x=>x=((i:Int),dirs1 l l.length++dirs2 m i)) (fun o=>o=_) Oz (by simp[dirs2]) ?_ ?_
  ·rintro i x k hi rfl hk
   rw[if_pos (zr hi)]
   simp only[zn hi,Option.bind_some,zl (show i<100000 by omega)]
   rw[if_neg Oz,next_P hi]
   simp only[Option.bind_some]
   rw[(nrm_ok hK g (nxt_mem hi) (List.getElem_mem hi)).1]
   simp only[Option.bind_some]
   rw[zN (by simp[dirs1,dirs2];omega)]
   refine hk _ ?_
   unfold dirs2
   rw[range_add,xj hi,List.append_assoc]
  ·rintro x k rfl
   rw[if_neg Y8,(of_axis Uz Uz).1,(of_axis Uz Uz).1,(of_axis Uz Uz).1,(of_axis Uz Uz).1]
   simp only[Option.bind_some]
   rw[zN (by simp[dirs1,dirs2];omega)]
   rfl
theorem dirsR_ok{l m:List (Rat×Rat)}(h:TriOK K l)(g:TriOK K m):z278 l m=some (dirsV l m):=by
 have l1:=h.len
 have l2:=g.len
 unfold z278
 refine zi l.length (fun i x=>x=((i:Int),dirs1 l i)) (fun o=>o=_) Oz rfl ?_ ?_
 ·rintro i x k hi rfl hk
  rw[if_pos (zr hi)]
  simp only[zn hi,Option.bind_some,zl (show i<100000 by omega),next_R hi Oz,(nrm_ok hK h (List.getElem_mem hi) (nxt_mem hi)).2.1]
  rw[zN (by simp[dirs1];omega)]
  refine hk _ ?_
  unfold dirs1
  rw[range_add,xj hi]
 ·rintro x k rfl
  rw[if_neg Y8]
  refine zi m.length (fun i x=>x=((i:Int),dirs1 l l.length++dirs2 m i)) (fun o=>o=_) Oz (by simp[dirs2]) ?_ ?_
  ·rintro i x k hi rfl hk
   rw[if_pos (zr hi)]
   simp only[zn hi,Option.bind_some,zl (show i<100000 by omega),next_R hi Oz,(nrm_ok hK g (List.getElem_mem hi) (nxt_mem hi)).2.1,(nrm_ok hK g (List.getElem_mem hi) (nxt_mem hi)).2.2.1]
   rw[zN (by simp[dirs1,dirs2];omega)]
   refine hk _ ?_
   unfold dirs2
   rw[range_add,xj hi,List.append_assoc]
  ·rintro x k rfl
   rw[if_neg Y8,(of_axis Uz Uz).2,(of_axis Uz Uz).2,(of_axis Uz Uz).2,(of_axis Uz Uz).2]
   simp only[Option.bind_some]
   rw[zN (by simp[dirs1,dirs2];omega)]
   rfl
theorem find_eq{t:Rat}(ht:QV 4 4 t){l m:List (Rat×Rat)}(h:TriOK K l)(g:TriOK K m):EqS (z223 l m t) (z250 l m t):=by
 have l1:=h.len
 have l2:=g.len
 have hm:=dirs_mem hK h g
 have hl:(dirsV l m).length<12:=by simp[dirsV,dirs1,dirs2,axesV];omega
 unfold z223 z250
 rw[dirsP_ok hK h g,dirsR_ok hK h g]
 simp only[Option.bind_some]
 generalize dirsV l m=D at *
 refine qq D.length (fun i x x'=>x.1=(i:Int)∧x'.1=(i:Int)) EqS hl hl ⟨rfl,rfl⟩ ?_ ?_
 ·rintro i ⟨x,y,z⟩ ⟨x',y',z'⟩ k k' hi ⟨rfl,rfl⟩ hk
  obtain⟨b,e1,e2⟩:=sep_eq hK (hm _ (List.getElem_mem hi)) ht h g
  simp only[zr hi,if_true,zn hi,Option.bind_some,e1,e2,zl (show i<100000 by omega)]
  cases b
  ·exact hk _ _ ⟨rfl,rfl⟩
  ·exact EqS.mk
 ·rintro⟨x,y,z⟩ ⟨x',y',z'⟩ k k' ⟨rfl,rfl⟩
  simp only[Int.lt_irrefl,decide_false,Bool.false_eq_true,if_false]
  exact EqS.mk
theorem all_eq{t:Rat}(ht:QV 4 4 t){l m:List (List (Rat×Rat))}(h:∀x∈l,TriOK K x)(g:∀x∈m,TriOK K x)(hl:l.length<5)(hm:m.length<5):EqS (z161 l m t) (z208 l m t):=by
 unfold z161 z208
 refine qq l.length (fun i x x'=>x.1=(i:Int)∧x'.1=(i:Int)∧x.2.2=x'.2∧x'.2.length≤12*i) EqS hl hl ⟨rfl,rfl,rfl,by simp⟩ ?_ ?_
 ·rintro i ⟨x,b,y⟩ ⟨x',y'⟩ k k' hi ⟨rfl,rfl,rfl,hy⟩ hk
  have hy:y.length≤12*i:=hy
  simp only[zr hi,if_true,zn hi,Option.bind_some]
  refine qq m.length (fun j x x'=>x.1=(j:Int)∧x'.1=(j:Int)∧x.2.2=x'.2∧x'.2.length≤12*i+j) EqS hm hm ⟨rfl,rfl,rfl,hy⟩ ?_ ?_
  ·rintro j ⟨x,b,z⟩ ⟨x',z'⟩ k k' hj ⟨rfl,rfl,rfl,hz⟩ hk
   have hz:z.length≤12*i+j:=hz
   obtain⟨r,e1,e2⟩:=find_eq hK ht (h _ (List.getElem_mem hi)) (g _ (List.getElem_mem hj))
   simp only[zr hj,if_true,zn hj,Option.bind_some,e1,e2]
   obtain⟨d,b⟩:=r
   cases b
   ·exact EqS.mk
   ·simp only[Bool.not_true,Bool.false_eq_true,if_false]
    rw[zN (by simp;omega)]
    simp only[Option.bind_some,zl (show j<100000 by omega)]
    exact hk _ _ ⟨rfl,rfl,rfl,by simp;omega⟩
  ·rintro⟨x,b,z⟩ ⟨x',z'⟩ k k' ⟨rfl,rfl,rfl,hz⟩
   simp only[Int.lt_irrefl,decide_false,Bool.false_eq_true,if_false,zl (show i<100000 by omega),Option.bind_some]
   have hz:z.length≤12*i+m.length:=hz
   exact hk _ _ ⟨rfl,rfl,rfl,by show z.length≤_;omega⟩
 ·rintro⟨x,b,y⟩ ⟨x',y'⟩ k k' ⟨rfl,rfl,rfl,hy⟩
  simp only[Int.lt_irrefl,decide_false,Bool.false_eq_true,if_false]
  exact EqS.mk
end
end Go.Proofs.YtocnbjjmmgolfaaGreat
namespace Go.Proofs.YtocnbjjmmgolfaaGreat
open Go Go.M Go.Proofs.C14
set_option linter.unusedSimpArgs false
set_option linter.unusedSectionVars false
theorem QV.upl{d B k:Nat}{x:Rat}(h:QV d B x):QV (k*d) B x:=by rw[Nat.mul_comm];exact h.up
theorem V2.upl{d B k:Nat}{v:Rat×Rat}(h:V2 d B v):V2 (k*d) B v:=⟨h.1.upl,h.2.upl⟩
structure QuadOK(l:List (Int×Int)):Prop where
 ex:∃a b c d,l=[a,b,c,d]∧(Nr 12 a∧Nr 12 b∧Nr 12 c∧Nr 12 d)∧quadR a b c d=true
structure PcOK(p:Pc):Prop where
 quad:QuadOK p.2.2.1
 id:0≤p.1∧p.1≤999
 home:0≤p.2.1∧p.2.1≤4
 worn:p.2.2.2.1.length=4
 marks:p.2.2.2.2.1=[0,0,0,0]
 tol:QV 4 2 p.2.2.2.2.2.1∧0≤p.2.2.2.2.2.1
 light:QV 2 10 p.2.2.2.2.2.2.1∧0<p.2.2.2.2.2.2.1
 heavy:QV 2 10 p.2.2.2.2.2.2.2.1∧p.2.2.2.2.2.2.1≤p.2.2.2.2.2.2.2.1
 strength:p.2.2.2.2.2.2.2.2.1=qI 100
 rough:p.2.2.2.2.2.2.2.2.2=Rat.divInt 1 2
structure PlOK(K:Nat)(v:Pl):Prop where
 turn:V2 K 1 v.1
 at':V2 12 14 v.2
theorem pt_v2{N:Nat}{a:Int×Int}(h:Nr N a):V2 1 N (ptQ a):=⟨QV.int h.1,QV.int h.2⟩
section
variable{K:Nat}(hK:Kd K){v:Pl}(hv:PlOK K v)
include hK hv
theorem rot_v{a:Int×Int}(h:Nr 12 a):RotOK v.1 (ptQ a)∧V2 K 24 (qy v.1 (ptQ a)):=by
 have hp:=pt_v2 h
 have:=V2.rot hv.turn hp
 rw[Nat.mul_one]at this
 exact⟨rot_ok hv.turn hp (hK.s0 Uz) ⟨by decide,by decide⟩ (hK.s1 Uz),this⟩
theorem put_v{a:Int×Int}(h:Nr 12 a):PutOK v (ptQ a)∧V2 (K*12) 40 (xI v (ptQ a)):=by
 obtain⟨h1,h2⟩:=rot_v hK hv h
 have s:=hK.s0 (B:=24) Uz
 have s2:SB 12 14:=⟨by decide,by decide⟩
 exact⟨⟨h1,h2.1.sm s,h2.2.sm s,hv.at'.1.sm s2,hv.at'.2.sm s2⟩,(h2.up.add hv.at'.upl).le Uz⟩
theorem put_sub{a b:Int×Int}(h:Nr 12 a)(g:Nr 12 b):V2 K 64 (subV (xI v (ptQ a)) (xI v (ptQ b))):=by
 have:=(rot_v hK hv h).2.sub (rot_v hK hv g).2
 have e:subV (xI v (ptQ a)) (xI v (ptQ b))=subV (qy v.1 (ptQ a)) (qy v.1 (ptQ b)):=by
  unfold subV xI
  exact Prod.ext (by show _=_;grind) (by show _=_;grind)
 rw[e]
 exact this.le Uz
theorem tri_ok{a b c:Int×Int}(ha:Nr 12 a)(hb:Nr 12 b)(hc:Nr 12 c):TriOK K ([a,b,c].map fun p=>xI v (ptQ p)):=by
 have hm:∀x∈[a,b,c],Nr 12 x:=by
  intro x hx
  simp only[List.mem_cons,List.not_mem_nil,or_false]at hx
  rcases hx with rfl|rfl|rfl
  ·exact ha
  ·exact hb
  ·exact hc
 refine⟨by simp,fun p hp=>?_,fun p hp q hq=>?_⟩
 ·obtain⟨x,hx,rfl⟩:=List.mem_map.mp hp
  exact(put_v hK hv (hm _ hx)).2
 ·obtain⟨x,hx,rfl⟩:=List.mem_map.mp hp
  obtain⟨y,hy,rfl⟩:=List.mem_map.mp hq
  exact put_sub hK hv (hm _ hx) (hm _ hy)
theorem cells_ok{p:Pc}(hp:PcOK p):∃l,z162 p v=some l∧z209 p v=some l∧l.length=2∧∀x∈l,TriOK K x:=by
 obtain⟨a,b,c,d,e,⟨ha,hb,hc,hd⟩,hq⟩:=hp.quad.ex
 have ha':=ha.le (M:=1000) Uz
 have hb':=hb.le (M:=1000) Uz
 have hc':=hc.le (M:=1000) Uz
 have hd':=hd.le (M:=1000) Uz
 have ka:=(put_v hK hv ha).1
 have kb:=(put_v hK hv hb).1
 have kc:=(put_v hK hv hc).1
 have kd:=(put_v hK hv hd).1
 refine⟨_,z162_int ha' hb' hc' hd' e (quad_eq.trans hq) ka kb kc kd,z209_int ha' hb' hc' hd' e hq ka kb kc kd,?_,?_⟩
 ·unfold cellsQ trisV
  rw[List.length_map]
  split
  ·rfl
  split
  ·rfl
  split
  ·rfl
  ·rfl
 ·intro x hx
  unfold cellsQ at hx
  obtain⟨t,ht,rfl⟩:=List.mem_map.mp hx
  have key:t=[d,a,b]∨t=[b,c,d]∨t=[a,b,c]∨t=[a,c,d]∨t=[a,b,d]∨t=[c,d,a]:=by
   unfold trisV at ht
   split at ht
   ·simp only[List.mem_cons,List.not_mem_nil,or_false]at ht;rcases ht with rfl|rfl<;>simp
   split at ht
   ·simp only[List.mem_cons,List.not_mem_nil,or_false]at ht;rcases ht with rfl|rfl<;>simp
   split at ht
   ·simp only[List.mem_cons,List.not_mem_nil,or_false]at ht;rcases ht with rfl|rfl<;>simp
   ·simp only[List.mem_cons,List.not_mem_nil,or_false]at ht;rcases ht with rfl|rfl<;>simp
  rcases key with rfl|rfl|rfl|rfl|rfl|rfl
  ·exact tri_ok hK hv hd ha hb
  ·exact tri_ok hK hv hb hc hd
  ·exact tri_ok hK hv ha hb hc
  ·exact tri_ok hK hv ha hc hd
  ·exact tri_ok hK hv ha hb hd
  ·exact tri_ok hK hv hc hd ha
theorem meet_same{p q:Pc}(hp:PcOK p)(hq:PcOK q){w:Pl}(hw:PlOK K w):EqS (z202 p q v w) (z136 p q v w):=by
 obtain⟨l,a1,a2,a3,a4⟩:=cells_ok hK hv hp
 obtain⟨m,b1,b2,b3,b4⟩:=cells_ok hK hw hq
 have ht:=(hp.tol.1.add hq.tol.1).neg
 obtain⟨r,e1,e2⟩:=all_eq hK ht a4 b4 Oz Oz
 have s:SB 4 4:=⟨by decide,by decide⟩
 unfold z202 z136
 rw[a1,a2,b1,b2]
 simp only[Option.bind_some]
 rw[yr (hp.tol.1.sm ⟨by decide,by decide⟩) (hq.tol.1.sm ⟨by decide,by decide⟩)]
 simp only[Option.bind_some]
 rw[xf ((hp.tol.1.add hq.tol.1).sm s)]
 simp only[Option.bind_some]
 rw[e1,e2]
 exact EqS.mk
end
end Go.Proofs.YtocnbjjmmgolfaaGreat
namespace Go.Proofs.YtocnbjjmmgolfaaGreat
open Go Go.M Go.Proofs.C14
set_option linter.unusedSimpArgs false
set_option linter.unusedSectionVars false
theorem loop_runS{σ ρ:Type}{B:(σ→Option ρ)→σ→Option ρ}(s n:Nat)(I:Nat→σ→Prop)(Q:Option ρ→Prop){k:Nat}{x:σ}(hs0:s≤n)(hk:n-s<k)(h0:I s x)
  (hs:∀i x g,s≤i→i<n→I i x→(∀y,I (i+1) y→Q (g y))→Q (B g x)) (he:∀x g,I n x→Q (B g x)):Q (zd B (zb k) x):=by
 rw[zm]
 exact loop_run (I:=fun i x=>s≤i∧I i x) Q (fun i x g hi hI hg=>hs i x g hI.1 hi hI.2 fun y hy=>hg y ⟨by omega,hy⟩) (fun x g hI=>he x g hI.2) (n-s) s k x Oz hk ⟨Nat.le_refl _,h0⟩
theorem cmp_tot(x y:Int×Int):∃r,z204 x y=some r:=by
 unfold z204 z215 z236
 simp only[Option.bind_some]
 repeat' (first|exact⟨_,rfl⟩|(split;skip))
section
variable{P:List Pc}{A:List Pl}{mt:Nat→Nat→Bool}
theorem meets_ok{n:Nat}(hn:n≤4)(hP:P.length=n)(hA:A.length=n)(hmt:∀i k (hi:i<k) (hk:k<n),z202 (P[i]'Oz) P[k] (A[i]'Oz) A[k]=some (mt i k))(m:Int)(bit:Nat→Bool)
  (hbit:∀i,i<n→decide (andI (Int.fdiv m (2 ^ min i 64)) 1=1)=bit i) :
  ∃l,z131 P A m=some l∧(0<l.length↔∃i k,i<k∧k<n∧bit i=true∧bit k=true∧mt i k=true):=by
 generalize hC:(∃i k,i<k∧k<n∧bit i=true∧bit k=true∧mt i k=true)=C
 unfold z131
 refine zi n (fun k (x:Int×List (Int×Int))=>x.1=(k:Int)∧x.2.length≤3*k∧(0<x.2.length↔∃i j,i<j∧j<k∧bit i=true∧bit j=true∧mt i j=true)) (fun(o:Option (List (Int×Int)))=>∃l,o=some l∧(0<l.length↔C)) ?_ ?_ ?_ ?_
 ·omega
 ·refine⟨rfl,by simp,⟨fun h=>absurd h Y8,?_⟩⟩
  rintro⟨i,j,a,b,c⟩
  omega
 ·rintro k ⟨x,L⟩ g hk ⟨rfl,h1,h2⟩ hg
  rw[if_pos (by rw[hP];exact zr hk)]
  refine zi k (fun i (y:Int×List (Int×Int))=>y.1=(i:Int)∧y.2.length≤3*k+i∧(0<y.2.length↔∃i' j,i'<j∧(j<k∨j=k∧i'<i)∧bit i'=true∧bit j=true∧mt i' j=true)) (fun(o:Option (List (Int×Int)))=>∃l,o=some l∧(0<l.length↔C)) ?_ ?_ ?_ ?_
  ·omega
  ·refine⟨rfl,h1,h2.trans ⟨?_,?_⟩⟩
   ·rintro⟨i',j,a,b,c⟩
    exact⟨i',j,a,by omega,c⟩
   ·rintro⟨i',j,a,b,c⟩
    exact⟨i',j,a,by omega,c⟩
  ·rintro i ⟨y,L'⟩ g' hi ⟨rfl,e1,e2⟩ hg'
   have e1:L'.length≤3*k+i:=e1
   rw[if_pos (zr hi),if_pos Oz]
   simp only[Int.toNat_natCast,hbit i Oz,hbit k hk]
   have stay:(bit i=true→bit k=true→mt i k=false)→∀y,y=(((i+1:Nat):Int),L')→(y.1=((i+1:Nat):Int)∧y.2.length≤3*k+(i+1)∧(0<y.2.length↔∃i' j,i'<j∧(j<k∨j=k∧i'<i+1)∧bit i'=true∧bit j=true∧mt i' j=true)):=by
    rintro hno y rfl
    refine⟨rfl,by show L'.length≤_;omega,e2.trans ⟨?_,?_⟩⟩
    ·rintro⟨i',j,a,b,c⟩
     exact⟨i',j,a,by omega,c⟩
    ·rintro⟨i',j,a,b,c⟩
     refine⟨i',j,a,?_,c⟩
     rcases b with b|⟨rfl,b⟩
     ·exact .inl b
     ·refine .inr ⟨rfl,?_⟩
      apply Decidable.byContradiction
      intro hc
      obtain rfl:i'=i:=by omega
      rw[hno c.1 c.2.1]at c
      exact absurd c.2.2 Uz
   by_cases b1:bit i=true
   ·rw[if_pos b1,if_pos Oz]
    by_cases b2:bit k=true
    ·rw[if_pos b2]
     simp only[zn (show i<P.length by omega),zn (show k<P.length by omega),zn (show i<A.length by omega),zn (show k<A.length by omega),Option.bind_some,hmt i k hi hk,zl (show i<100000 by omega)]
     by_cases b3:mt i k=true
     ·rw[if_pos b3,zN (by simp;omega)]
      refine hg' _ ⟨rfl,by simp;omega,⟨fun _=>⟨i,k,hi,.inr ⟨rfl,by omega⟩,b1,b2,b3⟩,fun _=>by simp⟩⟩
     ·rw[if_neg b3]
      exact hg' _ (stay (fun _ _=>by simpa using b3) _ rfl)
    ·rw[if_neg b2,zl (show i<100000 by omega)]
     exact hg' _ (stay (fun _ h=>absurd h b2) _ rfl)
   ·rw[if_neg b1,zl (show i<100000 by omega)]
    exact hg' _ (stay (fun h=>absurd h b1) _ rfl)
  ·rintro⟨y,L'⟩ g' ⟨rfl,e1,e2⟩
   have e1:L'.length≤3*k+k:=e1
   rw[if_neg Y8,zl (show k<100000 by omega)]
   refine hg _ ⟨rfl,by show L'.length≤_;omega,e2.trans ⟨?_,?_⟩⟩
   ·rintro⟨i',j,a,b,c⟩
    exact⟨i',j,a,by omega,c⟩
   ·rintro⟨i',j,a,b,c⟩
    exact⟨i',j,a,by omega,c⟩
 ·rintro⟨x,L⟩ g ⟨rfl,h1,h2⟩
  have h1:L.length≤3*n:=h1
  have hL:L.length≤12:=by omega
  have em:(L.length:Int) % 18446744073709551616=(L.length:Int):=by omega
  rw[if_neg (by rw[hP];simp)]
  dsimp only
  rw[em,if_pos ⟨by omega,by omega⟩]
  rw[show((L.length:Int)-0)=(L.length:Int)by omega,yg Oz,Option.bind_some,if_pos (decide_eq_true Oz)]
  have fin:∀{o:Option (List (Int×Int))},(∃l,o=some l∧l.length=L.length)→∃l,o=some l∧(0<l.length↔C):=by
   rw[←hC]
   rintro o ⟨l,rfl,e⟩
   exact⟨l,rfl,by rw[e];exact h2⟩
  refine fin (zi (L.length-1) (fun i (x:Int×List (Int×Int))=>x.1=((i+1:Nat):Int)∧x.2.length=L.length) (fun(o:Option (List (Int×Int)))=>∃l,o=some l∧l.length=L.length) ?_ ⟨rfl,rfl⟩ ?_ ?_)
  ·omega
  ·rintro i ⟨x,M⟩ g hi ⟨rfl,e⟩ hg
   have e:M.length=L.length:=e
   rw[if_pos (decide_eq_true (show((i+1:Nat):Int)<(L.length:Int)by omega))]
   refine zi (i+1) (fun t (x:Int×List (Int×Int))=>t≤i+1∧x.1=((i+1-t:Nat):Int)∧x.2.length=L.length) (fun(o:Option (List (Int×Int)))=>∃l,o=some l∧l.length=L.length) ?_ ⟨by omega,rfl,e⟩ ?_ ?_
   ·omega
   ·rintro t ⟨x,M'⟩ g' ht ⟨h3,rfl,e'⟩ hg'
    have e':M'.length=L.length:=e'
    have p1:i+1-t<M'.length:=by omega
    have p2:i+1-t-1<M'.length:=by omega
    have ej:(((i+1-t:Nat):Int)-1)=((i+1-t-1:Nat):Int):=by omega
    obtain⟨r,hr⟩:=cmp_tot M'[i+1-t] M'[i+1-t-1]
    rw[if_pos (decide_eq_true Oz)]
    simp only[zn p1,Option.bind_some]
    rw[ej,yg (show(((i+1-t-1:Nat):Int)).natAbs<_ by omega)]
    simp only[Option.bind_some,zn p2,hr]
    by_cases c:r<0
    ·rw[if_pos (decide_eq_true c)]
     rw[zn (show i+1-t-1<(zt M' (Int.toNat ((i+1-t:Nat):Int)) M'[i+1-t-1]).length by rw[ya];exact p2)]
     simp only[Option.bind_some]
     exact hg' _ ⟨by omega,by show _=_;omega,by simp only[ya];exact e'⟩
    ·rw[if_neg (by simp only[decide_eq_true_eq];exact c),zl (show i+1<100000 by omega)]
     exact hg _ ⟨rfl,e'⟩
   ·rintro⟨x,M'⟩ g' ⟨h3,rfl,e'⟩
    rw[if_neg (by simp only[decide_eq_true_eq];omega),zl (show i+1<100000 by omega)]
    exact hg _ ⟨rfl,e'⟩
  ·rintro⟨x,M⟩ g ⟨rfl,e⟩
   have e:M.length=L.length:=e
   rw[if_neg (by simp only[decide_eq_true_eq];omega)]
   exact⟨M,rfl,e⟩
end
end Go.Proofs.YtocnbjjmmgolfaaGreat
namespace Go.Proofs.YtocnbjjmmgolfaaGreat
open Go Go.M Go.Proofs.C14
set_option linter.unusedSimpArgs false
set_option linter.unusedSectionVars false
def mkP(f:Nat→Bool):Nat→Int
 |0=>0
 |k+1=>if f k=true then orI (mkP f k) (2 ^ k)else mkP f k
theorem mkP_bit(f:Nat→Bool){n i:Nat}(hn:n≤4)(hi:i<n):decide (andI (Int.fdiv (mkP f n) (2 ^ min i 64)) 1=1)=f i:=by
 have h:∀b0 b1 b2 b3:Bool,f 0=b0→f 1=b1→f 2=b2→f 3=b3→decide (andI (Int.fdiv (mkP f n) (2 ^ min i 64)) 1=1)=f i:=by
  intro b0 b1 b2 b3 h0 h1 h2 h3
  have e:n=1∨n=2∨n=3∨n=4:=by omega
  have e':i=0∨i=1∨i=2∨i=3:=by omega
  rcases e with rfl|rfl|rfl|rfl<;>rcases e' with rfl|rfl|rfl|rfl<;>(try omega)<;>simp only[mkP,h0,h1,h2,h3]<;>clear h0 h1 h2 h3 hn hi f<;>revert b0 b1 b2 b3<;>decide
 exact h _ _ _ _ rfl rfl rfl rfl
section
variable{P:List Pc}{A:List Pl}{R:List Int}{mt:Nat→Nat→Bool}{n:Nat}(hn:n≤4)(hP:P.length=n)(hA:A.length=n)(hR:R.length=n)(hr:∀i (hi:i<n),0≤R[i]∧R[i]<n)
include hn hP hA hR
include hr in
theorem crowdP_ok(hmt:∀i k (hi:i<k) (hk:k<n),z202 (P[i]'Oz) P[k] (A[i]'Oz) A[k]=some (mt i k))(c:Bool)(hc:c=true↔∃i k,∃(hi:i<k) (hk:k<n),R[i]=R[k]∧mt i k=true):z70 P R A=some c:=by
 unfold z70
 refine zi n (fun r x=>x=(r:Int)∧¬ ∃i k,∃(hi:i<k) (hk:k<n),R[i]=R[k]∧R[i]<r∧mt i k=true) (fun o=>o=some c) Oz ⟨rfl,by rintro⟨i,k,hi,hk,a,b,d⟩;have:=hr i Oz;omega⟩ ?_ ?_
 ·rintro r x g hi ⟨rfl,hno⟩ hg
  rw[if_pos (by rw[hP];exact zr hi)]
  refine zi n (fun k y=>y=(mkP (fun i=>decide (R.getD i 0=(r:Int))) k,(k:Int))) (fun o=>o=some c) Oz rfl ?_ ?_
  ·rintro k y g' hk rfl hg'
   have hkR:k<R.length:=by omega
   rw[if_pos (by rw[hR];exact zr hk)]
   simp only[zn hkR,Option.bind_some,zl (show k<100000 by omega)]
   by_cases h:R[k]=(r:Int)
   ·rw[if_pos (decide_eq_true h),if_pos ⟨by omega,by omega⟩]
    have e:(1:Int)*2 ^ (Int.toNat (k:Int))=2 ^ k:=by rw[Int.toNat_natCast,Int.one_mul]
    have e2:i64 ((2:Int) ^ k)=some (2 ^ k):=by
     have:k=0∨k=1∨k=2∨k=3:=by omega
     rcases this with rfl|rfl|rfl|rfl<;>exact yg Uz
    rw[e,e2]
    exact hg' _ (by simp only[mkP,xj hkR,h,decide_true,if_true])
   ·rw[if_neg (by simp only[decide_eq_true_eq];exact h)]
    exact hg' _ (by simp only[mkP,xj hkR,h,decide_false,Bool.false_eq_true,if_false])
  ·rintro y g' rfl
   rw[if_neg (by rw[hR];simp)]
   obtain⟨l,h1,h2⟩:=meets_ok hn hP hA hmt _ (fun i=>decide (R.getD i 0=(r:Int))) (fun i hi=>mkP_bit _ hn hi)
   simp only[h1,Option.bind_some]
   by_cases h:0<l.length
   ·rw[if_pos (decide_eq_true Oz)]
    obtain⟨i,k,a,b,d,e,f⟩:=h2.mp h
    rw[xj Oz]at d e
    congr 1
    refine(hc.mpr ⟨i,k,a,b,?_,f⟩).symm
    rw[of_decide_eq_true d,of_decide_eq_true e]
   ·rw[if_neg (by simp only[decide_eq_true_eq];omega),zl (show r<100000 by omega)]
    refine hg _ ⟨rfl,?_⟩
    rintro⟨i,k,a,b,d,e,f⟩
    by_cases q:R[i]=(r:Int)
    ·refine h (h2.mpr ⟨i,k,a,b,?_,?_,f⟩)
     ·rw[xj Oz];exact decide_eq_true q
     ·rw[xj Oz];exact decide_eq_true Oz
    ·exact hno ⟨i,k,a,b,d,by omega,f⟩
 ·rintro x g ⟨rfl,hno⟩
  rw[if_neg (by rw[hP];simp)]
  congr 1
  cases c
  ·rfl
  ·obtain⟨i,k,a,b,d,e⟩:=hc.mp rfl
   exact absurd ⟨i,k,a,b,d,(hr i Oz).2,e⟩ hno
theorem crowdR_ok(hmt:∀i k (hi:i<k) (hk:k<n),z136 (P[i]'Oz) P[k] (A[i]'Oz) A[k]=some (mt i k))(c:Bool)(hc:c=true↔∃i k,∃(hi:i<k) (hk:k<n),R[i]=R[k]∧mt i k=true):z76 P R A=some c:=by
 unfold z76
 refine zi n (fun r x=>x=(r:Int)∧¬ ∃i k,∃(hi:i<k) (hk:k<n),R[i]=R[k]∧i<r∧mt i k=true) (fun o=>o=some c) Oz ⟨rfl,by rintro⟨i,k,hi,hk,a,b,d⟩;omega⟩ ?_ ?_
 ·rintro r x g hi ⟨rfl,hno⟩ hg
  rw[if_pos (by rw[hP];exact zr hi),zl (show r<100000 by omega),Option.bind_some]
  refine loop_runS (r+1) n (fun j y=>y=(j:Int)∧¬ ∃k,∃(hi:r<k) (hk:k<n),R[r]=R[k]∧k<j∧mt r k=true) (fun o=>o=some c) Oz Oz ⟨rfl,by rintro⟨k,hi,hk,a,b,d⟩;omega⟩ ?_ ?_
  ·rintro j y g' hj0 hj ⟨rfl,hn2⟩ hg'
   rw[if_pos (by rw[hP];exact zr hj)]
   simp only[zn (show r<R.length by omega),zn (show j<R.length by omega),zn (show r<P.length by omega),zn (show j<P.length by omega),zn (show r<A.length by omega),zn (show j<A.length by omega),Option.bind_some,hmt r j Oz hj,zl (show j<100000 by omega)]
   have next:¬(R[r]=R[j]∧mt r j=true)→g' ((j+1:Nat):Int)=some c:=fun h=>hg' _ ⟨rfl,by
    rintro⟨k,a,b,d,e,f⟩
    by_cases q:k=j
    ·subst q;exact h ⟨d,f⟩
    ·exact hn2 ⟨k,a,b,d,by omega,f⟩⟩
   by_cases h:R[r]=R[j]
   ·rw[if_pos (decide_eq_true h)]
    by_cases h':mt r j=true
    ·rw[if_pos h']
     congr 1
     exact(hc.mpr ⟨r,j,by omega,hj,h,h'⟩).symm
    ·rw[if_neg h']
     exact next fun q=>h' q.2
   ·rw[if_neg (by simp only[decide_eq_true_eq];exact h)]
    exact next fun q=>h q.1
  ·rintro y g' ⟨rfl,hn2⟩
   rw[if_neg (by rw[hP];simp)]
   refine hg _ ⟨rfl,?_⟩
   rintro⟨i,k,a,b,d,e,f⟩
   by_cases q:i=r
   ·subst q;exact hn2 ⟨k,a,b,d,b,f⟩
   ·exact hno ⟨i,k,a,b,d,by omega,f⟩
 ·rintro x g ⟨rfl,hno⟩
  rw[if_neg (by rw[hP];simp)]
  congr 1
  cases c
  ·rfl
  ·obtain⟨i,k,a,b,d,e⟩:=hc.mp rfl
   exact absurd ⟨i,k,a,b,d,by omega,e⟩ hno
end
theorem crowd_eq{K n:Nat}(hK:Kd K){P:List Pc}{A:List Pl}{R:List Int}(hn:n≤4)(hP:P.length=n)(hA:A.length=n)(hR:R.length=n)(hr:∀i (hi:i<n),0≤R[i]∧R[i]<n)(hp:∀p∈P,PcOK p)(hv:∀v∈A,PlOK K v):EqS (z70 P R A) (z76 P R A):=by
 have key:∀i k:Nat,∃b:Bool,∀(hi:i<n) (hk:k<n),z202 P[i] P[k] A[i] A[k]=some b∧z136 P[i] P[k] A[i] A[k]=some b:=fun i k=>by
  by_cases h:i<n∧k<n
  ·obtain⟨b,e1,e2⟩:=meet_same hK (hv _ (List.getElem_mem (show i<A.length by omega))) (hp _ (List.getElem_mem (show i<P.length by omega))) (hp _ (List.getElem_mem (show k<P.length by omega))) (hv _ (List.getElem_mem (show k<A.length by omega)))
   exact⟨b,fun _ _=>⟨e1,e2⟩⟩
  ·exact⟨false,fun a b=>absurd ⟨a,b⟩ h⟩
 have key2:∃mt:Nat→Nat→Bool,∀i k (hi:i<n) (hk:k<n),z202 P[i] P[k] A[i] A[k]=some (mt i k)∧z136 P[i] P[k] A[i] A[k]=some (mt i k):=⟨fun i k=>(key i k).choose,fun i k=>(key i k).choose_spec⟩
 obtain⟨mt,hmt⟩:=key2
 have hc:∃c:Bool,c=true↔∃i k,∃(hi:i<k) (hk:k<n),R[i]=R[k]∧mt i k=true:=by
  by_cases h:∃i k,∃(hi:i<k) (hk:k<n),R[i]=R[k]∧mt i k=true
  ·exact⟨true,fun _=>h,fun _=>rfl⟩
  ·exact⟨false,fun q=>(nomatch q),fun q=>absurd q h⟩
 obtain⟨c,hc⟩:=hc
 rw[crowdP_ok hn hP hA hR hr (fun i k hi hk=>(hmt i k Oz hk).1) c hc,crowdR_ok hn hP hA hR (fun i k hi hk=>(hmt i k Oz hk).2) c hc]
 exact EqS.mk
end Go.Proofs.YtocnbjjmmgolfaaGreat
namespace Go.Proofs.YtocnbjjmmgolfaaGreat
open Go Go.M Go.Proofs.C14
set_option linter.unusedSimpArgs false
set_option linter.unusedSectionVars false
theorem xi{α:Type}{l:List α}{a:Int}(h0:0≤a)(h1:a<l.length):∃x∈l,idx l a=some x:=by
 obtain⟨k,rfl⟩:=Int.eq_ofNat_of_zero_le h0
 have:k<l.length:=by omega
 exact⟨l[k],List.getElem_mem this,zn this⟩
structure FtOK(n:Nat)(f:Fq):Prop where
 a0:0≤f.1
 ab:f.1<f.2.1
 bn:f.2.1<n
 e1:0≤f.2.2.1∧f.2.2.1<4
 e2:0≤f.2.2.2.1∧f.2.2.2.1<4
 m:1≤f.2.2.2.2.1∧f.2.2.2.2.1<4
theorem around4{a:Int}(h0 : -3≤a)(h1:a≤7):∃j:Nat,j<4∧z134 a 4=some (j:Int)∧Int.tmod (a+4) 4=(j:Int)∧(0≤a→Int.tmod a 4=(j:Int)):=by
 have e:a = -3∨a = -2∨a = -1∨a=0∨a=1∨a=2∨a=3∨a=4∨a=5∨a=6∨a=7:=by omega
 have q:∀{a:Int} (j:Nat),z134 a 4=some (j:Int)→(j<4∧Int.tmod (a+4) 4=(j:Int)∧(0≤a→Int.tmod a 4=(j:Int)))→∃j:Nat,j<4∧z134 a 4=some (j:Int)∧Int.tmod (a+4) 4=(j:Int)∧(0≤a→Int.tmod a 4=(j:Int)):=fun j h g=>⟨j,g.1,h,g.2⟩
 have p:∀{a:Int} (j:Nat),0≤a→Int.tmod a 4=(j:Int)→z134 a 4=some (j:Int):=fun{a} j h0 h=>by
  unfold z134
  rw[if_neg Uz,h,if_neg (by simp only[decide_eq_true_eq];omega),if_neg Uz]
 have p':∀{a:Int} (j:Nat),Int.tmod a 4=(j:Int)-4→j<4→z134 a 4=some (j:Int):=fun{a} j h hj=>by
  unfold z134
  rw[if_neg Uz,h,if_pos (by simp only[decide_eq_true_eq];omega),if_neg Uz,yg Oz]
  simp only[Option.bind_some]
  congr 1
  omega
 rcases e with rfl|rfl|rfl|rfl|rfl|rfl|rfl|rfl|rfl|rfl|rfl
 ·exact q 1 (p' 1 Uz Uz) Uz
 ·exact q 2 (p' 2 Uz Uz) Uz
 ·exact q 3 (p' 3 Uz Uz) Uz
 ·exact q 0 (p 0 Uz Uz) Uz
 ·exact q 1 (p 1 Uz Uz) Uz
 ·exact q 2 (p 2 Uz Uz) Uz
 ·exact q 3 (p 3 Uz Uz) Uz
 ·exact q 0 (p 0 Uz Uz) Uz
 ·exact q 1 (p 1 Uz Uz) Uz
 ·exact q 2 (p 2 Uz Uz) Uz
 ·exact q 3 (p 3 Uz Uz) Uz
theorem rim_ok{p:Pc}(hp:PcOK p):p.2.2.1.length=4∧z93 p=some (p.2.2.1.map ptQ)∧z154 p=some (p.2.2.1.map ptQ)∧(∀x∈p.2.2.1,Nr 12 x)∧z92 (p.2.2.1.map ptQ)=some true∧z194 (p.2.2.1.map ptQ)=some true:=by
 obtain⟨a,b,c,d,e,⟨ha,hb,hc,hd⟩,hq⟩:=hp.quad.ex
 have ha':=ha.le (M:=1000) Uz
 have hb':=hb.le (M:=1000) Uz
 have hc':=hc.le (M:=1000) Uz
 have hd':=hd.le (M:=1000) Uz
 have h1:=z93_int e ha' hb' hc' hd'
 have h2:=z154_int e ha' hb' hc' hd'
 rw[e]
 refine⟨rfl,h1,h2,fun x hx=>?_,?_,?_⟩
 ·simp only[List.mem_cons,List.not_mem_nil,or_false]at hx
  rcases hx with rfl|rfl|rfl|rfl
  ·exact ha
  ·exact hb
  ·exact hc
  ·exact hd
 ·rw[←hq];exact z92_int ha' hb' hc' hd'
 ·rw[←hq,←quad_eq];exact z194_int ha' hb' hc' hd'
abbrev Bd:=Int×Int×Rat
def BdOK(K n:Nat)(e:Bd):Prop:=(0≤e.1∧e.1<n)∧(0≤e.2.1∧e.2.1<n)∧QV (K*4) 60 e.2.2
def GoodB(K n m:Nat)(L:List Bd):Prop:=L.length≤m∧∀e∈L,BdOK K n e
def TwoB(K n:Nat)(o o':Option (List Bd×List Bd×List Int)):Prop:=∃X Y of of',o=some (X,Y,of)∧o'=some (X,Y,of')∧GoodB K n 60 X∧GoodB K n 60 Y
section
variable{K n:Nat}(hK:Kd K){P:List Pc}{F:List Fq}{T:List (Rat×Rat)}
include hK
theorem bounds_eq(hP:P.length=n)(hp:∀p∈P,PcOK p)(hT:T.length=n)(ht:∀t∈T,V2 K 1 t)(hF:F.length≤6)(hf:∀f∈F,FtOK n f) :
  TwoB K n (z68 P F T) (z74 P F T):=by
 have s0:=hK.s0 (B:=24) Uz
 have s1:=hK.s0 (B:=48) Uz
 have s4:SB 4 4:=⟨by decide,by decide⟩
 have s42:SB 4 2:=⟨by decide,by decide⟩
 unfold z68 z74
 refine qq F.length (fun i (x:Int×List Int×List Bd×List Bd) (x':Int×List Bd×List Bd×List Int)=>x.1=(i:Int)∧x'.1=(i:Int)∧x'.2.1=x.2.2.1∧x'.2.2.1=x.2.2.2∧GoodB K n (10*i) x.2.2.1∧GoodB K n (10*i) x.2.2.2∧x.2.1.length≤10*i∧x'.2.2.2.length≤10*i) (TwoB K n) Oz Oz ⟨rfl,rfl,rfl,rfl,⟨by simp,by simp⟩,⟨by simp,by simp⟩,by simp,by simp⟩ ?_ ?_
 ·rintro i ⟨x,o,X0,Y0⟩ ⟨x',X,Y,o'⟩ g g' hi ⟨rfl,rfl,rfl,rfl,hX,hY,ho,ho'⟩ hg
  have fo:=hf _ (List.getElem_mem hi)
  rcases hfe:F[i]with⟨a,b,ea,eb,m,rest⟩
  rw[hfe]at fo
  obtain⟨a0,ab,bn,⟨e10,e11⟩,⟨e20,e21⟩,⟨m0,m1⟩⟩:=fo
  simp only at a0 ab bn e10 e11 e20 e21 m0 m1
  obtain⟨pa,hpa,ipa⟩:=xi (l:=P) a0 Oz
  obtain⟨pb,hpb,ipb⟩:=xi (l:=P) (a:=b) Oz Oz
  obtain⟨ta,hta,ita⟩:=xi (l:=T) a0 Oz
  obtain⟨tb,htb,itb⟩:=xi (l:=T) (a:=b) Oz Oz
  have ka:=hp _ hpa
  have kb:=hp _ hpb
  obtain⟨la,ra,-,na,-⟩:=rim_ok ka
  obtain⟨lb,rb,-,nb,-⟩:=rim_ok kb
  have hta:=ht _ hta
  have htb:=ht _ htb
  have he:=ka.tol.1.add kb.tol.1
  have ae:=yr (ka.tol.1.sm s42) (kb.tol.1.sm s42)
  generalize hee:pa.2.2.2.2.2.1+pb.2.2.2.2.2.1=e at *
  rw[if_pos (zr hi),if_pos (zr hi)]
  simp only[zn hi,hfe,Option.bind_some,ipa,ipb,ra,rb,ae]
  rw[yg (show(m+1).natAbs<_ by omega)]
  simp only[Option.bind_some]
  obtain⟨mm,rfl⟩:=Int.eq_ofNat_of_zero_le (show 0≤m by omega)
  refine qq (mm+1) (fun k (x:Int×List Int×List Bd×List Bd) (x':Int×List Bd×List Bd×List Int)=>x.1=(k:Int)∧x'.1=(k:Int)∧x'.2.1=x.2.2.1∧x'.2.2.1=x.2.2.2∧GoodB K n (10*i+2*k) x.2.2.1∧GoodB K n (10*i+2*k) x.2.2.2∧x.2.1.length≤10*i+2*k∧x'.2.2.2.length≤10*i+2*k) (TwoB K n) Oz Oz ⟨rfl,rfl,rfl,rfl,hX,hY,ho,ho'⟩ ?_ ?_
  ·rintro k ⟨x,o,X0,Y0⟩ ⟨x',X,Y,o'⟩ h h' hk ⟨rfl,rfl,rfl,rfl,hX,hY,ho,ho'⟩ hh
   have hX:GoodB K n (10*i+2*k) X:=hX
   have hY:GoodB K n (10*i+2*k) Y:=hY
   have ho:o.length≤10*i+2*k:=ho
   have ho':o'.length≤10*i+2*k:=ho'
   obtain⟨j1,q1,q2,-,q3⟩:=around4 (a:=ea+k) Oz Oz
   obtain⟨j2,r1,r2,r3,-⟩:=around4 (a:=eb+1-k) Oz Oz
   have q3:=q3 Oz
   have v1:=na _ (List.getElem_mem (show j1<pa.2.2.1.length by omega))
   have v2:=nb _ (List.getElem_mem (show j2<pb.2.2.1.length by omega))
   have w1:idx pa.2.2.1 (j1:Int)=some pa.2.2.1[j1]:=zn Oz
   have w2:idx pb.2.2.1 (j2:Int)=some pb.2.2.1[j2]:=zn Oz
   have w3:idx (pa.2.2.1.map ptQ) (j1:Int)=some (ptQ pa.2.2.1[j1]):=by rw[zn V4,List.getElem_map]
   have w4:idx (pb.2.2.1.map ptQ) (j2:Int)=some (ptQ pb.2.2.1[j2]):=by rw[zn V4,List.getElem_map]
   generalize pa.2.2.1[j1]=c1 at *
   generalize pb.2.2.1[j2]=c2 at *
   have o1:=rot_ok hta (pt_v2 v1) (hK.s0 Uz) ⟨by decide,by decide⟩ (hK.s1 Uz)
   have o2:=rot_ok htb (pt_v2 v2) (hK.s0 Uz) ⟨by decide,by decide⟩ (hK.s1 Uz)
   have u1:=V2.rot hta (pt_v2 v1)
   have u2:=V2.rot htb (pt_v2 v2)
   rw[Nat.mul_one]at u1 u2
   have d:=u1.sub u2
   have t1:=z127_int (v1.le (M:=10000) Uz)
   have t2:=z127_int (v2.le (M:=10000) Uz)
   have i1:i64 (ea+k)=some (ea+k):=yg Oz
   have i2:i64 (eb+1)=some (eb+1):=yg Oz
   have i3:i64 (eb+1-k)=some (eb+1-k):=yg Oz
   have i4:i64 (eb+1-k+4)=some (eb+1-k+4):=yg Oz
   have n4:¬((4:Int)=0):=by decide
   have sb:=z126_v u1 u2 s0 s0
   have sb':=z39_v u1 u2 s0 s0
   have m1:=yr (d.1.sm s1) (he.sm s4)
   have m2:=qd (he.sm s4) (d.1.sm s1)
   have m3:=yr (d.2.sm s1) (he.sm s4)
   have m4:=qd (he.sm s4) (d.2.sm s1)
   rw[if_pos (decide_eq_true (by show(k:Int)<_;omega)),if_pos (decide_eq_true (by show(k:Int)≤_;omega))]
   simp only[i1,i2,i3,i4,la,lb,List.length_map,Option.bind_some,q3,r3,w1,w2,w3,w4,ita,itb,t1,t2,z125_rot o1,z125_rot o2,z40_rot o1,z40_rot o2,sb,sb',show((4:Nat):Int)=4 from rfl,if_neg n4,q2,r2]
   simp only[show ∀x y:Rat,idx [x,y] 0=some x from fun _ _=>rfl,show ∀x y:Rat,idx [x,y] 1=some y from fun _ _=>rfl,Option.bind_some,m1,m2,m3,m4]
   rw[zN (by simp;have:=hX.1;omega),Option.bind_some,zN (by simp;have:=hY.1;omega),Option.bind_some,zN (by simp;omega),Option.bind_some,zN (by simp;omega),Option.bind_some,zl (show k<100000 by omega)]
   simp only[Option.bind_some]
   have good:∀{L:List Bd} {x y:Rat},GoodB K n (10*i+2*k) L→QV (K*4) 60 x→QV (K*4) 60 y→GoodB K n (10*i+2*(k+1)) (L++[(a,b,x),(b,a,y)]):=by
    rintro L x y ⟨g1,g2⟩ hx hy
    refine⟨by simp;omega,fun z hz=>?_⟩
    rcases List.mem_append.mp hz with hz|hz
    ·exact g2 z hz
    ·simp only[List.mem_cons,List.not_mem_nil,or_false]at hz
     rcases hz with rfl|rfl
     ·exact⟨⟨a0,by show a<_;omega⟩,⟨by show 0≤b;omega,bn⟩,hx⟩
     ·exact⟨⟨by show 0≤b;omega,bn⟩,⟨a0,by show a<_;omega⟩,hy⟩
   have f1:∀{x:Rat},QV K (12+12+(12+12)) x→QV (K*4) 60 (x+e)∧QV (K*4) 60 (e-x):=fun h=>⟨(h.up.add he.upl).le Uz,(he.upl.sub h.up).le Uz⟩
   exact hh _ _ ⟨rfl,rfl,rfl,rfl,good hX (f1 d.1).1 (f1 d.1).2,good hY (f1 d.2).1 (f1 d.2).2,by simp;omega,by simp;omega⟩
  ·rintro⟨x,o,X0,Y0⟩ ⟨x',X,Y,o'⟩ h h' ⟨rfl,rfl,rfl,rfl,hX,hY,ho,ho'⟩
   have hX:GoodB K n (10*i+2*(mm+1)) X:=hX
   have hY:GoodB K n (10*i+2*(mm+1)) Y:=hY
   have ho:o.length≤10*i+2*(mm+1):=ho
   have ho':o'.length≤10*i+2*(mm+1):=ho'
   rw[if_neg (by simp only[decide_eq_true_eq];omega),if_neg (by simp only[decide_eq_true_eq];omega),zl (show i<100000 by omega)]
   simp only[Option.bind_some]
   exact hg _ _ ⟨rfl,rfl,rfl,rfl,⟨by show X.length≤_;have:=hX.1;omega,hX.2⟩,⟨by show Y.length≤_;have:=hY.1;omega,hY.2⟩,by show o.length≤_;omega,by show o'.length≤_;omega⟩
 ·rintro⟨x,o,X0,Y0⟩ ⟨x',X,Y,o'⟩ g g' ⟨rfl,rfl,rfl,rfl,hX,hY,ho,ho'⟩
  rw[if_neg Y8,if_neg Y8]
  exact⟨_,_,_,_,rfl,rfl,⟨by have:=hX.1;omega,hX.2⟩,⟨by have:=hY.1;omega,hY.2⟩⟩
theorem solves_eq(hn:0<n∧n≤4){X:List Bd}(hX:X.length≤60)(hb:∀e∈X,BdOK K n e){xs:List Rat}(hl:xs.length=n)(hx:∀x∈xs,QV 12 14 x):∃b:Bool,z69 (n:Int) X xs []=some (if b=true then 0 else 22)∧z75 (n:Int) X xs=some b:=by
 have made:z128 (n:Int) X=some (((n:Int),X),true):=by
  unfold z128
  rw[if_pos (decide_eq_true Oz),if_pos (decide_eq_true Oz),if_pos (decide_eq_true Oz)]
  refine zi X.length (fun i x=>x=(i:Int)) (fun o=>o=_) Oz rfl ?_ ?_
  ·rintro i x g hi rfl hg
   obtain⟨⟨h1,h2⟩,⟨h3,h4⟩,-⟩:=hb _ (List.getElem_mem hi)
   rw[if_pos (zr hi)]
   simp only[zn hi,Option.bind_some]
   rw[if_neg (by simp only[decide_eq_true_eq];omega),if_neg (by simp only[decide_eq_true_eq];omega),if_neg (by simp only[decide_eq_true_eq];omega),if_neg (by simp only[decide_eq_true_eq];omega),zl (show i<100000 by omega)]
   exact hg _ rfl
  ·rintro x g rfl
   rw[if_neg Y8]
 have both:EqS (z129 ((n:Int),X) xs) (z75 (n:Int) X xs):=by
  unfold z129 z75
  rw[if_pos (decide_eq_true (by show(xs.length:Int)=n;omega)),if_neg (by simp only[decide_eq_true_eq];omega)]
  refine qq X.length (fun i x x'=>x=(i:Int)∧x'=(i:Int)) EqS Oz Oz ⟨rfl,rfl⟩ ?_ ?_
  ·rintro i x x' g g' hi ⟨rfl,rfl⟩ hg
   obtain⟨⟨h1,h2⟩,⟨h3,h4⟩,h5⟩:=hb _ (List.getElem_mem hi)
   obtain⟨x1,m1,i1⟩:=xi (l:=xs) h1 Oz
   obtain⟨x2,m2,i2⟩:=xi (l:=xs) h3 Oz
   have k1:=hx _ m1
   have k2:=hx _ m2
   have s:SB 12 14:=⟨by decide,by decide⟩
   have s2:SB 12 28:=⟨by decide,by decide⟩
   have s3:=hK.s1 (c:=4) (B:=60) Uz
   have s4:=hK.s1 (c:=12) (B:=74) Uz
   have k3:QV (K*12) 74 (x1+X[i].2.2):=by
    have a:=k1.upl (k:=K)
    have b:QV (K*12) 60 X[i].2.2:=by
     have:=h5.up (k:=3)
     rw[Nat.mul_assoc]at this
     exact this
    exact a.add b
   rw[if_pos (zr hi),if_pos (zr hi)]
   simp only[zn hi,Option.bind_some,i1,i2,qd (k2.sm s) (k1.sm s),yr (k1.sm s) (h5.sm s3),yJ ((k2.sub k1).sm s2) (h5.sm s3),yJ (k2.sm s) (k3.sm s4),cmpQ_pos,zl (show i<100000 by omega)]
   have e:X[i].2.2<x2-x1↔x1+X[i].2.2<x2:=by constructor<;>intro h<;>grind
   by_cases c:X[i].2.2<x2-x1
   ·rw[if_pos (decide_eq_true c),if_pos (decide_eq_true (e.mp c)),show decide ((0:Int)≤(i:Int))=true from decide_eq_true Oz]
    exact EqS.mk
   ·rw[if_neg (by simp only[decide_eq_true_eq];exact c),if_neg (by simp only[decide_eq_true_eq];exact fun q=>c (e.mpr q))]
    exact hg _ _ ⟨rfl,rfl⟩
  ·rintro x x' g g' ⟨rfl,rfl⟩
   rw[if_neg Y8,if_neg Y8]
   exact EqS.mk
 obtain⟨b,e1,e2⟩:=both
 refine⟨b,?_,e2⟩
 unfold z69
 rw[made]
 simp only[Option.bind_some,Bool.not_true,Bool.false_eq_true,if_false,List.length_nil]
 rw[if_pos Uz,e1]
 simp only[Option.bind_some]
 cases b
 ·rw[if_neg Uz,if_neg (by simp only[decide_eq_true_eq];omega),if_neg Uz]
 ·rw[if_pos rfl,if_pos rfl]
end
end Go.Proofs.YtocnbjjmmgolfaaGreat
