/- The search for a way vH the edges of a forest: it ends, and finds a way where there is one. -/
/- The turns of pieces: what the program and the reference both return. -/
/- The root of a piece: the least one that it hangs together with. -/
/- Turns whose numbers have small denominators; how far the turns vH a way go. -/
/- Searching vH lists; qj of longer lists; what a search costs. -/
import Derived.Test.YtocnbjjmmgolfaaGreatA10
namespace Go.Proofs.C14
section
variable(e:Nat→Int×Int)
def dfs(tree:List Nat):Nat→Int→Int→Int→Option (List Nat)
 |0,_,_,_=>none
 |f+1,v,w,l=>if v=w then some []else
  tree.findSome? fun(k:Nat)=>if (k:Int)=l∨¬Inc e k v then none else(dfs tree f (oth e k v) w k).map (k::·)
def Tm(tree:List Nat):Nat→Int→Int→Prop
 |0,_,_=>False
 |f+1,v,l=>∀k∈tree,(k:Int)≠l→Inc e k v→Tm tree f (oth e k v) k
variable{e}
theorem findSome_congr{α β:Type}{f g:α→Option β}:∀{l:List α},(∀a∈l,f a=g a)→l.findSome? f=l.findSome? g
 | [],_=>rfl
 |a::l,h=>by
  rw[List.findSome?_cons,List.findSome?_cons,h a Y8,findSome_congr (l:=l) fun b hb=>h b (by simp[hb])]
theorem dfs_nb{tree:List Nat}:∀{f:Nat} {v w l:Int} {r:List Nat},dfs e tree f v w l=some r→NB e tree v l r w
 |0,_,_,_,_,h=>by cases h
 |f+1,v,w,l,r,h=>by
  rw[dfs]at h
  split at h
  ·next hv=>cases h;exact hv
  ·obtain⟨k,hk,hs⟩:=List.exists_of_findSome?_eq_some h
   split at hs
   ·cases hs
   ·next hc=>
    cases hd:dfs e tree f (oth e k v) w k with
    |none=>rw[hd]at hs;cases hs
    |some r'=>
     rw[hd]at hs
     cases hs
     exact⟨hk,fun h0=>hc (.inl h0),Decidable.byContradiction fun h0=>hc (.inr h0),dfs_nb hd⟩
theorem dfs_some{tree:List Nat}:∀{r:List Nat} {f:Nat} {v w l:Int},NB e tree v l r w→r.length<f→(dfs e tree f v w l).isSome
 |r,0,_,_,_,_,h=>by omega
 | [],f+1,v,w,l,h,_=>by
  have:v=w:=h
  rw[dfs,if_pos this]
  rfl
 |k::r,f+1,v,w,l,h,hl=>by
  rw[dfs]
  split
  ·rfl
  ·rw[List.findSome?_isSome_iff]
   refine⟨k,h.1,?_⟩
   rw[if_neg (fun h0=>h0.elim h.2.1 fun h1=>h1 h.2.2.1)]
   have:=dfs_some (r:=r) (f:=f) h.2.2.2 (by simpa using hl)
   rw[Option.isSome_map]
   exact this
theorem not_tm{tree:List Nat}:∀{f:Nat} {v l:Int},¬Tm e tree f v l→∃r w,NB e tree v l r w∧r.length=f
 |0,v,_,_=>⟨[],v,rfl,rfl⟩
 |f+1,v,l,h=>by
  apply Classical.byContradiction
  intro hn
  apply h
  intro k hk hl hi
  apply Classical.byContradiction
  intro ht
  obtain⟨r,w,h1,h2⟩:=not_tm ht
  exact hn ⟨k::r,w,⟨hk,hl,hi,h1⟩,by simp[h2]⟩
theorem Fo.tm{tree:List Nat}(hF:Fo e tree)(v l:Int):Tm e tree (tree.length+1) v l:=by
 apply Classical.byContradiction
 intro h
 obtain⟨r,w,h1,h2⟩:=not_tm h
 have:=hF.short h1
 omega
def way(e:Nat→Int×Int)(tree:List Nat)(v w:Int):Option (List Nat):=dfs e tree (tree.length+1) v w (-1)
theorem way_some{tree:List Nat}(hF:Fo e tree){v w:Int}:(way e tree v w).isSome↔Cn e tree v w:=by
 constructor
 ·intro h
  obtain⟨r,hr⟩:=Option.isSome_iff_exists.mp h
  exact⟨r,dfs_nb hr⟩
 ·rintro⟨r,hr⟩
  have:=hF.short hr
  exact dfs_some hr O
theorem way_nodup{tree:List Nat}(hF:Fo e tree){v w:Int}{r:List Nat}(h:way e tree v w=some r):r.Nodup∧∀k∈r,k∈tree:=⟨hF.nodup (dfs_nb h),(dfs_nb h).mem⟩
def qj(e:Nat→Int×Int):Nat→List Nat
 |0=>[]
 |n+1=>if (way e (qj e n) (e n).1 (e n).2).isSome then qj e n else qj e n++[n]
theorem trees_len:∀n,(qj e n).length≤n
 |0=>Nat.le_refl _
 |n+1=>by have:=trees_len n;rw[qj];split<;>simp<;>omega
theorem vC:∀n,∀k∈qj e n,k<n
 |0,k,h=>by cases h
 |n+1,k,h=>by
  rw[qj]at h
  split at h
  ·have:=vC n k h;omega
  ·rcases List.mem_append.mp h with h|h
   ·have:=vC n k h;omega
   ·have:=List.mem_singleton.mp h;omega
theorem kr:∀n,Fo e (qj e n)
 |0=>Fo.nil
 |n+1=>by
  rw[qj]
  split
  ·exact kr n
  ·next h=>exact Fo.add (kr n) fun hc=>h ((way_some (kr n)).mpr hc)
theorem trees_cn:∀{n:Nat} {k:Nat},k<n→Cn e (qj e n) (e k).1 (e k).2
 |0,_,h=>by omega
 |n+1,k,h=>by
  rw[qj]
  by_cases hk:k=n
  ·subst hk
   split
   ·next hs=>exact(way_some (kr k)).mp hs
   ·exact⟨[k],by simp,by omega,.inl rfl,by show _=_;unfold oth;omega⟩
  ·have:=trees_cn (n:=n) (k:=k) O
   split
   ·exact this
   ·exact this.mono fun j hj=>List.mem_append_left _ hj
def merge(l:List Int)(a b:Int):List Int:=l.map fun x=>if x=max (l.getD a.toNat 0) (l.getD b.toNat 0)then min (l.getD a.toNat 0) (l.getD b.toNat 0)else x
def kL(e:Nat→Int×Int)(n:Nat):Nat→List Int
 |0=>(List.range n).map fun(i:Nat)=>(i:Int)
 |m+1=>merge (kL e n m) (e m).1 (e m).2
structure RootsOf(e:Nat→Int×Int)(n:Nat)(tree:List Nat)(l:List Int):Prop where
 len:l.length=n
 le:∀i:Nat,i<n→0≤l.getD i 0∧l.getD i 0≤i
 cn:∀i:Nat,i<n→Cn e tree (l.getD i 0) i
 same:∀i j:Nat,i<n→j<n→(Cn e tree i j↔l.getD i 0=l.getD j 0)
theorem merge_getD{l:List Int}{a b:Int}{i:Nat}(h:i<l.length):(merge l a b).getD i 0=if l.getD i 0=max (l.getD a.toNat 0) (l.getD b.toNat 0)then min (l.getD a.toNat 0) (l.getD b.toNat 0)else l.getD i 0:=by
 unfold merge
 rw[List.getD_eq_getElem?_getD,List.getElem?_map,List.getD_eq_getElem?_getD (l:=l) (i:=i),List.getElem?_eq_getElem h]
 rfl
theorem cn_nil{v w:Int}:Cn e [] v w↔v=w:=by
 constructor
 ·rintro⟨r,h⟩
  cases r with
  |nil=>exact h
  |cons k r=>exact absurd h.1 Y8
 ·rintro rfl;exact .refl
theorem roots_of{n:Nat}:∀{m:Nat},(∀k,k<m→0≤(e k).1∧(e k).1<(e k).2∧(e k).2<n)→RootsOf e n (qj e m) (kL e n m)
 |0,_=>by
  have hg:∀i:Nat,i<n→((List.range n).map fun(i:Nat)=>(i:Int)).getD i 0=i:=fun i hi=>by
   rw[List.getD_eq_getElem?_getD,List.getElem?_map,List.getElem?_range hi];rfl
  refine⟨by simp[kL],fun i hi=>?_,fun i hi=>?_,fun i j hi hj=>?_⟩
  ·rw[kL,hg i hi];omega
  ·rw[kL,hg i hi];exact .refl
  ·rw[kL,hg i hi,hg j hj,qj,cn_nil]
 |m+1,h=>by
  have ih:=roots_of (m:=m) fun k hk=>h k O
  obtain⟨h1,h2,h3⟩:=h m O
  obtain⟨a,ha⟩:∃a:Nat,(e m).1=a:=⟨(e m).1.toNat,by omega⟩
  obtain⟨b,hb⟩:∃b:Nat,(e m).2=b:=⟨(e m).2.toNat,by omega⟩
  have han:a<n:=by omega
  have hbn:b<n:=by omega
  have hla:=ih.le a han
  have hlb:=ih.le b hbn
  rw[kL,qj,ha,hb]
  have hg:∀i:Nat,i<n→(merge (kL e n m) (a:Int) (b:Int)).getD i 0=if (kL e n m).getD i 0=max ((kL e n m).getD a 0) ((kL e n m).getD b 0)then min ((kL e n m).getD a 0) ((kL e n m).getD b 0)else(kL e n m).getD i 0:=fun i hi=>merge_getD (by rw[ih.len];exact hi)
  split
  ·next hs=>
   have hc:=(way_some (kr m)).mp hs
   have hab:=(ih.same a b han hbn).mp hc
   refine⟨by simp[merge,ih.len],fun i hi=>?_,fun i hi=>?_,fun i j hi hj=>?_⟩
   ·have:=ih.le i hi
    rw[hg i hi];split<;>omega
   ·have:=ih.cn i hi
    rw[hg i hi,hab];split
    ·next h0=>rw[h0]at this;rw[Int.max_self]at this;rw[Int.min_self];exact this
    ·exact this
   ·rw[ih.same i j hi hj,hg i hi,hg j hj,hab]
    split<;>split<;>omega
  ·next hs=>
   have hc:¬Cn e (qj e m) (e m).1 (e m).2:=fun h0=>hs ((way_some (kr m)).mpr (by rw[←ha,←hb];exact h0))
   have hadd:= @Cn.add e (qj e m) (kr m) m hc
   rw[ha,hb]at hadd
   have hca:=ih.cn a han
   have hcb:=ih.cn b hbn
   have hne:(kL e n m).getD a 0≠(kL e n m).getD b 0:=fun h0=>hc (by rw[ha,hb];exact(ih.same a b han hbn).mpr h0)
   generalize hA:(kL e n m).getD a 0=A at *
   generalize hB:(kL e n m).getD b 0=B at *
   refine⟨by simp[merge,ih.len],fun i hi=>?_,fun i hi=>?_,fun i j hi hj=>?_⟩
   ·have:=ih.le i hi
    rw[hg i hi];split<;>omega
   ·have hci:=ih.cn i hi
    have hm:∀{x y:Int},Cn e (qj e m) x y→Cn e (qj e m++[m]) x y:=fun h0=>h0.mono fun j hj=>List.mem_append_left _ hj
    have hAB:Cn e (qj e m++[m]) A B:=((hm hca).trans (hadd.mpr (.inr (.inl ⟨.refl,.refl⟩)))).trans (hm hcb.symm)
    rw[hg i hi]
    split
    ·next h0=>
     rw[h0]at hci
     by_cases hlt:A<B
     ·rw[show max A B=B by omega]at hci
      rw[show min A B=A by omega]
      exact hAB.trans (hm hci)
     ·rw[show max A B=A by omega]at hci
      rw[show min A B=B by omega]
      exact hAB.symm.trans (hm hci)
    ·exact hm hci
   ·have e1:=ih.same i j hi hj
    have e2:=ih.same i a hi han
    have e3:=ih.same b j hbn hj
    have e4:=ih.same i b hi hbn
    have e5:=ih.same a j han hj
    rw[hA]at e2 e5
    rw[hB]at e3 e4
    rw[hadd,e1,e2,e3,e4,e5,hg i hi,hg j hj]
    split<;>split<;>omega
end
end Go.Proofs.C14
namespace Go.Proofs.C14
abbrev Q2:=Rat×Rat
def wC:Q2:=(1,0)
def aft(t u:Q2):Q2:=(t.1*u.1-t.2*u.2,t.2*u.1+t.1*u.2)
def bck(t:Q2):Q2:=(t.1,-t.2)
section
variable(e:Nat→Int×Int)(T:Nat→Q2)
def vH:List Nat→Int→Q2→Q2
 | [],_,t=>t
 |k::r,v,t=>vH r (oth e k v) (aft t (if (e k).1=v then T k else bck (T k)))
def clash(k:Nat):Option (List Nat):=
 match way e (qj e k) (e k).1 (e k).2 with
 |none=>none
 |some r=>if vH e T r (e k).1 wC=T k then none else some r
def first:Nat→Option (Nat×List Nat)
 |0=>none
 |n+1=>match first n with
  |some x=>some x
  |none=>(clash e T n).map (n, ·)
def insS(l:List Int)(n:Int):List Int:=l.filter (·<n)++n::l.filter (n<·)
variable{e T}
theorem insS_sorted{l:List Int}{n:Int}(h:l.Pairwise (·<·)):(insS l n).Pairwise (·<·):=by
 unfold insS
 rw[List.pairwise_append,List.pairwise_cons]
 refine⟨h.filter _,⟨fun x hx=>?_,h.filter _⟩,fun x hx y hy=>?_⟩
 ·simpa using (List.mem_filter.mp hx).2
 ·have h1:x<n:=by simpa using (List.mem_filter.mp hx).2
  rcases List.mem_cons.mp hy with rfl|hy
  ·exact h1
  ·have h2:n<y:=by simpa using (List.mem_filter.mp hy).2
   omega
theorem insS_mem{l:List Int}{n x:Int}:x∈insS l n↔x=n∨x∈l:=by
 unfold insS
 rw[List.mem_append,List.mem_cons,List.mem_filter,List.mem_filter]
 simp only[decide_eq_true_eq]
 constructor
 ·rintro(h|h|h)
  ·exact .inr h.1
  ·exact .inl h
  ·exact .inr h.1
 ·rintro(h|h)
  ·exact .inr (.inl h)
  ·by_cases h1:x<n
   ·exact .inl ⟨h,h1⟩
   ·by_cases h2:x=n
    ·exact .inr (.inl h2)
    ·exact .inr (.inr ⟨h,by omega⟩)
theorem fold_sorted:∀{r l:List Int},l.Pairwise (·<·)→(r.foldl insS l).Pairwise (·<·)
 | [],_,h=>h
 |_::r,_,h=>fold_sorted (r:=r) (insS_sorted h)
theorem fold_mem{x:Int}:∀{r l:List Int},x∈r.foldl insS l↔x∈l∨x∈r
 | [],l=>by simp
 |y::r,l=>by
  rw[List.foldl_cons,fold_mem,insS_mem,List.mem_cons]
  constructor
  ·rintro((h|h)|h)
   ·exact .inr (.inl h)
   ·exact .inl h
   ·exact .inr (.inr h)
  ·rintro(h|h|h)
   ·exact .inl (.inr h)
   ·exact .inl (.inl h)
   ·exact .inr h
theorem sorted_eq{l m:List Int}(hl:l.Pairwise (·<·))(hm:m.Pairwise (·<·))(h:∀x,x∈l↔x∈m):l=m:=by
 induction l generalizing m with
 |nil=>
  cases m with
  |nil=>rfl
  |cons y m=>have:=(h y).mpr Y8;cases this
 |cons x l ih=>
  cases m with
  |nil=>have:=(h x).mp Y8;cases this
  |cons y m=>
   rw[List.pairwise_cons]at hl hm
   have e1:x=y:=by
    have h1:=(h x).mp Y8
    have h2:=(h y).mpr Y8
    rcases List.mem_cons.mp h1 with h1|h1
    ·exact h1
    ·rcases List.mem_cons.mp h2 with h2|h2
     ·exact h2.symm
     ·have:=hl.1 y h2;have:=hm.1 x h1;omega
   subst e1
   rw[ih hl.2 hm.2 fun z=>?_]
   have hz:=h z
   simp only[List.mem_cons]at hz
   constructor
   ·intro h1
    have:=hl.1 z h1
    rcases hz.mp (.inr h1)with h2|h2
    ·omega
    ·exact h2
   ·intro h1
    have:=hm.1 z h1
    rcases hz.mpr (.inr h1)with h2|h2
    ·omega
    ·exact h2
theorem fold_isort{k:Nat}{r:List Nat}(hr:r.Nodup)(hk:∀j∈r,j<k){s:List Int}(hs:s.Pairwise (·≤·))(hp:s.Perm ((r++[k]).map fun(j:Nat)=>(j:Int))) :
  (r.map fun(j:Nat)=>(j:Int)).foldl insS [(k:Int)]=s:=by
 have hn:((r++[k]).map fun(j:Nat)=>(j:Int)).Nodup:=by
  refine List.Pairwise.map (R:=fun a b=>a≠b) _ (fun a b h h2=>h O) ?_
  rw[List.pairwise_append]
  exact⟨hr,by simp,fun a ha b hb=>by have:=hk a ha;have:=List.mem_singleton.mp hb;omega⟩
 have hsn:s.Nodup:=hp.nodup_iff.mpr hn
 refine sorted_eq (fold_sorted Y8) ?_ fun x=>?_
 ·exact(hs.and hsn).imp fun h=>by omega
 ·rw[fold_mem,hp.mem_iff,List.map_append,List.mem_append]
  simp only[List.map_cons,List.map_nil,List.mem_singleton]
  exact Or.comm
end
end Go.Proofs.C14
namespace Go.Proofs.C14
section
variable{e:Nat→Int×Int}
def lst(e:Nat→Int×Int)(tree:List Nat)(i:Nat):Nat→Int
 |0=>i
 |j+1=>if (way e tree ((i:Int)-j) i).isSome then(i:Int)-j else lst e tree i j
theorem lst_root{n:Nat}{tree:List Nat}{l:List Int}(hF:Fo e tree)(h:RootsOf e n tree l){i:Nat}(hi:i<n):lst e tree i (i+1)=l.getD i 0:=by
 obtain⟨h0,h1⟩:=h.le i hi
 obtain⟨r,hr⟩:∃r:Nat,l.getD i 0=r:=⟨(l.getD i 0).toNat,by omega⟩
 have hc:=h.cn i hi
 rw[hr]at hc h1 ⊢
 have key:∀d,d≤r→lst e tree i (i-r+1+d)=r:=by
  intro d
  induction d with
  |zero=>
   intro _
   rw[Nat.add_zero,lst]
   have e1:(i:Int)-((i-r:Nat):Int)=r:=by omega
   rw[e1,if_pos ((way_some hF).mpr hc)]
  |succ d ih=>
   intro hd
   rw[←Nat.add_assoc,lst,ih O,if_neg]
   intro hs
   have hk:=(way_some hF).mp hs
   obtain⟨k,hk2⟩:∃k:Nat,(i:Int)-((i-r+1+d:Nat):Int)=k:=⟨r-1-d,by omega⟩
   rw[hk2]at hk
   have:=(h.same k i O hi).mp hk
   have h2:=h.le k O
   omega
 have:=key r Z3
 rw[←this]
 congr 1
 omega
theorem root_way{n:Nat}{tree:List Nat}{l:List Int}(hF:Fo e tree)(h:RootsOf e n tree l){i:Nat}(hi:i<n):(way e tree (l.getD i 0) i).isSome:=(way_some hF).mpr (h.cn i hi)
end
end Go.Proofs.C14
namespace Go.Proofs.C14
def Tn(D:Nat)(t:Q2):Prop:=∃(d:Nat) (x y:Int),0<d∧d≤D∧x*x+y*y=(d:Int)*(d:Int)∧t.1=mkRat x d∧t.2=mkRat y d
theorem sq_le{x d:Int}{y:Int}(hd:0<d)(h:x*x+y*y=d*d):x.natAbs≤d.natAbs:=by
 have hy:0≤y*y:=by rcases Int.le_total 0 y with h0|h0;exact Int.mul_nonneg h0 h0;exact Int.mul_nonneg_of_nonpos_of_nonpos h0 h0
 have hx:x*x≤d*d:=by omega
 have e:(x.natAbs:Int)*x.natAbs=x*x:=by rw[←Int.natCast_mul,Int.natAbs_mul_self]
 apply Decidable.byContradiction
 intro hc
 have h1:d+1≤(x.natAbs:Int):=by omega
 have h2:(d+1)*(d+1)≤(x.natAbs:Int)*x.natAbs:=Int.mul_le_mul h1 h1 O O
 rw[e]at h2
 have h3:(d+1)*(d+1)=d*d+2*d+1:=by rw[Int.add_mul,Int.mul_add,Int.one_mul,Int.mul_one];omega
 omega
theorem Tn.le{D E:Nat}{t:Q2}(h:Tn D t)(hDE:D≤E):Tn E t:=by
 obtain⟨d,x,y,h1,h2,h3⟩:=h
 exact⟨d,x,y,h1,by omega,h3⟩
theorem Tn.bd{D:Nat}{t:Q2}(h:Tn D t):Bd t.1 D D∧Bd t.2 D D:=by
 obtain⟨d,x,y,h1,h2,h3,e1,e2⟩:=h
 have hd0:(0:Int)<d:=by omega
 have hx:=sq_le hd0 h3
 have hy:=sq_le (x:=y) (y:=x) hd0 (by rw[←h3];omega)
 rw[Int.natAbs_natCast]at hx hy
 rw[e1,e2]
 exact⟨(@bd_mkRat x d).le O O,(@bd_mkRat y d).le O O⟩
theorem Tn.one{D:Nat}{t:Q2}(h:Tn D t):t.1*t.1+t.2*t.2=1:=by
 obtain⟨d,x,y,h1,h2,h3,e1,e2⟩:=h
 have hdd:d*d≠0:=Nat.mul_ne_zero O O
 rw[e1,e2,Rat.mkRat_mul_mkRat,Rat.mkRat_mul_mkRat,Rat.mkRat_add_mkRat _ _ hdd hdd,←Int.add_mul,h3,←Int.natCast_mul]
 rw[Rat.mkRat_mul_right hdd]
 have:=Rat.mkRat_mul_right (n:=1) (d:=1) hdd
 rw[Int.one_mul,Nat.one_mul]at this
 rw[this]
 rfl
theorem tn_still:Tn 1 wC:=⟨1,1,0,by omega,by omega,rfl,by rw[wC];rfl,by rw[wC];rfl⟩
theorem Tn.bck{D:Nat}{t:Q2}(h:Tn D t):Tn D (bck t):=by
 obtain⟨d,x,y,h1,h2,h3,e1,e2⟩:=h
 refine⟨d,x,-y,h1,h2,by rw[Int.neg_mul_neg];exact h3,e1,?_⟩
 show -t.2=_
 rw[e2,Rat.neg_mkRat]
theorem Tn.aft{D E:Nat}{t u:Q2}(h:Tn D t)(h':Tn E u):Tn (D*E) (aft t u):=by
 obtain⟨d,x,y,h1,h2,h3,e1,e2⟩:=h
 obtain⟨e,p,q,g1,g2,g3,f1,f2⟩:=h'
 have hde:d*e≠0:=Nat.mul_ne_zero O O
 refine⟨d*e,x*p-y*q,y*p+x*q,Nat.mul_pos h1 g1,Nat.mul_le_mul h2 g2,?_,?_,?_⟩
 ·have:((d*e:Nat):Int)*((d*e:Nat):Int)=(d*d:Int)*(e*e:Int):=by rw[Int.natCast_mul];grind
  rw[this,←h3,←g3]
  grind
 ·show t.1*u.1-t.2*u.2=_
  rw[e1,e2,f1,f2,Rat.mkRat_mul_mkRat,Rat.mkRat_mul_mkRat,Rat.sub_eq_add_neg,Rat.neg_mkRat,Rat.mkRat_add_mkRat _ _ hde hde,←Int.add_mul,Rat.mkRat_mul_right hde,Int.sub_eq_add_neg]
 ·show t.2*u.1+t.1*u.2=_
  rw[e1,e2,f1,f2,Rat.mkRat_mul_mkRat,Rat.mkRat_mul_mkRat,Rat.mkRat_add_mkRat _ _ hde hde,←Int.add_mul,Rat.mkRat_mul_right hde]
theorem Tn.quarter{D:Nat}{t:Q2}(h:Tn D t):Tn D (-t.2,t.1):=by
 obtain⟨d,x,y,h1,h2,h3,e1,e2⟩:=h
 refine⟨d,-y,x,h1,h2,by rw[Int.neg_mul_neg];omega,?_,e1⟩
 show -t.2=_
 rw[e2,Rat.neg_mkRat]
theorem tn_of{D d:Nat}{x y:Int}(h1:0<d)(h2:d≤D)(h3:x*x+y*y=(d:Int)*d):Tn D (Rat.divInt x d,Rat.divInt y d):=
 ⟨d,x,y,h1,h2,h3,Rat.divInt_ofNat _ _,Rat.divInt_ofNat _ _⟩
end Go.Proofs.C14
namespace Go.Proofs.C14
theorem vA{α β:Type}{g:α→Option β}{l:List α}{i:Nat}(d:α)(hi:i<l.length)(h:l.findSome? g=(l.drop i).findSome? g)(hg:g (l.getD i d)=none):l.findSome? g=(l.drop (i+1)).findSome? g:=by
 rw[h,List.drop_eq_getElem_cons hi,List.findSome?_cons]
 have e:l.getD i d=l[i]:=by simp[List.getD_eq_getElem?_getD,List.getElem?_eq_getElem hi]
 rw[e]at hg
 rw[hg]
theorem findSome_hit{α β:Type}{g:α→Option β}{l:List α}{i:Nat}{b:β}(d:α)(hi:i<l.length)(h:l.findSome? g=(l.drop i).findSome? g)(hg:g (l.getD i d)=some b):l.findSome? g=some b:=by
 rw[h,List.drop_eq_getElem_cons hi,List.findSome?_cons]
 have e:l.getD i d=l[i]:=by simp[List.getD_eq_getElem?_getD,List.getElem?_eq_getElem hi]
 rw[e]at hg
 rw[hg]
theorem findSome_end{α β:Type}{g:α→Option β}{l:List α}{i:Nat}(hi:l.length≤i)(h:l.findSome? g=(l.drop i).findSome? g):l.findSome? g=none:=by
 rw[h,List.drop_eq_nil_of_le hi]
 rfl
theorem findSome_filter{α β:Type}{g:α→Option β}{p:α→Bool}:∀{l:List α},(∀a∈l,p a=false→g a=none)→(l.filter p).findSome? g=l.findSome? g
 | [],_=>rfl
 |a::l,h=>by
  have ih:=findSome_filter (g:=g) (p:=p) (l:=l) fun b hb=>h b (by simp[hb])
  rw[List.filter_cons,List.findSome?_cons]
  cases hp:p a with
  |true=>rw[if_pos rfl,List.findSome?_cons,ih]
  |false=>
   rw[if_neg Y8,ih,h a Y8 hp]
section
variable{e:Nat→Int×Int}
theorem trees_pre{n:Nat}:∀{m:Nat},n≤m→∃r,qj e m=qj e n++r:=by
 intro m h
 induction h with
 |refl=>exact⟨[],by simp⟩
 |step _ ih=>
  obtain⟨r,hr⟩:=ih
  rw[qj]
  split
  ·exact⟨r,hr⟩
  ·exact⟨r++_,by rw[hr,List.append_assoc]⟩
theorem trees_le{n m:Nat}(h:n≤m):(qj e n).length≤(qj e m).length:=by
 obtain⟨r,hr⟩:=trees_pre (e:=e) h
 rw[hr,List.length_append]
 omega
theorem trees_same{n:Nat}:∀{m:Nat},n≤m→(∀k,n≤k→k<m→∃j,j<n∧e k=e j)→qj e m=qj e n:=by
 intro m h
 induction h with
 |refl=>intro _;rfl
 | @step m hm ih=>
  intro hk
  have ih:=ih fun k h1 h2=>hk k h1 O
  rw[qj,if_pos]
  ·exact ih
  ·obtain⟨j,hj,he⟩:=hk m hm O
   rw[he]
   exact(way_some (kr m)).mpr (trees_cn (n:=m) (k:=j) (by have:=hm;have:n≤m:=hm;omega))
theorem trees_congr{e':Nat→Int×Int}:∀{n:Nat},(∀k,k<n→e k=e' k)→qj e n=qj e' n∧∀v w,way e (qj e n) v w=way e' (qj e' n) v w:=by
 have hd:∀{tree:List Nat},(∀k∈tree,e k=e' k)→∀f v w l,dfs e tree f v w l=dfs e' tree f v w l:=by
  intro tree ht f
  induction f with
  |zero=>intros;rfl
  |succ f ih=>
   intro v w l
   rw[dfs,dfs]
   split
   ·rfl
   ·refine findSome_congr fun k hk=>?_
    have:=ht k hk
    have hi:Inc e k v↔Inc e' k v:=by unfold Inc;rw[this]
    have ho:oth e k v=oth e' k v:=by unfold oth;rw[this]
    by_cases hc:(k:Int)=l∨¬Inc e k v
    ·rw[if_pos hc,if_pos (hc.imp_right fun h h2=>h (hi.mpr h2))]
    ·rw[if_neg hc,if_neg (fun h=>hc (h.imp_right fun h h2=>h (hi.mp h2))),ih,ho]
 have hw:∀{tree:List Nat},(∀k∈tree,e k=e' k)→∀v w,way e tree v w=way e' tree v w:=fun ht v w=>hd ht _ _ _ _
 have ht:∀{n:Nat},(∀k,k<n→e k=e' k)→qj e n=qj e' n:=by
  intro n
  induction n with
  |zero=>intro _;rfl
  |succ n ih=>
   intro h
   have ih:=ih fun k hk=>h k O
   rw[qj,qj,←ih,←h n O,hw fun k hk=>h k (by have:=vC n k hk;omega)]
 intro n h
 refine⟨ht h,fun v w=>?_⟩
 rw[←ht h]
 exact hw (fun k hk=>h k (vC n k hk)) v w
end
def cost(c:Nat):Nat→Nat
 |0=>0
 |f+1=>6*(c+cost c f)+c
theorem cost_le(c:Nat):∀f,cost c f≤cost c (f+1)
 |0=>by simp[cost]
 |f+1=>by have:=cost_le c f;rw[cost,cost];omega
theorem cost_mono(c:Nat){f g:Nat}(h:f≤g):cost c f≤cost c g:=by
 induction h with
 |refl=>exact Nat.le_refl _
 |step _ ih=>exact Nat.le_trans ih (cost_le c _)
theorem cost7(c:Nat):cost c 7=391909*c:=by simp only[cost];omega
section
variable{e:Nat→Int×Int}{T:Nat→Q2}
end
end Go.Proofs.C14
