/- The abstract machine's runs of the model's small programs stand for the model's own. -/
import Derived.Test.YtocnbjjmmgolfaaGreatA02
import Derived.Laws.Sem
set_option linter.unusedSimpArgs false
set_option linter.unusedVariables false
set_option linter.unusedSectionVars false
namespace Go.M
theorem St.get_put{s:St}{b:Nat}(h:b+1<281474976710656)(o:Option MObj)(b':Nat):(s.put b o).get b'=if b'=b then o else s.get b':=by
 have:(281474976710656:Nat)=2 ^ depth:=by decide
 simp only[St.get,St.put]
 exact Tr.get_put depth s.heap b b' o (by rw[←this];exact h)
theorem St.get_new{s:St}(h:s.next+1<281474976710656)(o:MObj)(b':Nat):(s.new o).get b'=if b'=s.next then some o else s.get b':=by
 have:(281474976710656:Nat)=2 ^ depth:=by decide
 simp only[St.get,St.new]
 exact Tr.get_put depth s.heap s.next b' (some o) (by rw[←this];exact h)
@[simp] theorem St.put_next {s:St} {b:Nat} {o:Option MObj}:(s.put b o).next=s.next:=rfl
@[simp] theorem St.put_bar {s:St} {b:Nat} {o:Option MObj}:(s.put b o).bar=s.bar:=rfl
@[simp] theorem St.put_prot {s:St} {b:Nat} {o:Option MObj}:(s.put b o).prot=s.prot:=rfl
@[simp] theorem St.new_next {s:St} {o:MObj}:(s.new o).next=s.next+1:=rfl
@[simp] theorem St.new_bar {s:St} {o:MObj}:(s.new o).bar=s.bar:=rfl
@[simp] theorem St.new_prot {s:St} {o:MObj}:(s.new o).prot=s.prot:=rfl
section
variable{P:Program}{β:Ren}{s:St}{w:World}
theorem Rel.lt(h:Rel P β s w){b:Nat}{o:MObj}(hg:s.get b=some o):b<s.next:=
 eD fun hc=>by rw[h.top b O]at hg;cases hg
theorem Rel.wr(h:Rel P β s w){b:Nat}{m:Img}(hb:β b=some m)(c:b<s.next)(a:s.may b=true)(d:m.ro=true):False:=by
 have h1:=h.ro b m hb c d
 unfold St.may at a
 rw[aG]at a
 have:=aR a.1
 omega
theorem Ext.write(h:Rel P β s w){b:Nat}{m:Img}(hb:β b=some m)(f:s.may b=true){o:MObj}(hg:s.get b=some o)(o₁:MObj){w':World}
 (j:w'.heap.size=w.heap.size) (g:∀r,r≠m.blk→w'.heap[r]? = w.heap[r]?) (q:∃o',w'.heap[m.blk]? = some o'∧ORel P β m o₁ o')
 (z:w'.os=w.os) (t:w'.output=w.output) (k:w'.tape=w.tape):Ext P β s w β (s.put b (some o₁)) w':=by
 have i:=h.lt hg
 have hroom:=h.room
 have p:=fun b'=>St.get_put (s:=s) (b:=b) O (some o₁) b'
 have live:∀b' o',(s.put b (some o₁)).get b'=some o'→∃n,s.get b'=some n:=fun b' o' x=>by
  rw[p]at x
  split at x
  ·rename_i e;subst e;exact⟨o,hg⟩
  ·exact⟨o',x⟩
 exact{
  rel:={
   img:=fun b' l a c=>by rw[j];exact h.img b' l a c
   obj:=fun b' l o' a c d=>by
    rw[p]at d
    split at d
    ·rename_i e;subst e
     rw[hb]at a;cases a;cases d
     exact q
    ·rename_i ne
     obtain⟨n,h1,h2⟩:=h.obj b' l o' a c d
     refine⟨n,?_,h2⟩
     rw[g l.blk (fun e=>(h.inj b' b l m o' o a hb c i d hg e).elim ne fun B=>h.wr hb i f B.2)]
     exact h1
   inj:=fun C D m1 m2 o1 o2 h1 h2 E l2 g1 g2 e=>by
    obtain⟨_,u⟩:=live _ _ g1
    obtain⟨_,v⟩:=live _ _ g2
    exact h.inj C D m1 m2 _ _ h1 h2 E l2 u v e
   ro:=h.ro
   room:=h.room
   top:=fun b' a=>by rw[p,aD (by simp at a;omega)];exact h.top b' a}
  le:=Ren.le_refl β
  dom:=fun b' l h1 h2=>by rw[h2]at h1;cases h1
  next:=aO _
  bar:=rfl
  prot:=rfl
  size:=by omega
  out:=fun r B y=>g r (fun e=>y b m o hb i f hg e.symm)
  same:=fun b' a A=>by rw[p,aD (fun e=>by rw[e,f]at A;cases A)]
  dead:=fun b' a hd=>by rw[p,aD (fun e=>by rw[e,hg]at hd;cases hd)];exact hd
  fresh:=fun b' l h1 h2=>by rw[h2]at h1;cases h1
  os:=z
  output:=t
  tape:=k}
def Ren.add(β:Ren)(b:Nat)(m:Img):Ren:=fun x=>if x=b then some m else β x
theorem Ren.le_add{β:Ren}{b:Nat}{m:Img}(h:β b=none):β.le (β.add b m):=fun x n hx=>by
 unfold Ren.add
 split
 ·rename_i e;subst e;rw[h]at hx;cases hx
 ·exact hx
theorem Ren.add_self{β:Ren}{b:Nat}{m:Img}:β.add b m b=some m:=by simp[Ren.add]
theorem Ext.new(h:Rel P β s w)(hroom:s.next<281474976710655)(hn:β s.next=none){o₁:MObj}{o':Obj}{m:Img}(u:m.blk=w.heap.size)(ho:ORel P β m o₁ o')(p:m.ro=false:=by rfl) :
 Ext P β s w (β.add s.next m) (s.new o₁) {w with heap:=w.heap.push o'}:=by
 have i:=fun b'=>St.get_new (s:=s) O o₁ b'
 have d:β.le (β.add s.next m):=Ren.le_add hn
 have at_:∀b a,β.add s.next m b=some a→b≠s.next→β b=some a:=fun b a t ne=>by
  simpa[Ren.add,ne]using t
 exact{
  rel:={
   img:=fun b a hb f=>by
    simp only[Array.size_push]
    by_cases e:b=s.next
    ·subst e;rw[Ren.add_self]at hb;cases hb;omega
    ·have:=h.img b a (at_ b a hb e) (by simp at f;omega);omega
   obj:=fun b a o hb f hg=>by
    rw[i]at hg
    by_cases e:b=s.next
    ·subst e
     rw[aF rfl]at hg;cases hg
     rw[Ren.add_self]at hb;cases hb
     exact⟨o',by simp[u],ho.mono d⟩
    ·rw[aD e]at hg
     have j:=at_ b a hb e
     have c:b<s.next:=by simp at f;omega
     obtain⟨q,h1,h2⟩:=h.obj b a o j c hg
     have:=h.img b a j c
     exact⟨q,by simp only[Array.getElem?_push];rw[aD O];exact h1,h2.mono d⟩
   inj:=fun k g m1 m2 v x h1 h2 n l2 g1 g2 e=>by
    rw[i]at g1 g2
    by_cases e1:k=s.next
    ·by_cases e2:g=s.next
     ·exact .inl O
     ·subst e1;rw[Ren.add_self]at h1;cases h1
      have:=h.img g m2 (at_ g m2 h2 e2) (by simp at l2;omega)
      omega
    ·by_cases e2:g=s.next
     ·subst e2;rw[Ren.add_self]at h2;cases h2
      have:=h.img k m1 (at_ k m1 h1 e1) (by simp at n;omega)
      omega
     ·rw[aD e1]at g1;rw[aD e2]at g2
      exact h.inj k g m1 m2 v x (at_ _ _ h1 e1) (at_ _ _ h2 e2) (by simp at n;omega) (by simp at l2;omega) g1 g2 e
   ro:=fun b a h1 n l=>by
    by_cases e1:b=s.next
    ·subst e1;rw[Ren.add_self]at h1;cases h1;rw[p]at l;cases l
    ·exact h.ro b a (at_ _ _ h1 e1) (by simp at n;omega) l
   room:=by simp;omega
   top:=fun b hb=>by simp at hb;rw[i,aD O];exact h.top b O}
  le:=d
  dom:=fun b a h1 h2=>by
   by_cases e:b=s.next
   ·subst e;simp
   ·rw[at_ b a h1 e]at h2;cases h2
  next:=by simp
  bar:=rfl
  prot:=rfl
  size:=by simp
  out:=fun r l _=>by simp only[Array.getElem?_push];rw[aD O]
  same:=fun b hb _=>by rw[i,aD O]
  dead:=fun b hb hd=>by rw[i,aD O];exact hd
  fresh:=fun b a h1 h2=>by
   by_cases e:b=s.next
   ·subst e;rw[Ren.add_self]at h1;cases h1;exact .inl O
   ·rw[at_ b a h1 e]at h2;cases h2
  os:=rfl
  output:=rfl
  tape:=rfl}
end
section
variable{P:Program}{β:Ren}{α α' γ γ':Type}
end
end Go.M
