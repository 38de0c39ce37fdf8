/- The abstract machine's runs of the model's small programs stand for the model's own. -/
import Derived.Test.YtocnbjjmmgolfaaGreatA02
import Derived.Laws.Sem
namespace Go.M
theorem St.get_put{s:St}{b:Nat}(h:b+1<281474976710656)(o:Option MObj)(b':Nat):(s.put b o).get b'=if b'=b then o else s.get b':=by
 have:(281474976710656:Nat)=2 ^ depth:=by decide
 simp only[St.get,St.put]
 exact Tr.get_put depth s.heap b b' o (by rw[←this];exact h)
theorem St.get_new{s:St}(h:s.next+1<281474976710656)(o:MObj)(b':Nat):(s.new o).get b'=if b'=s.next then some o else s.get b':=by
 have:(281474976710656:Nat)=2 ^ depth:=by decide
 simp only[St.get,St.new]
 exact Tr.get_put depth s.heap s.next b' (some o) (by rw[←this];exact h)
@[simp] theorem St.put_next {s:St} {b:Nat} {o:Option MObj}:(s.put b o).next=s.next:=rfl
@[simp] theorem St.put_bar {s:St} {b:Nat} {o:Option MObj}:(s.put b o).bar=s.bar:=rfl
@[simp] theorem St.put_prot {s:St} {b:Nat} {o:Option MObj}:(s.put b o).prot=s.prot:=rfl
@[simp] theorem St.new_next {s:St} {o:MObj}:(s.new o).next=s.next+1:=rfl
@[simp] theorem St.new_bar {s:St} {o:MObj}:(s.new o).bar=s.bar:=rfl
@[simp] theorem St.new_prot {s:St} {o:MObj}:(s.new o).prot=s.prot:=rfl
section
variable{P:Program}{β:Ren}{s:St}{w:World}
theorem Rel.lt(h:Rel P β s w){b:Nat}{o:MObj}(hg:s.get b=some o):b<s.next:=
 Classical.byContradiction fun hc=>by rw[h.top b O]at hg;cases hg
theorem Rel.wr(h:Rel P β s w){b:Nat}{m:Img}(hb:β b=some m)(hlt:b<s.next)(hmay:s.may b=true)(hr:m.ro=true):False:=by
 have h1:=h.ro b m hb hlt hr
 unfold St.may at hmay
 rw[Bool.and_eq_true]at hmay
 have:=Nat.le_of_ble_eq_true hmay.1
 omega
theorem Ext.write(h:Rel P β s w){b:Nat}{m:Img}(hb:β b=some m)(hmay:s.may b=true){o:MObj}(hg:s.get b=some o)(o₁:MObj){w':World}
  (hsize:w'.heap.size=w.heap.size) (hsame:∀r,r≠m.blk→w'.heap[r]? = w.heap[r]?) (hnew:∃o',w'.heap[m.blk]? = some o'∧ORel P β m o₁ o')
  (hos:w'.os=w.os) (hout:w'.output=w.output) (htape:w'.tape=w.tape):Ext P β s w β (s.put b (some o₁)) w':=by
 have hlt:=h.lt hg
 have hroom:=h.room
 have gp:=fun b'=>St.get_put (s:=s) (b:=b) O (some o₁) b'
 have live:∀b' o',(s.put b (some o₁)).get b'=some o'→∃o'',s.get b'=some o'':=fun b' o' hh=>by
  rw[gp]at hh
  split at hh
  ·rename_i e;subst e;exact⟨o,hg⟩
  ·exact⟨o',hh⟩
 exact{
  rel:={
   img:=fun b' m' hb' hlt'=>by rw[hsize];exact h.img b' m' hb' hlt'
   obj:=fun b' m' o' hb' hlt' hg'=>by
    rw[gp]at hg'
    split at hg'
    ·rename_i e;subst e
     rw[hb]at hb';cases hb';cases hg'
     exact hnew
    ·rename_i ne
     obtain⟨o'',h1,h2⟩:=h.obj b' m' o' hb' hlt' hg'
     refine⟨o'',?_,h2⟩
     rw[hsame m'.blk (fun e=>(h.inj b' b m' m o' o hb' hb hlt' hlt hg' hg e).elim ne fun hr=>h.wr hb hlt hmay hr.2)]
     exact h1
   inj:=fun b1 b2 m1 m2 o1 o2 h1 h2 l1 l2 g1 g2 e=>by
    obtain⟨_,g1'⟩:=live _ _ g1
    obtain⟨_,g2'⟩:=live _ _ g2
    exact h.inj b1 b2 m1 m2 _ _ h1 h2 l1 l2 g1' g2' e
   ro:=h.ro
   room:=h.room
   top:=fun b' hb'=>by rw[gp,if_neg (by simp at hb';omega)];exact h.top b' hb'}
  le:=Ren.le_refl β
  dom:=fun b' m' h1 h2=>by rw[h2]at h1;cases h1
  next:=Nat.le_refl _
  bar:=rfl
  prot:=rfl
  size:=by omega
  out:=fun r hr hno=>hsame r (fun e=>hno b m o hb hlt hmay hg e.symm)
  same:=fun b' hb' hm=>by rw[gp,if_neg (fun e=>by rw[e,hmay]at hm;cases hm)]
  dead:=fun b' hb' hd=>by rw[gp,if_neg (fun e=>by rw[e,hg]at hd;cases hd)];exact hd
  fresh:=fun b' m' h1 h2=>by rw[h2]at h1;cases h1
  os:=hos
  output:=hout
  tape:=htape}
def Ren.add(β:Ren)(b:Nat)(m:Img):Ren:=fun x=>if x=b then some m else β x
theorem Ren.le_add{β:Ren}{b:Nat}{m:Img}(h:β b=none):β.le (β.add b m):=fun x n hx=>by
 unfold Ren.add
 split
 ·rename_i e;subst e;rw[h]at hx;cases hx
 ·exact hx
theorem Ren.add_self{β:Ren}{b:Nat}{m:Img}:β.add b m b=some m:=by simp[Ren.add]
theorem Ext.new(h:Rel P β s w)(hroom:s.next<281474976710655)(hn:β s.next=none){o₁:MObj}{o':Obj}{m:Img}(hm:m.blk=w.heap.size)(ho:ORel P β m o₁ o')(hro:m.ro=false:=by rfl) :
  Ext P β s w (β.add s.next m) (s.new o₁) {w with heap:=w.heap.push o'}:=by
 have gp:=fun b'=>St.get_new (s:=s) O o₁ b'
 have hle:β.le (β.add s.next m):=Ren.le_add hn
 have at_:∀b m',β.add s.next m b=some m'→b≠s.next→β b=some m':=fun b m' hh ne=>by
  simpa[Ren.add,ne]using hh
 exact{
  rel:={
   img:=fun b m' hb hlt=>by
    simp only[Array.size_push]
    by_cases e:b=s.next
    ·subst e;rw[Ren.add_self]at hb;cases hb;omega
    ·have:=h.img b m' (at_ b m' hb e) (by simp at hlt;omega);omega
   obj:=fun b m' o hb hlt hg=>by
    rw[gp]at hg
    by_cases e:b=s.next
    ·subst e
     rw[if_pos rfl]at hg;cases hg
     rw[Ren.add_self]at hb;cases hb
     exact⟨o',by simp[hm],ho.mono hle⟩
    ·rw[if_neg e]at hg
     have hb':=at_ b m' hb e
     have hlt':b<s.next:=by simp at hlt;omega
     obtain⟨o'',h1,h2⟩:=h.obj b m' o hb' hlt' hg
     have:=h.img b m' hb' hlt'
     exact⟨o'',by simp only[Array.getElem?_push];rw[if_neg O];exact h1,h2.mono hle⟩
   inj:=fun b1 b2 m1 m2 o1 o2 h1 h2 l1 l2 g1 g2 e=>by
    rw[gp]at g1 g2
    by_cases e1:b1=s.next
    ·by_cases e2:b2=s.next
     ·exact .inl O
     ·subst e1;rw[Ren.add_self]at h1;cases h1
      have:=h.img b2 m2 (at_ b2 m2 h2 e2) (by simp at l2;omega)
      omega
    ·by_cases e2:b2=s.next
     ·subst e2;rw[Ren.add_self]at h2;cases h2
      have:=h.img b1 m1 (at_ b1 m1 h1 e1) (by simp at l1;omega)
      omega
     ·rw[if_neg e1]at g1;rw[if_neg e2]at g2
      exact h.inj b1 b2 m1 m2 o1 o2 (at_ _ _ h1 e1) (at_ _ _ h2 e2) (by simp at l1;omega) (by simp at l2;omega) g1 g2 e
   ro:=fun b m' h1 l1 hr=>by
    by_cases e1:b=s.next
    ·subst e1;rw[Ren.add_self]at h1;cases h1;rw[hro]at hr;cases hr
    ·exact h.ro b m' (at_ _ _ h1 e1) (by simp at l1;omega) hr
   room:=by simp;omega
   top:=fun b hb=>by simp at hb;rw[gp,if_neg O];exact h.top b O}
  le:=hle
  dom:=fun b m' h1 h2=>by
   by_cases e:b=s.next
   ·subst e;simp
   ·rw[at_ b m' h1 e]at h2;cases h2
  next:=by simp
  bar:=rfl
  prot:=rfl
  size:=by simp
  out:=fun r hr _=>by simp only[Array.getElem?_push];rw[if_neg O]
  same:=fun b hb _=>by rw[gp,if_neg O]
  dead:=fun b hb hd=>by rw[gp,if_neg O];exact hd
  fresh:=fun b m' h1 h2=>by
   by_cases e:b=s.next
   ·subst e;rw[Ren.add_self]at h1;cases h1;exact .inl O
   ·rw[at_ b m' h1 e]at h2;cases h2
  os:=rfl
  output:=rfl
  tape:=rfl}
end
section
variable{P:Program}{β:Ren}{α α' γ γ':Type}
end
end Go.M
