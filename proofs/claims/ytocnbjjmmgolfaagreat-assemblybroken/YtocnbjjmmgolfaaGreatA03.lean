/- The abstract machine's runs of the model's small programs stand for the model's own. -/
import Derived.Test.YtocnbjjmmgolfaaGreatA02
import Derived.Laws.Sem
set_option linter.unusedSimpArgs false
set_option linter.unusedVariables false
set_option linter.unusedSectionVars false
namespace Go.M
theorem St.get_put{s:St}{b:Nat}(h:b+1<281474976710656)(o:Option ak)(b':Nat):(s.put b o).get b'=if b'=b then o else s.get b':=by
 have:(281474976710656:Nat)=2 ^ depth:=by decide
 simp only[St.get,St.put]
 exact Tr.get_put depth s.heap b b' o (by rw[<-this];exact h)
theorem St.get_new{s:St}(h:s.next+1<281474976710656)(o:ak)(b':Nat):(s.new o).get b'=if b'=s.next then some o else s.get b':=by
 have:(281474976710656:Nat)=2 ^ depth:=by decide
 simp only[St.get,St.new]
 exact Tr.get_put depth s.heap s.next b' (some o) (by rw[<-this];exact h)
@[simp] theorem St.put_next {s:St} {b:Nat} {o:Option ak}:(s.put b o).next=s.next:=rfl
@[simp] theorem St.put_bar {s:St} {b:Nat} {o:Option ak}:(s.put b o).bar=s.bar:=rfl
@[simp] theorem St.put_prot {s:St} {b:Nat} {o:Option ak}:(s.put b o).prot=s.prot:=rfl
@[simp] theorem St.new_next {s:St} {o:ak}:(s.new o).next=s.next+1:=rfl
@[simp] theorem St.new_bar {s:St} {o:ak}:(s.new o).bar=s.bar:=rfl
@[simp] theorem St.new_prot {s:St} {o:ak}:(s.new o).prot=s.prot:=rfl
section
variable{P:Program}{β:aS}{s:St}{w:World}
theorem bh.lt(h:bh P β s w){b:Nat}{o:ak}(hg:s.get b=some o):b<s.next:=
 eB λhc=>by rw[h.top b O]at hg;cases hg
theorem bh.wr(h:bh P β s w){b:Nat}{m:dm}(hb:β b=some m)(c:b<s.next)(a:s.may b=true)(d:m.ro=true):False:=by
 have h1:=h.ro b m hb c d
 unfold St.may at a
 rw[aF]at a
 have:=aR a.1
 omega
theorem bp.write(h:bh P β s w){b:Nat}{m:dm}(hb:β b=some m)(g:s.may b=true){o:ak}(hg:s.get b=some o)(d:ak){w':World}
 (k:w'.heap.size=w.heap.size) (i:∀r,r≠m.blk->w'.heap[r]? = w.heap[r]?) (t:∃o',w'.heap[m.blk]? = some o'/\eT P β m d o')
 (A:w'.os=w.os) (u:w'.output=w.output) (l:w'.tape=w.tape):bp P β s w β (s.put b (some d)) w':=by
 have j:=h.lt hg
 have hroom:=h.room
 have q:=λb'=>St.get_put (s:=s) (b:=b) O (some d) b'
 have live:∀b' o',(s.put b (some d)).get b'=some o'->∃p,s.get b'=some p:=λb' o' y=>by
  rw[q]at y
  split at y
  .rename_i e;subst e;exact⟨o,hg⟩
  .exact⟨o',y⟩
 exact{
  rel:={
   img:=λb' n a c=>by rw[k];exact h.img b' n a c
   obj:=λb' n o' a c f=>by
    rw[q]at f
    split at f
    .rename_i e;subst e
     rw[hb]at a;cases a;cases f
     exact t
    .rename_i ne
     obtain⟨p,h1,h2⟩:=h.obj b' n o' a c f
     refine⟨p,?_,h2⟩
     rw[i n.blk (λe=>(h.inj b' b n m o' o a hb c j f hg e).elim ne λB=>h.wr hb j g B.2)]
     exact h1
   inj:=λC D m1 m2 o1 o2 h1 h2 E F g1 g2 e=>by
    obtain⟨_,v⟩:=live _ _ g1
    obtain⟨_,x⟩:=live _ _ g2
    exact h.inj C D m1 m2 _ _ h1 h2 E F v x e
   ro:=h.ro
   room:=h.room
   top:=λb' a=>by rw[q,aD (by simp at a;omega)];exact h.top b' a}
  le:=aS.le_refl β
  dom:=λb' n h1 h2=>by rw[h2]at h1;cases h1
  next:=aN _
  bar:=rfl
  prot:=rfl
  size:=by omega
  out:=λr B z=>i r (λe=>z b m o hb j g hg e.symm)
  same:=λb' a hm=>by rw[q,aD (λe=>by rw[e,g]at hm;cases hm)]
  dead:=λb' a hd=>by rw[q,aD (λe=>by rw[e,hg]at hd;cases hd)];exact hd
  fresh:=λb' n h1 h2=>by rw[h2]at h1;cases h1
  os:=A
  output:=u
  tape:=l}
def aS.add(β:aS)(b:Nat)(m:dm):aS:=λx=>if x=b then some m else β x
theorem aS.le_add{β:aS}{b:Nat}{m:dm}(h:β b=none):β.le (β.add b m):=λx n hx=>by
 unfold aS.add
 split
 .rename_i e;subst e;rw[h]at hx;cases hx
 .exact hx
theorem aS.add_self{β:aS}{b:Nat}{m:dm}:β.add b m b=some m:=by simp[aS.add]
theorem bp.new(h:bh P β s w)(hroom:s.next<281474976710655)(hn:β s.next=none){c:ak}{o':Obj}{m:dm}(hm:m.blk=w.heap.size)(ho:eT P β m c o')(p:m.ro=false:=by rfl) :
 bp P β s w (β.add s.next m) (s.new c) {w with heap:=w.heap.push o'}:=by
 have i:=λb'=>St.get_new (s:=s) O c b'
 have hle:β.le (β.add s.next m):=aS.le_add hn
 have at_:∀b a,β.add s.next m b=some a->b≠s.next->β b=some a:=λb a u ne=>by
  simpa[aS.add,ne]using u
 exact{
  rel:={
   img:=λb a hb f=>by
    simp only[Array.size_push]
    by_cases e:b=s.next
    .subst e;rw[aS.add_self]at hb;cases hb;omega
    .have:=h.img b a (at_ b a hb e) (by simp at f;omega);omega
   obj:=λb a o hb f hg=>by
    rw[i]at hg
    by_cases e:b=s.next
    .subst e
     rw[aG rfl]at hg;cases hg
     rw[aS.add_self]at hb;cases hb
     exact⟨o',by simp[hm],ho.mono hle⟩
    .rw[aD e]at hg
     have j:=at_ b a hb e
     have d:b<s.next:=by simp at f;omega
     obtain⟨q,h1,h2⟩:=h.obj b a o j d hg
     have:=h.img b a j d
     exact⟨q,by simp only[Array.getElem?_push];rw[aD O];exact h1,h2.mono hle⟩
   inj:=λk g m1 m2 v x h1 h2 n t g1 g2 e=>by
    rw[i]at g1 g2
    by_cases e1:k=s.next
    .by_cases e2:g=s.next
     .exact .inl O
     .subst e1;rw[aS.add_self]at h1;cases h1
      have:=h.img g m2 (at_ g m2 h2 e2) (by simp at t;omega)
      omega
    .by_cases e2:g=s.next
     .subst e2;rw[aS.add_self]at h2;cases h2
      have:=h.img k m1 (at_ k m1 h1 e1) (by simp at n;omega)
      omega
     .rw[aD e1]at g1;rw[aD e2]at g2
      exact h.inj k g m1 m2 v x (at_ _ _ h1 e1) (at_ _ _ h2 e2) (by simp at n;omega) (by simp at t;omega) g1 g2 e
   ro:=λb a h1 n l=>by
    by_cases e1:b=s.next
    .subst e1;rw[aS.add_self]at h1;cases h1;rw[p]at l;cases l
    .exact h.ro b a (at_ _ _ h1 e1) (by simp at n;omega) l
   room:=by simp;omega
   top:=λb hb=>by simp at hb;rw[i,aD O];exact h.top b O}
  le:=hle
  dom:=λb a h1 h2=>by
   by_cases e:b=s.next
   .subst e;simp
   .rw[at_ b a h1 e]at h2;cases h2
  next:=by simp
  bar:=rfl
  prot:=rfl
  size:=by simp
  out:=λr l _=>by simp only[Array.getElem?_push];rw[aD O]
  same:=λb hb _=>by rw[i,aD O]
  dead:=λb hb hd=>by rw[i,aD O];exact hd
  fresh:=λb a h1 h2=>by
   by_cases e:b=s.next
   .subst e;rw[aS.add_self]at h1;cases h1;exact .inl O
   .rw[at_ b a h1 e]at h2;cases h2
  os:=rfl
  output:=rfl
  tape:=rfl}
end
end Go.M
