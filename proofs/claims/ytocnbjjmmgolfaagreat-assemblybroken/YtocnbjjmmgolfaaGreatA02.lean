/- What the abstract machine's states and values have to do with the model's. -/
import Derived.Test.YtocnbjjmmgolfaaGreatA01
import Derived.Eval
set_option linter.unusedSimpArgs false
set_option linter.unusedVariables false
set_option linter.unusedSectionVars false
namespace Go.M
namespace Tr
variable{α:Type}
theorem get_put:∀(d:Nat) (t:Tr α) (n m:Nat) (x:Option α),n+1<2 ^ d ->
 (t.put d n x).get m=if m=n then x else t.get m:=by
 intro d
 induction d with
 |zero=>intro t n m x h;simp at h
 |succ d b=>
  intro t n m x h
  cases t with
  |nil=>
   cases n with
   |zero=>cases m with
    |zero=>simp[put,get]
    |succ m=>simp only[put,get];split<;>simp
   |succ k=>
    have hk:k / 2+1<2 ^ d:=by rw[Nat.pow_succ]at h;omega
    cases hp:k % 2 with
    |zero=>
     cases m with
     |zero=>simp[put,get,hp]
     |succ m=>
      cases a:m % 2 with
      |zero=>simp only[put,get,hp,a,b _ _ _ _ hk,dS];congr 1;apply propext;constructor<;>intro<;>omega
      |succ q=>simp only[put,get,hp,a,dS];rw[aD];omega
    |succ p=>
     cases m with
     |zero=>simp[put,get,hp]
     |succ m=>
      cases a:m % 2 with
      |zero=>simp only[put,get,hp,a,dS];rw[aD];omega
      |succ q=>simp only[put,get,hp,a,b _ _ _ _ hk,dS];congr 1;apply propext;constructor<;>intro<;>omega
  |node v l r=>
   cases n with
   |zero=>cases m with
    |zero=>simp[put,get]
    |succ m=>simp[put,get]
   |succ k=>
    have hk:k / 2+1<2 ^ d:=by rw[Nat.pow_succ]at h;omega
    cases hp:k % 2 with
    |zero=>
     cases m with
     |zero=>simp[put,get,hp]
     |succ m=>
      cases a:m % 2 with
      |zero=>simp only[put,get,hp,a,b _ _ _ _ hk,dS];congr 1;apply propext;constructor<;>intro<;>omega
      |succ q=>simp only[put,get,hp,a,dS];rw[aD];omega
    |succ p=>
     cases m with
     |zero=>simp[put,get,hp]
     |succ m=>
      cases a:m % 2 with
      |zero=>simp only[put,get,hp,a,dS];rw[aD];omega
      |succ q=>simp only[put,get,hp,a,b _ _ _ _ hk,dS];congr 1;apply propext;constructor<;>intro<;>omega
end Tr
section
variable{α:Type}
theorem zN(l:List α):∀n,zH l n=l[n]? :=by
 induction l with
 |nil=>intro n;simp[zH]
 |cons x l a=>intro n;cases n<;>simp[zH,a]
theorem y7:∀(n:Nat) (l:List α),y8 n l=if n<=l.length then some (l.take n)else none:=by
 intro n
 induction n with
 |zero=>intro l;simp[y8]
 |succ n a=>
  intro l
  cases l with
  |nil=>simp[y8]
  |cons x l=>simp only[y8,a,aU,Nat.add_le_add_iff_right,List.take_succ_cons];split<;>simp_all
theorem yR:∀(n:Nat) (l:List α),xr n l=l.drop n:=by
 intro n
 induction n with
 |zero=>intro l;simp[xr]
 |succ n a=>intro l;cases l<;>simp[xr,a]
theorem yf(l:List α):∀n,yD l n=l.length+n:=by
 induction l with
 |nil=>intro n;simp[yD]
 |cons x l a=>intro n;simp[yD,a];omega
theorem zeW:∀(vs l r:List α),xI vs l=some r->vs.length<=l.length/\r=vs++l.drop vs.length:=by
 intro vs
 induction vs with
 |nil=>intro l r h;simp[xI]at h;simp[h]
 |cons v vs a=>
  intro l r h
  cases l with
  |nil=>simp[xI]at h
  |cons x l=>
   simp only[xI]at h
   cases ho:xI vs l with
   |none=>simp[ho]at h
   |some q=>simp only[ho,bH]at h;obtain⟨h1,h2⟩:=a l q ho;subst h;subst h2;simp[h1]
theorem Je:∀(n:Nat) (vs l r:List α),yK n vs l=some r->n+vs.length<=l.length/\r=l.take n++vs++l.drop (n+vs.length):=by
 intro n
 induction n with
 |zero=>intro vs l r h;obtain⟨h1,h2⟩:=zeW vs l r h;simp[h1,h2]
 |succ n a=>
  intro vs l r h
  cases l with
  |nil=>simp[yK]at h
  |cons x l=>
   simp only[yK]at h
   cases ho:yK n vs l with
   |none=>simp[ho]at h
   |some q=>
    simp only[ho,bH]at h
    obtain⟨h1,h2⟩:=a vs l q ho
    subst h;subst h2
    constructor
    .simp;omega
    .have e:n+1+vs.length=(n+vs.length)+1:=by omega
     simp[e,eX]
end
structure dm where
 blk:Nat
 sh:Nat
 size:Nat
 elem:TypeId
 ro:Bool
abbrev aS:=Nat->Option dm
def aS.le(β β':aS):Prop:=∀b m,β b=some m->β' b=some m
theorem aS.le_refl(β:aS):β.le β:=λ_ _ h=>h
theorem aS.le_trans{β β' β'':aS}(h:β.le β')(a:β'.le β''):β.le β'':=λb m e=>a b m (h b m e)
def oZ:Fn->List Value->Bool
 | .yield _,_=>false
 |fn,[.pointer (some a)]=> !Rl fn||(Nat.beq a.off 0&&a.spot.isNone)
 |_,_=>true
theorem o4{fn:Fn}(h:Rl fn=false)(c:List Value):oZ fn c=true:=by
 unfold oZ
 split
 .cases h
 .rw[h];rfl
 .rfl
mutual
inductive ao(P:Program)(β:aS):Value->Value->Prop where
 |bool (b:Bool):ao P β (.bool b) (.bool b)
 |int (k:IntKind) (n:Int):ao P β (.int k n) (.int k n)
 |float (k:FloatKind) (n:Nat):ao P β (.float k n) (.float k n)
 |complex (k:FloatKind) (a b:Nat):ao P β (.complex k a b) (.complex k a b)
 |string (s:ByteArray):ao P β (.string s) (.string s)
 |nilFunc:ao P β .nilFunc .nilFunc
 |nilIface:ao P β .nilIface .nilIface
 |pnil:ao P β (.pointer none) (.pointer none)
 |ptr {b off:Nat} {m:dm} (h:β b=some m):ao P β (.pointer (some ⟨b,off,none⟩)) (.pointer (some ⟨m.blk,off+m.sh,none⟩))
 |snil:ao P β (.slice none 0 0) (.slice none 0 0)
 |sknown {b off len c:Nat} {m:dm} (h:β b=some m):ao P β (.slice (some ⟨b,off,none⟩) len (2*c)) (.slice (some ⟨m.blk,off+m.sh,none⟩) len c)
 |sgrown {b off len c cap:Nat} {m:dm} (h:β b=some m) (hc:c<=cap) (hs:off+m.sh+cap*P.cellsOf m.elem<=m.size) :
  ao P β (.slice (some ⟨b,off,none⟩) len (2*c+1)) (.slice (some ⟨m.blk,off+m.sh,none⟩) len cap)
 |sempty {b off off' cap:Nat} {m:dm} (h:β b=some m) (hs:m.sh<=off'/\off'+cap*P.cellsOf m.elem<=m.size) :
  ao P β (.slice (some ⟨b,off,none⟩) 0 1) (.slice (some ⟨m.blk,off',none⟩) 0 cap)
 |szero {b off off':Nat} {m:dm} (h:β b=some m):ao P β (.slice (some ⟨b,off,none⟩) 0 0) (.slice (some ⟨m.blk,off',none⟩) 0 0)
 |mnil:ao P β (.map none) (.map none)
 |mref {b:Nat} {m:dm} (h:β b=some m):ao P β (.map (some b)) (.map (some m.blk))
 |func {fn:Fn} {f f' c c':List Value} (hf:bc P β f f') (hc:bc P β c c') (fl:oZ fn c'=true):ao P β (.func fn ⟨f⟩ ⟨c⟩) (.func fn ⟨f'⟩ ⟨c'⟩)
 |yield {b:Nat} {m:dm} (h:β b=some m):ao P β (.func (.yield b) ⟨[]⟩ ⟨[]⟩) (.func (.yield m.blk) ⟨[]⟩ ⟨[]⟩)
 |iface {t:TypeId} {v v':Value} (h:ao P β v v'):ao P β (.iface t v) (.iface t v')
 |agg {l l':List Value} (h:bc P β l l'):ao P β (.agg ⟨l⟩) (.agg ⟨l'⟩)
 |tuple {l l':List Value} (h:bc P β l l'):ao P β (.tuple ⟨l⟩) (.tuple ⟨l'⟩)
inductive bc(P:Program)(β:aS):List Value->List Value->Prop where
 |nil:bc P β [] []
 |cons {v v':Value} {l l':List Value} (h:ao P β v v') (hl:bc P β l l'):bc P β (v::l) (v'::l')
end
mutual
theorem ao.mono{P:Program}{β β':aS}(hb:β.le β'):∀{v v':Value},ao P β v v'->ao P β' v v'
 |_,_,.bool b=>.bool b
 |_,_,.int k n=>.int k n
 |_,_,.float k n=>.float k n
 |_,_,.complex k a b=>.complex k a b
 |_,_,.string s=>.string s
 |_,_,.nilFunc=>.nilFunc
 |_,_,.nilIface=>.nilIface
 |_,_,.pnil=>.pnil
 |_,_,.ptr h=>.ptr (hb _ _ h)
 |_,_,.snil=>.snil
 |_,_,.sknown h=>.sknown (hb _ _ h)
 |_,_,.sgrown h hc hs=>.sgrown (hb _ _ h) hc hs
 |_,_,.sempty h hs=>.sempty (hb _ _ h) hs
 |_,_,.szero h=>.szero (hb _ _ h)
 |_,_,.mnil=>.mnil
 |_,_,.mref h=>.mref (hb _ _ h)
 |_,_,.func hf hc fl=>.func (hf.mono hb) (hc.mono hb) fl
 |_,_,.yield h=>.yield (hb _ _ h)
 |_,_,.iface h=>.iface (h.mono hb)
 |_,_,.agg h=>.agg (h.mono hb)
 |_,_,.tuple h=>.tuple (h.mono hb)
theorem bc.mono{P:Program}{β β':aS}(hb:β.le β'):∀{l a:List Value},bc P β l a->bc P β' l a
 |_,_,.nil=>.nil
 |_,_,.cons h hl=>.cons (h.mono hb) (hl.mono hb)
end
section
variable{P:Program}{β:aS}
theorem bc.length{l a:List Value}(h:bc P β l a):a.length=l.length:=by
 induction l generalizing a with
 |nil=>cases h;rfl
 |cons v l b=>cases h with|cons h hl=>simp[b hl]
theorem bc.get{l a:List Value}(h:bc P β l a){i:Nat}{v:Value}(hi:l[i]? = some v):∃v',a[i]? = some v'/\ao P β v v':=by
 induction l generalizing a i with
 |nil=>simp at hi
 |cons x l b=>
  cases h with
  |cons h hl=>
   cases i with
   |zero=>simp at hi;subst hi;exact⟨_,by simp,h⟩
   |succ i=>simp at hi;simpa using b hl hi
theorem bc.append{l a m b:List Value}(h:bc P β l a)(h2:bc P β m b):bc P β (l++m) (a++b):=by
 induction l generalizing a with
 |nil=>cases h;exact h2
 |cons v l c=>cases h with|cons h hl=>exact .cons h (c hl)
theorem bc.take{l a:List Value}(h:bc P β l a)(n:Nat):bc P β (l.take n) (a.take n):=by
 induction l generalizing a n with
 |nil=>cases h;simp;exact .nil
 |cons v l b=>cases h with|cons h hl=>cases n with
  |zero=>simp;exact .nil
  |succ n=>simpa using .cons h (b hl n)
theorem bc.drop{l a:List Value}(h:bc P β l a)(n:Nat):bc P β (l.drop n) (a.drop n):=by
 induction l generalizing a n with
 |nil=>cases h;simp;exact .nil
 |cons v l b=>cases h with|cons h hl=>cases n with
  |zero=>simpa using .cons h hl
  |succ n=>simpa using b hl n
end
def SO(P:Program)(β:aS)(e a:MapEntry):Prop:=ao P β e.key a.key/\ao P β e.val a.val/\a.born=e.born
structure fN(P:Program)(β:aS)(a:Fr)(t':Array Value):Prop where
 size:t'.size=a.size
 small:a.size<=65534
 get:∀t,ao P β ((a.tmps.get t).getD undef) (t'.getD t undef)
theorem fN.mono{P:Program}{β β':aS}(hb:β.le β'){a:Fr}{t':Array Value}(h:fN P β a t'):fN P β' a t':=⟨h.size,h.small,λt=>(h.get t).mono hb⟩
inductive eT(P:Program)(β:aS)(m:dm):ak->Obj->Prop where
 |cells {c:List Value} {e e':TypeId} {c':Array Value} {fz:Nat×Nat} (he:e=m.elem) (hsz:m.size<=c'.size) (hln:c.length=0\/c.length+m.sh<=m.size) (hfz:∀i,m.sh<=i->i<m.size->¬(fz.1<=i/\i<fz.2))
  (hc:∀(i:Nat) (v:Value),c[i]? = some v->∃v',c'[i+m.sh]? = some v'/\ao P β v v'):eT P β m (.cells c e) (.cells c' e' fz)
 |map {es es':Array MapEntry} {clock:Nat} (hlen:es'.size=es.size) (he:∀(i:Nat) (e:MapEntry),es[i]? = some e->∃e',es'[i]? = some e'/\SO P β e e') :
  eT P β m (.map es clock) (.map es' clock)
 |loop {lp:Lp} {r:Loop} (hf:fN P β lp.fr r.tmps) (hp:r.params.toList=lp.params) (ha:r.assign=lp.assign) (hb:r.body=lp.body) (hs:r.state=lp.state) (hj:r.pending=lp.pend) :
  eT P β m (.loop lp) (.loop r)
theorem eT.mono{P:Program}{β β':aS}(hb:β.le β'){m:dm}{o:ak}{o':Obj}(h:eT P β m o o'):eT P β' m o o':=by
 cases h with
 |cells he hsz hln hfz hc=>exact .cells he hsz hln hfz λi v hv=>let ⟨v',h1,h2⟩:=hc i v hv;⟨v',h1,h2.mono hb⟩
 |map hlen he=>exact .map hlen λi e h=>let ⟨b,h1,h2,c,d⟩:=he i e h;⟨b,h1,h2.mono hb,c.mono hb,d⟩
 |loop hf hp ha a hs hj=>exact .loop (hf.mono hb) hp ha a hs hj
structure bh(P:Program)(β:aS)(s:St)(w:World):Prop where
 img:∀b m,β b=some m->b<s.next->m.blk<w.heap.size
 obj:∀b m o,β b=some m->b<s.next->s.get b=some o->∃o',w.heap[m.blk]? = some o'/\eT P β m o o'
 inj:∀b b' m m' o o',β b=some m->β b'=some m'->b<s.next->b'<s.next->s.get b=some o->s.get b'=some o'->m.blk=m'.blk->b=b'\/(m.ro=true/\m'.ro=true)
 ro:∀b m,β b=some m->b<s.next->m.ro=true->b<s.bar
 room:s.next<=281474976710655
 top:∀b,s.next<=b->s.get b=none
structure bp(P:Program)(β:aS)(s:St)(w:World)(β':aS)(s':St)(w':World):Prop where
 rel:bh P β' s' w'
 le:β.le β'
 dom:∀b m,β' b=some m->β b=none->s.next<=b/\b<s'.next
 next:s.next<=s'.next
 bar:s'.bar=s.bar
 prot:s'.prot=s.prot
 size:w.heap.size<=w'.heap.size
 out:∀r,r<w.heap.size->(∀b m o,β b=some m->b<s.next->s.may b=true->s.get b=some o->m.blk≠r)->w'.heap[r]? = w.heap[r]?
 same:∀b,b<s.next->s.may b=false->s'.get b=s.get b
 dead:∀b,b<s.next->s.get b=none->s'.get b=none
 fresh:∀b m,β' b=some m->β b=none->w.heap.size<=m.blk\/∃b₀ m₀ o₀,β b₀=some m₀/\b₀<s.next/\s.may b₀=true/\s.get b₀=some o₀/\m₀.blk=m.blk
 os:w'.os=w.os
 output:w'.output=w.output
 tape:w'.tape=w.tape
def cC(β:aS)(s s':St):Prop:=∀b,s.next<=b->b<s'.next->β b=none
theorem St.may_eq{s s':St}(h:s'.bar=s.bar)(a:s'.prot=s.prot)(b:Nat):s'.may b=s.may b:=by simp[St.may,h,a]
theorem bp.refl{P:Program}{β:aS}{s:St}{w:World}(h:bh P β s w):bp P β s w β s w where
 rel:=h
 le:=aS.le_refl β
 dom:=λb m h a=>by rw[a]at h;cases h
 next:=aN _
 bar:=rfl
 prot:=rfl
 size:=aN _
 out:=λ_ _ _=>rfl
 same:=λ_ _ _=>rfl
 dead:=λ_ _ h=>h
 fresh:=λb m h a=>by rw[a]at h;cases h
 os:=rfl
 output:=rfl
 tape:=rfl
theorem bp.trans{P:Program}{β d n:aS}{s s₁ l:St}{w t u:World}(h:bp P β s w d s₁ t)(f:bp P d s₁ t n l u)(v:cC β s l) :
 bp P β s w n l u:=by
 have old:∀b m,β b=some m->b<s₁.next->b<s.next:=λb m hb y=>
  eB λhcon=>by
   have:=v b O (bL y f.next)
   rw[this]at hb;cases hb
 have live:∀b o,b<s.next->s₁.get b=some o->∃o',s.get b=some o':=λb o hb hg=>by
  cases hs:s.get b with
  |none=>rw[h.dead b hb hs]at hg;cases hg
  |some o'=>exact⟨o',rfl⟩
 exact{
  rel:=f.rel
  le:=aS.le_trans h.le f.le
  dom:=λb m hb hn=>by
   cases h1:d b with
   |none=>have:=f.dom b m hb h1;have:=h.next;omega
   |some m₁=>have:=h.dom b m₁ h1 hn;have:=f.next;omega
  next:=bK h.next f.next
  bar:=f.bar.trans h.bar
  prot:=f.prot.trans h.prot
  size:=bK h.size f.size
  out:=λr I A=>by
   rw[<-h.out r I A]
   refine f.out r (bL I h.size) λb m o hb y q D heq=>?_
   rw[St.may_eq h.bar h.prot]at q
   cases h1:β b with
   |some m₁=>
    have e:=h.le b m₁ h1
    rw[hb]at e;cases e
    have i:=old b m h1 y
    obtain⟨o',B⟩:=live b o i D
    exact A b m o' h1 i q B heq
   |none=>
    rcases h.fresh b m hb h1 with hf|⟨a,g,k,h0,j,c,x,p⟩
    .omega
    .exact A a g k h0 j c x (p.trans heq)
  same:=λb hb hm=>by
   rw[f.same b (bL hb h.next) (by rw[St.may_eq h.bar h.prot];exact hm),h.same b hb hm]
  dead:=λb hb hg=>f.dead b (bL hb h.next) (h.dead b hb hg)
  fresh:=λb m hb hn=>by
   cases h1:d b with
   |some m₁=>
    have e:=f.le b m₁ h1
    rw[hb]at e;cases e
    exact h.fresh b m h1 hn
   |none=>
    rcases f.fresh b m hb h1 with hf|⟨a,g,k,h0,j,c,x,p⟩
    .exact .inl (bK h.size hf)
    .rw[St.may_eq h.bar h.prot]at c
     cases h2:β a with
     |some m₁=>
      have e:=h.le a m₁ h2
      rw[h0]at e;cases e
      have i:=old a g h2 j
      obtain⟨o',B⟩:=live a k i x
      exact .inr ⟨a,g,o',h2,i,c,B,p⟩
     |none=>
      rcases h.fresh a g h0 h2 with hf|⟨C,m₁,F,J,E,z,H,G⟩
      .exact .inl O
      .exact .inr ⟨C,m₁,F,J,E,z,H,G.trans p⟩
  os:=f.os.trans h.os
  output:=f.output.trans h.output
  tape:=f.tape.trans h.tape}
theorem mr{P:Program}{α:Type}(x:Sem α):∀(s:St),
 (∀a s',k6 P x s=.ok a s'->s.next<=s'.next)/\(∀v s',k6 P x s=.panic v s'->s.next<=s'.next):=by
 induction x with
 |pure a=>intro s;simp[k6]
 |load m a k b=>
  intro s
  simp only[k6]
  repeat' split
  all_goals first|exact b _ _|simp
 |store m a v k b=>
  intro s
  simp only[k6]
  repeat' split
  all_goals first|exact b (s.put _ _)|simp
 |new o k b=>
  intro s
  simp only[k6]
  repeat' split
  all_goals first|(refine⟨λa s' h=>?_,λv s' h=>?_⟩;(have:=(b _ (s.new _)).1 a s' h;simp[St.new]at this;omega);(have:=(b _ (s.new _)).2 v s' h;simp[St.new]at this;omega))|simp
 |shape r k b=>intro s;simp[k6]
 |freeze a n k b=>intro s;simp[k6]
 |frozen a k b=>intro s;simp[k6]
 |getObj r k b=>
  intro s
  simp only[k6]
  repeat' split
  all_goals first|exact b _ _|simp
 |setObj r o k b=>
  intro s
  simp only[k6]
  repeat' split
  all_goals first|exact b (s.put _ _)|simp
 |choose q k b=>
  intro s
  simp only[k6]
  repeat' split
  all_goals first|exact b _ _|simp
 |sys c k b=>intro s;simp[k6]
 |program k b=>intro s;simpa[k6]using b P s
 |mark m k b=>intro s;simpa[k6]using b s
 |halt h=>intro s;cases h<;>simp[k6]
end Go.M
