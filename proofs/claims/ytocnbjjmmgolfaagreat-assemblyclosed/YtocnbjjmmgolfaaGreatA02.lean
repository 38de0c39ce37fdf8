/- What the abstract machine's states and values have to do with the model's. -/
import Derived.Test.YtocnbjjmmgolfaaGreatA01
import Derived.Eval
set_option linter.unusedSimpArgs false
set_option linter.unusedVariables false
set_option linter.unusedSectionVars false
namespace Go.M
namespace Tr
variable{α:Type}
theorem get_put:∀(d:Nat) (t:Tr α) (n m:Nat) (x:Option α),n+1<2 ^ d →
 (t.put d n x).get m=if m=n then x else t.get m:=by
 intro d
 induction d with
 |zero=>intro t n m x h;simp at h
 |succ d b=>
  intro t n m x h
  cases t with
  |nil=>
   cases n with
   |zero=>cases m with
    |zero=>simp[put,get]
    |succ m=>simp only[put,get];split<;>simp
   |succ k=>
    have hk:k / 2+1<2 ^ d:=by rw[Nat.pow_succ]at h;omega
    cases hp:k % 2 with
    |zero=>
     cases m with
     |zero=>simp[put,get,hp]
     |succ m=>
      cases a:m % 2 with
      |zero=>simp only[put,get,hp,a,b _ _ _ _ hk,dV];congr 1;apply propext;constructor<;>intro<;>omega
      |succ q=>simp only[put,get,hp,a,dV];rw[aD];omega
    |succ p=>
     cases m with
     |zero=>simp[put,get,hp]
     |succ m=>
      cases a:m % 2 with
      |zero=>simp only[put,get,hp,a,dV];rw[aD];omega
      |succ q=>simp only[put,get,hp,a,b _ _ _ _ hk,dV];congr 1;apply propext;constructor<;>intro<;>omega
  |node v l r=>
   cases n with
   |zero=>cases m with
    |zero=>simp[put,get]
    |succ m=>simp[put,get]
   |succ k=>
    have hk:k / 2+1<2 ^ d:=by rw[Nat.pow_succ]at h;omega
    cases hp:k % 2 with
    |zero=>
     cases m with
     |zero=>simp[put,get,hp]
     |succ m=>
      cases a:m % 2 with
      |zero=>simp only[put,get,hp,a,b _ _ _ _ hk,dV];congr 1;apply propext;constructor<;>intro<;>omega
      |succ q=>simp only[put,get,hp,a,dV];rw[aD];omega
    |succ p=>
     cases m with
     |zero=>simp[put,get,hp]
     |succ m=>
      cases a:m % 2 with
      |zero=>simp only[put,get,hp,a,dV];rw[aD];omega
      |succ q=>simp only[put,get,hp,a,b _ _ _ _ hk,dV];congr 1;apply propext;constructor<;>intro<;>omega
end Tr
section
variable{α:Type}
theorem zJ(l:List α):∀n,zF l n=l[n]? :=by
 induction l with
 |nil=>intro n;simp[zF]
 |cons x l a=>intro n;cases n<;>simp[zF,a]
theorem y7:∀(n:Nat) (l:List α),y8 n l=if n≤l.length then some (l.take n)else none:=by
 intro n
 induction n with
 |zero=>intro l;simp[y8]
 |succ n a=>
  intro l
  cases l with
  |nil=>simp[y8]
  |cons x l=>simp only[y8,a,aW,Nat.add_le_add_iff_right,List.take_succ_cons];split<;>simp_all
theorem yU:∀(n:Nat) (l:List α),xw n l=l.drop n:=by
 intro n
 induction n with
 |zero=>intro l;simp[xw]
 |succ n a=>intro l;cases l<;>simp[xw,a]
theorem yd(l:List α):∀n,yD l n=l.length+n:=by
 induction l with
 |nil=>intro n;simp[yD]
 |cons x l a=>intro n;simp[yD,a];omega
theorem zey:∀(vs l r:List α),xO vs l=some r→vs.length≤l.length∧r=vs++l.drop vs.length:=by
 intro vs
 induction vs with
 |nil=>intro l r h;simp[xO]at h;simp[h]
 |cons v vs a=>
  intro l r h
  cases l with
  |nil=>simp[xO]at h
  |cons x l=>
   simp only[xO]at h
   cases ho:xO vs l with
   |none=>simp[ho]at h
   |some q=>simp only[ho,bF]at h;obtain⟨h1,h2⟩:=a l q ho;subst h;subst h2;simp[h1]
theorem WU:∀(n:Nat) (vs l r:List α),yO n vs l=some r→n+vs.length≤l.length∧r=l.take n++vs++l.drop (n+vs.length):=by
 intro n
 induction n with
 |zero=>intro vs l r h;obtain⟨h1,h2⟩:=zey vs l r h;simp[h1,h2]
 |succ n a=>
  intro vs l r h
  cases l with
  |nil=>simp[yO]at h
  |cons x l=>
   simp only[yO]at h
   cases ho:yO n vs l with
   |none=>simp[ho]at h
   |some q=>
    simp only[ho,bF]at h
    obtain⟨h1,h2⟩:=a vs l q ho
    subst h;subst h2
    constructor
    ·simp;omega
    ·have e:n+1+vs.length=(n+vs.length)+1:=by omega
     simp[e,fA]
end
structure Img where
 blk:Nat
 sh:Nat
 size:Nat
 elem:TypeId
 ro:Bool
abbrev Ren:=Nat→Option Img
def Ren.le(β β':Ren):Prop:=∀b m,β b=some m→β' b=some m
theorem Ren.le_refl(β:Ren):β.le β:=fun _ _ h=>h
theorem Ren.le_trans{β β' β'':Ren}(h:β.le β')(a:β'.le β''):β.le β'':=fun b m e=>a b m (h b m e)
def flatB:Fn→List Value→Bool
 | .yield _,_=>false
 |fn,[.pointer (some a)]=> !zcv fn||(Nat.beq a.off 0&&a.spot.isNone)
 |_,_=>true
theorem flatB_no{fn:Fn}(h:zcv fn=false)(c:List Value):flatB fn c=true:=by
 unfold flatB
 split
 ·cases h
 ·rw[h];rfl
 ·rfl
mutual
inductive VRel(P:Program)(β:Ren):Value→Value→Prop where
 |bool (b:Bool):VRel P β (.bool b) (.bool b)
 |int (k:IntKind) (n:Int):VRel P β (.int k n) (.int k n)
 |float (k:FloatKind) (n:Nat):VRel P β (.float k n) (.float k n)
 |complex (k:FloatKind) (a b:Nat):VRel P β (.complex k a b) (.complex k a b)
 |string (s:ByteArray):VRel P β (.string s) (.string s)
 |nilFunc:VRel P β .nilFunc .nilFunc
 |nilIface:VRel P β .nilIface .nilIface
 |pnil:VRel P β (.pointer none) (.pointer none)
 |ptr {b off:Nat} {m:Img} (h:β b=some m):VRel P β (.pointer (some ⟨b,off,none⟩)) (.pointer (some ⟨m.blk,off+m.sh,none⟩))
 |snil:VRel P β (.slice none 0 0) (.slice none 0 0)
 |sknown {b off len c:Nat} {m:Img} (h:β b=some m):VRel P β (.slice (some ⟨b,off,none⟩) len (2*c)) (.slice (some ⟨m.blk,off+m.sh,none⟩) len c)
 |sgrown {b off len c cap:Nat} {m:Img} (h:β b=some m) (hc:c≤cap) (hs:off+m.sh+cap*P.cellsOf m.elem≤m.size) :
  VRel P β (.slice (some ⟨b,off,none⟩) len (2*c+1)) (.slice (some ⟨m.blk,off+m.sh,none⟩) len cap)
 |sempty {b off off' cap:Nat} {m:Img} (h:β b=some m) (hs:m.sh≤off'∧off'+cap*P.cellsOf m.elem≤m.size) :
  VRel P β (.slice (some ⟨b,off,none⟩) 0 1) (.slice (some ⟨m.blk,off',none⟩) 0 cap)
 |szero {b off off':Nat} {m:Img} (h:β b=some m):VRel P β (.slice (some ⟨b,off,none⟩) 0 0) (.slice (some ⟨m.blk,off',none⟩) 0 0)
 |mnil:VRel P β (.map none) (.map none)
 |mref {b:Nat} {m:Img} (h:β b=some m):VRel P β (.map (some b)) (.map (some m.blk))
 |func {fn:Fn} {f f' c c':List Value} (hf:LRel P β f f') (hc:LRel P β c c') (fl:flatB fn c'=true):VRel P β (.func fn ⟨f⟩ ⟨c⟩) (.func fn ⟨f'⟩ ⟨c'⟩)
 |yield {b:Nat} {m:Img} (h:β b=some m):VRel P β (.func (.yield b) ⟨[]⟩ ⟨[]⟩) (.func (.yield m.blk) ⟨[]⟩ ⟨[]⟩)
 |iface {t:TypeId} {v v':Value} (h:VRel P β v v'):VRel P β (.iface t v) (.iface t v')
 |agg {l l':List Value} (h:LRel P β l l'):VRel P β (.agg ⟨l⟩) (.agg ⟨l'⟩)
 |tuple {l l':List Value} (h:LRel P β l l'):VRel P β (.tuple ⟨l⟩) (.tuple ⟨l'⟩)
inductive LRel(P:Program)(β:Ren):List Value→List Value→Prop where
 |nil:LRel P β [] []
 |cons {v v':Value} {l l':List Value} (h:VRel P β v v') (hl:LRel P β l l'):LRel P β (v::l) (v'::l')
end
mutual
theorem VRel.mono{P:Program}{β β':Ren}(hb:β.le β'):∀{v v':Value},VRel P β v v'→VRel P β' v v'
 |_,_,.bool b=>.bool b
 |_,_,.int k n=>.int k n
 |_,_,.float k n=>.float k n
 |_,_,.complex k a b=>.complex k a b
 |_,_,.string s=>.string s
 |_,_,.nilFunc=>.nilFunc
 |_,_,.nilIface=>.nilIface
 |_,_,.pnil=>.pnil
 |_,_,.ptr h=>.ptr (hb _ _ h)
 |_,_,.snil=>.snil
 |_,_,.sknown h=>.sknown (hb _ _ h)
 |_,_,.sgrown h hc hs=>.sgrown (hb _ _ h) hc hs
 |_,_,.sempty h hs=>.sempty (hb _ _ h) hs
 |_,_,.szero h=>.szero (hb _ _ h)
 |_,_,.mnil=>.mnil
 |_,_,.mref h=>.mref (hb _ _ h)
 |_,_,.func hf hc fl=>.func (hf.mono hb) (hc.mono hb) fl
 |_,_,.yield h=>.yield (hb _ _ h)
 |_,_,.iface h=>.iface (h.mono hb)
 |_,_,.agg h=>.agg (h.mono hb)
 |_,_,.tuple h=>.tuple (h.mono hb)
theorem LRel.mono{P:Program}{β β':Ren}(hb:β.le β'):∀{l a:List Value},LRel P β l a→LRel P β' l a
 |_,_,.nil=>.nil
 |_,_,.cons h hl=>.cons (h.mono hb) (hl.mono hb)
end
section
variable{P:Program}{β:Ren}
theorem LRel.length{l a:List Value}(h:LRel P β l a):a.length=l.length:=by
 induction l generalizing a with
 |nil=>cases h;rfl
 |cons v l b=>cases h with|cons h hl=>simp[b hl]
theorem LRel.get{l a:List Value}(h:LRel P β l a){i:Nat}{v:Value}(hi:l[i]? = some v):∃v',a[i]? = some v'∧VRel P β v v':=by
 induction l generalizing a i with
 |nil=>simp at hi
 |cons x l b=>
  cases h with
  |cons h hl=>
   cases i with
   |zero=>simp at hi;subst hi;exact⟨_,by simp,h⟩
   |succ i=>simp at hi;simpa using b hl hi
theorem LRel.append{l a m b:List Value}(h:LRel P β l a)(h2:LRel P β m b):LRel P β (l++m) (a++b):=by
 induction l generalizing a with
 |nil=>cases h;exact h2
 |cons v l c=>cases h with|cons h hl=>exact .cons h (c hl)
theorem LRel.take{l a:List Value}(h:LRel P β l a)(n:Nat):LRel P β (l.take n) (a.take n):=by
 induction l generalizing a n with
 |nil=>cases h;simp;exact .nil
 |cons v l b=>cases h with|cons h hl=>cases n with
  |zero=>simp;exact .nil
  |succ n=>simpa using .cons h (b hl n)
theorem LRel.drop{l a:List Value}(h:LRel P β l a)(n:Nat):LRel P β (l.drop n) (a.drop n):=by
 induction l generalizing a n with
 |nil=>cases h;simp;exact .nil
 |cons v l b=>cases h with|cons h hl=>cases n with
  |zero=>simpa using .cons h hl
  |succ n=>simpa using b hl n
end
def ERel(P:Program)(β:Ren)(e a:MapEntry):Prop:=VRel P β e.key a.key∧VRel P β e.val a.val∧a.born=e.born
structure TRel(P:Program)(β:Ren)(a:Fr)(t':Array Value):Prop where
 size:t'.size=a.size
 small:a.size≤65534
 get:∀t,VRel P β ((a.tmps.get t).getD undef) (t'.getD t undef)
theorem TRel.mono{P:Program}{β β':Ren}(hb:β.le β'){a:Fr}{t':Array Value}(h:TRel P β a t'):TRel P β' a t':=⟨h.size,h.small,fun t=>(h.get t).mono hb⟩
inductive ORel(P:Program)(β:Ren)(m:Img):MObj→Obj→Prop where
 |cells {c:List Value} {e e':TypeId} {c':Array Value} {fz:Nat×Nat} (he:e=m.elem) (hsz:m.size≤c'.size) (hln:c.length=0∨c.length+m.sh≤m.size) (hfz:∀i,m.sh≤i→i<m.size→¬(fz.1≤i∧i<fz.2))
  (hc:∀(i:Nat) (v:Value),c[i]? = some v→∃v',c'[i+m.sh]? = some v'∧VRel P β v v'):ORel P β m (.cells c e) (.cells c' e' fz)
 |map {es es':Array MapEntry} {clock:Nat} (hlen:es'.size=es.size) (he:∀(i:Nat) (e:MapEntry),es[i]? = some e→∃e',es'[i]? = some e'∧ERel P β e e') :
  ORel P β m (.map es clock) (.map es' clock)
 |loop {lp:Lp} {r:Loop} (hf:TRel P β lp.fr r.tmps) (hp:r.params.toList=lp.params) (ha:r.assign=lp.assign) (hb:r.body=lp.body) (hs:r.state=lp.state) (hj:r.pending=lp.pend) :
  ORel P β m (.loop lp) (.loop r)
theorem ORel.mono{P:Program}{β β':Ren}(hb:β.le β'){m:Img}{o:MObj}{o':Obj}(h:ORel P β m o o'):ORel P β' m o o':=by
 cases h with
 |cells he hsz hln hfz hc=>exact .cells he hsz hln hfz fun i v hv=>let ⟨v',h1,h2⟩:=hc i v hv;⟨v',h1,h2.mono hb⟩
 |map hlen he=>exact .map hlen fun i e h=>let ⟨b,h1,h2,c,d⟩:=he i e h;⟨b,h1,h2.mono hb,c.mono hb,d⟩
 |loop hf hp ha a hs hj=>exact .loop (hf.mono hb) hp ha a hs hj
structure Rel(P:Program)(β:Ren)(s:St)(w:World):Prop where
 img:∀b m,β b=some m→b<s.next→m.blk<w.heap.size
 obj:∀b m o,β b=some m→b<s.next→s.get b=some o→∃o',w.heap[m.blk]? = some o'∧ORel P β m o o'
 inj:∀b b' m m' o o',β b=some m→β b'=some m'→b<s.next→b'<s.next→s.get b=some o→s.get b'=some o'→m.blk=m'.blk→b=b'∨(m.ro=true∧m'.ro=true)
 ro:∀b m,β b=some m→b<s.next→m.ro=true→b<s.bar
 room:s.next≤281474976710655
 top:∀b,s.next≤b→s.get b=none
structure Ext(P:Program)(β:Ren)(s:St)(w:World)(β':Ren)(s':St)(w':World):Prop where
 rel:Rel P β' s' w'
 le:β.le β'
 dom:∀b m,β' b=some m→β b=none→s.next≤b∧b<s'.next
 next:s.next≤s'.next
 bar:s'.bar=s.bar
 prot:s'.prot=s.prot
 size:w.heap.size≤w'.heap.size
 out:∀r,r<w.heap.size→(∀b m o,β b=some m→b<s.next→s.may b=true→s.get b=some o→m.blk≠r)→w'.heap[r]? = w.heap[r]?
 same:∀b,b<s.next→s.may b=false→s'.get b=s.get b
 dead:∀b,b<s.next→s.get b=none→s'.get b=none
 fresh:∀b m,β' b=some m→β b=none→w.heap.size≤m.blk∨∃b₀ m₀ o₀,β b₀=some m₀∧b₀<s.next∧s.may b₀=true∧s.get b₀=some o₀∧m₀.blk=m.blk
 os:w'.os=w.os
 output:w'.output=w.output
 tape:w'.tape=w.tape
def Free(β:Ren)(s s':St):Prop:=∀b,s.next≤b→b<s'.next→β b=none
theorem St.may_eq{s s':St}(h:s'.bar=s.bar)(a:s'.prot=s.prot)(b:Nat):s'.may b=s.may b:=by simp[St.may,h,a]
theorem Ext.refl{P:Program}{β:Ren}{s:St}{w:World}(h:Rel P β s w):Ext P β s w β s w where
 rel:=h
 le:=Ren.le_refl β
 dom:=fun b m h a=>by rw[a]at h;cases h
 next:=aO _
 bar:=rfl
 prot:=rfl
 size:=aO _
 out:=fun _ _ _=>rfl
 same:=fun _ _ _=>rfl
 dead:=fun _ _ h=>h
 fresh:=fun b m h a=>by rw[a]at h;cases h
 os:=rfl
 output:=rfl
 tape:=rfl
theorem Ext.trans{P:Program}{β β₁ β₂:Ren}{s s₁ s₂:St}{w w₁ w₂:World}(h:Ext P β s w β₁ s₁ w₁)(c:Ext P β₁ s₁ w₁ β₂ s₂ w₂)(j:Free β s s₂) :
 Ext P β s w β₂ s₂ w₂:=by
 have old:∀b m,β b=some m→b<s₁.next→b<s.next:=fun b m hb l=>
  eD fun hcon=>by
   have:=j b O (bJ l c.next)
   rw[this]at hb;cases hb
 have live:∀b o,b<s.next→s₁.get b=some o→∃o',s.get b=some o':=fun b o hb hg=>by
  cases hs:s.get b with
  |none=>rw[h.dead b hb hs]at hg;cases hg
  |some o'=>exact⟨o',rfl⟩
 exact{
  rel:=c.rel
  le:=Ren.le_trans h.le c.le
  dom:=fun b m hb hn=>by
   cases h1:β₁ b with
   |none=>have:=c.dom b m hb h1;have:=h.next;omega
   |some m₁=>have:=h.dom b m₁ h1 hn;have:=c.next;omega
  next:=bH h.next c.next
  bar:=c.bar.trans h.bar
  prot:=c.prot.trans h.prot
  size:=bH h.size c.size
  out:=fun r A p=>by
   rw[←h.out r A p]
   refine c.out r (bJ A h.size) fun b m o hb l i u t=>?_
   rw[St.may_eq h.bar h.prot]at i
   cases h1:β b with
   |some m₁=>
    have e:=h.le b m₁ h1
    rw[hb]at e;cases e
    have d:=old b m h1 l
    obtain⟨o',q⟩:=live b o d u
    exact p b m o' h1 d i q t
   |none=>
    rcases h.fresh b m hb h1 with hf|⟨b₀,m₀,o₀,h0,f,a,k,g⟩
    ·omega
    ·exact p b₀ m₀ o₀ h0 f a k (g.trans t)
  same:=fun b hb z=>by
   rw[c.same b (bJ hb h.next) (by rw[St.may_eq h.bar h.prot];exact z),h.same b hb z]
  dead:=fun b hb hg=>c.dead b (bJ hb h.next) (h.dead b hb hg)
  fresh:=fun b m hb hn=>by
   cases h1:β₁ b with
   |some m₁=>
    have e:=c.le b m₁ h1
    rw[hb]at e;cases e
    exact h.fresh b m h1 hn
   |none=>
    rcases c.fresh b m hb h1 with hf|⟨b₀,m₀,o₀,h0,f,a,k,g⟩
    ·exact .inl (bH h.size hf)
    ·rw[St.may_eq h.bar h.prot]at a
     cases h2:β b₀ with
     |some m₁=>
      have e:=h.le b₀ m₁ h2
      rw[h0]at e;cases e
      have d:=old b₀ m₀ h2 f
      obtain⟨o',q⟩:=live b₀ o₀ d k
      exact .inr ⟨b₀,m₀,o',h2,d,a,q,g⟩
     |none=>
      rcases h.fresh b₀ m₀ h0 h2 with hf|⟨b₁,m₁,o₁,B,v,n,y,x⟩
      ·exact .inl O
      ·exact .inr ⟨b₁,m₁,o₁,B,v,n,y,x.trans g⟩
  os:=c.os.trans h.os
  output:=c.output.trans h.output
  tape:=c.tape.trans h.tape}
theorem runA_next{P:Program}{α:Type}(x:Sem α):∀(s:St),
 (∀a s',kY P x s=.ok a s'→s.next≤s'.next)∧(∀v s',kY P x s=.panic v s'→s.next≤s'.next):=by
 induction x with
 |pure a=>intro s;simp[kY]
 |load m a k b=>
  intro s
  simp only[kY]
  repeat' split
  all_goals first|exact b _ _|simp
 |store m a v k b=>
  intro s
  simp only[kY]
  repeat' split
  all_goals first|exact b (s.put _ _)|simp
 |new o k b=>
  intro s
  simp only[kY]
  repeat' split
  all_goals first|(refine⟨fun a s' h=>?_,fun v s' h=>?_⟩;(have:=(b _ (s.new _)).1 a s' h;simp[St.new]at this;omega);(have:=(b _ (s.new _)).2 v s' h;simp[St.new]at this;omega))|simp
 |shape r k b=>intro s;simp[kY]
 |freeze a n k b=>intro s;simp[kY]
 |frozen a k b=>intro s;simp[kY]
 |getObj r k b=>
  intro s
  simp only[kY]
  repeat' split
  all_goals first|exact b _ _|simp
 |setObj r o k b=>
  intro s
  simp only[kY]
  repeat' split
  all_goals first|exact b (s.put _ _)|simp
 |choose q k b=>
  intro s
  simp only[kY]
  repeat' split
  all_goals first|exact b _ _|simp
 |sys c k b=>intro s;simp[kY]
 |program k b=>intro s;simpa[kY]using b P s
 |mark m k b=>intro s;simpa[kY]using b s
 |halt h=>intro s;cases h<;>simp[kY]
end Go.M
