/- What the abstract machine's states and values have to do with the model's. -/
/- The abstract machine's runs of the model's small programs stand for the model's own. -/
/- Each operation of the abstract machine stands for the model's own. -/
/- Further operations of the abstract machine, held against the model's own. -/
import Derived.Test.YtocnbjjmmgolfaaGreatA00
import Derived.Eval
import Derived.Laws.Sem
import Derived.Laws.IdiomCopy
import Derived.Laws.Append
import Derived.IntWalk
namespace Go.M
namespace Tr
variable{α:Type}
theorem get_put:∀(d:Nat) (t:Tr α) (n m:Nat) (x:Option α),n+1<2 ^ d →
    (t.put d n x).get m=if m=n then x else t.get m:=by
  intro d
  induction d with
  |zero=>intro t n m x h;simp at h
  |succ d ih=>
    intro t n m x h
    cases t with
    |nil=>
      cases n with
      |zero=>cases m with
        |zero=>simp[put,get]
        |succ m=>simp only[put,get];split<;>simp
      |succ k=>
        have hk:k / 2+1<2 ^ d:=by rw[Nat.pow_succ]at h;omega
        cases hp:k % 2 with
        |zero=>
          cases m with
          |zero=>simp[put,get,hp]
          |succ m=>
            cases hq:m % 2 with
            |zero=>simp only[put,get,hp,hq,ih _ _ _ _ hk,Nat.add_right_cancel_iff];congr 1;apply propext;constructor<;>intro<;>omega
            |succ q=>simp only[put,get,hp,hq,Nat.add_right_cancel_iff];rw[if_neg];omega
        |succ p=>
          cases m with
          |zero=>simp[put,get,hp]
          |succ m=>
            cases hq:m % 2 with
            |zero=>simp only[put,get,hp,hq,Nat.add_right_cancel_iff];rw[if_neg];omega
            |succ q=>simp only[put,get,hp,hq,ih _ _ _ _ hk,Nat.add_right_cancel_iff];congr 1;apply propext;constructor<;>intro<;>omega
    |node v l r=>
      cases n with
      |zero=>cases m with
        |zero=>simp[put,get]
        |succ m=>simp[put,get]
      |succ k=>
        have hk:k / 2+1<2 ^ d:=by rw[Nat.pow_succ]at h;omega
        cases hp:k % 2 with
        |zero=>
          cases m with
          |zero=>simp[put,get,hp]
          |succ m=>
            cases hq:m % 2 with
            |zero=>simp only[put,get,hp,hq,ih _ _ _ _ hk,Nat.add_right_cancel_iff];congr 1;apply propext;constructor<;>intro<;>omega
            |succ q=>simp only[put,get,hp,hq,Nat.add_right_cancel_iff];rw[if_neg];omega
        |succ p=>
          cases m with
          |zero=>simp[put,get,hp]
          |succ m=>
            cases hq:m % 2 with
            |zero=>simp only[put,get,hp,hq,Nat.add_right_cancel_iff];rw[if_neg];omega
            |succ q=>simp only[put,get,hp,hq,ih _ _ _ _ hk,Nat.add_right_cancel_iff];congr 1;apply propext;constructor<;>intro<;>omega
end Tr
section
variable{α:Type}
theorem qR(l:List α):∀n,qG l n=l[n]? :=by
  induction l with
  |nil=>intro n;simp[qG]
  |cons x l ih=>intro n;cases n<;>simp[qG,ih]
theorem vE:∀(n:Nat) (l:List α),qX n l=if n≤l.length then some (l.take n)else none:=by
  intro n
  induction n with
  |zero=>intro l;simp[qX]
  |succ n ih=>
    intro l
    cases l with
    |nil=>simp[qX]
    |cons x l=>simp only[qX,ih,List.length_cons,Nat.add_le_add_iff_right,List.take_succ_cons];split<;>simp_all
theorem vN:∀(n:Nat) (l:List α),kw n l=l.drop n:=by
  intro n
  induction n with
  |zero=>intro l;simp[kw]
  |succ n ih=>intro l;cases l<;>simp[kw,ih]
theorem vB(l:List α):∀n,ks l n=l.length+n:=by
  induction l with
  |nil=>intro n;simp[ks]
  |cons x l ih=>intro n;simp[ks,ih];omega
theorem lover_spec:∀(vs l r:List α),lover vs l=some r→vs.length≤l.length∧r=vs++l.drop vs.length:=by
  intro vs
  induction vs with
  |nil=>intro l r h;simp[lover]at h;simp[h]
  |cons v vs ih=>
    intro l r h
    cases l with
    |nil=>simp[lover]at h
    |cons x l=>
      simp only[lover]at h
      cases ho:lover vs l with
      |none=>simp[ho]at h
      |some q=>simp only[ho,Option.some.injEq]at h;obtain⟨h1,h2⟩:=ih l q ho;subst h;subst h2;simp[h1]
theorem lput_spec:∀(n:Nat) (vs l r:List α),ky n vs l=some r→n+vs.length≤l.length∧r=l.take n++vs++l.drop (n+vs.length):=by
  intro n
  induction n with
  |zero=>intro vs l r h;obtain⟨h1,h2⟩:=lover_spec vs l r h;simp[h1,h2]
  |succ n ih=>
    intro vs l r h
    cases l with
    |nil=>simp[ky]at h
    |cons x l=>
      simp only[ky]at h
      cases ho:ky n vs l with
      |none=>simp[ho]at h
      |some q=>
        simp only[ho,Option.some.injEq]at h
        obtain⟨h1,h2⟩:=ih vs l q ho
        subst h;subst h2
        constructor
        · simp;omega
        · have e:n+1+vs.length=(n+vs.length)+1:=by omega
          simp[e,List.drop_succ_cons]
end
structure Img where
  blk:Nat
  sh:Nat
  size:Nat
  elem:TypeId
abbrev Ren:=Nat→Option Img
def Ren.le(β β':Ren):Prop:=∀b m,β b=some m→β' b=some m
theorem Ren.le_refl(β:Ren):β.le β:=fun _ _ h=>h
theorem Ren.le_trans{β β' β'':Ren}(h:β.le β')(h':β'.le β''):β.le β'':=fun b m e=>h' b m (h b m e)
def flatB:Fn→List Value→Bool
  | .yield _,_=>false
  |fn,[.pointer (some a)]=> !keysF fn||(Nat.beq a.off 0&&a.spot.isNone)
  |_,_=>true
theorem flatB_no{fn:Fn}(h:keysF fn=false)(c:List Value):flatB fn c=true:=by
  unfold flatB
  split
  · cases h
  · rw[h];rfl
  · rfl
mutual
inductive VRel(P:Program)(β:Ren):Value→Value→Prop where
  |bool (b:Bool):VRel P β (.bool b) (.bool b)
  |int (k:IntKind) (n:Int):VRel P β (.int k n) (.int k n)
  |float (k:FloatKind) (n:Nat):VRel P β (.float k n) (.float k n)
  |complex (k:FloatKind) (a b:Nat):VRel P β (.complex k a b) (.complex k a b)
  |string (s:ByteArray):VRel P β (.string s) (.string s)
  |nilFunc:VRel P β .nilFunc .nilFunc
  |nilIface:VRel P β .nilIface .nilIface
  |pnil:VRel P β (.pointer none) (.pointer none)
  |ptr {b off:Nat} {m:Img} (h:β b=some m):VRel P β (.pointer (some ⟨b,off,none⟩)) (.pointer (some ⟨m.blk,off+m.sh,none⟩))
  |snil:VRel P β (.slice none 0 0) (.slice none 0 0)
  |sknown {b off len c:Nat} {m:Img} (h:β b=some m):VRel P β (.slice (some ⟨b,off,none⟩) len (2*c)) (.slice (some ⟨m.blk,off+m.sh,none⟩) len c)
  |sgrown {b off len c cap:Nat} {m:Img} (h:β b=some m) (hc:c≤cap) (hs:off+m.sh+cap*P.cellsOf m.elem≤m.size) :
      VRel P β (.slice (some ⟨b,off,none⟩) len (2*c+1)) (.slice (some ⟨m.blk,off+m.sh,none⟩) len cap)
  |sempty {b off off' cap:Nat} {m:Img} (h:β b=some m) (hs:m.sh≤off'∧off'+cap*P.cellsOf m.elem≤m.size) :
      VRel P β (.slice (some ⟨b,off,none⟩) 0 1) (.slice (some ⟨m.blk,off',none⟩) 0 cap)
  |szero {b off off':Nat} {m:Img} (h:β b=some m):VRel P β (.slice (some ⟨b,off,none⟩) 0 0) (.slice (some ⟨m.blk,off',none⟩) 0 0)
  |mnil:VRel P β (.map none) (.map none)
  |mref {b:Nat} {m:Img} (h:β b=some m):VRel P β (.map (some b)) (.map (some m.blk))
  |func {fn:Fn} {f f' c c':List Value} (hf:LRel P β f f') (hc:LRel P β c c') (fl:flatB fn c'=true):VRel P β (.func fn ⟨f⟩ ⟨c⟩) (.func fn ⟨f'⟩ ⟨c'⟩)
  |yield {b:Nat} {m:Img} (h:β b=some m):VRel P β (.func (.yield b) ⟨[]⟩ ⟨[]⟩) (.func (.yield m.blk) ⟨[]⟩ ⟨[]⟩)
  |iface {t:TypeId} {v v':Value} (h:VRel P β v v'):VRel P β (.iface t v) (.iface t v')
  |agg {l l':List Value} (h:LRel P β l l'):VRel P β (.agg ⟨l⟩) (.agg ⟨l'⟩)
  |tuple {l l':List Value} (h:LRel P β l l'):VRel P β (.tuple ⟨l⟩) (.tuple ⟨l'⟩)
inductive LRel(P:Program)(β:Ren):List Value→List Value→Prop where
  |nil:LRel P β [] []
  |cons {v v':Value} {l l':List Value} (h:VRel P β v v') (hl:LRel P β l l'):LRel P β (v::l) (v'::l')
end
mutual
theorem VRel.mono{P:Program}{β β':Ren}(hb:β.le β'):∀{v v':Value},VRel P β v v'→VRel P β' v v'
  |_,_,.bool b=>.bool b
  |_,_,.int k n=>.int k n
  |_,_,.float k n=>.float k n
  |_,_,.complex k a b=>.complex k a b
  |_,_,.string s=>.string s
  |_,_,.nilFunc=>.nilFunc
  |_,_,.nilIface=>.nilIface
  |_,_,.pnil=>.pnil
  |_,_,.ptr h=>.ptr (hb _ _ h)
  |_,_,.snil=>.snil
  |_,_,.sknown h=>.sknown (hb _ _ h)
  |_,_,.sgrown h hc hs=>.sgrown (hb _ _ h) hc hs
  |_,_,.sempty h hs=>.sempty (hb _ _ h) hs
  |_,_,.szero h=>.szero (hb _ _ h)
  |_,_,.mnil=>.mnil
  |_,_,.mref h=>.mref (hb _ _ h)
  |_,_,.func hf hc fl=>.func (hf.mono hb) (hc.mono hb) fl
  |_,_,.yield h=>.yield (hb _ _ h)
  |_,_,.iface h=>.iface (h.mono hb)
  |_,_,.agg h=>.agg (h.mono hb)
  |_,_,.tuple h=>.tuple (h.mono hb)
theorem LRel.mono{P:Program}{β β':Ren}(hb:β.le β'):∀{l l':List Value},LRel P β l l'→LRel P β' l l'
  |_,_,.nil=>.nil
  |_,_,.cons h hl=>.cons (h.mono hb) (hl.mono hb)
end
section
variable{P:Program}{β:Ren}
theorem LRel.length{l l':List Value}(h:LRel P β l l'):l'.length=l.length:=by
  induction l generalizing l' with
  |nil=>cases h;rfl
  |cons v l ih=>cases h with|cons h hl=>simp[ih hl]
theorem LRel.get{l l':List Value}(h:LRel P β l l'){i:Nat}{v:Value}(hi:l[i]? = some v):∃v',l'[i]? = some v'∧VRel P β v v':=by
  induction l generalizing l' i with
  |nil=>simp at hi
  |cons x l ih=>
    cases h with
    |cons h hl=>
      cases i with
      |zero=>simp at hi;subst hi;exact⟨_,by simp,h⟩
      |succ i=>simp at hi;simpa using ih hl hi
theorem LRel.append{l l' m m':List Value}(h:LRel P β l l')(h2:LRel P β m m'):LRel P β (l++m) (l'++m'):=by
  induction l generalizing l' with
  |nil=>cases h;exact h2
  |cons v l ih=>cases h with|cons h hl=>exact .cons h (ih hl)
theorem LRel.take{l l':List Value}(h:LRel P β l l')(n:Nat):LRel P β (l.take n) (l'.take n):=by
  induction l generalizing l' n with
  |nil=>cases h;simp;exact .nil
  |cons v l ih=>cases h with|cons h hl=>cases n with
    |zero=>simp;exact .nil
    |succ n=>simpa using .cons h (ih hl n)
theorem LRel.drop{l l':List Value}(h:LRel P β l l')(n:Nat):LRel P β (l.drop n) (l'.drop n):=by
  induction l generalizing l' n with
  |nil=>cases h;simp;exact .nil
  |cons v l ih=>cases h with|cons h hl=>cases n with
    |zero=>simpa using .cons h hl
    |succ n=>simpa using ih hl n
end
def ERel(P:Program)(β:Ren)(e e':MapEntry):Prop:=VRel P β e.key e'.key∧VRel P β e.val e'.val∧e'.born=e.born
structure TRel(P:Program)(β:Ren)(a:Fr)(t':Array Value):Prop where
  size:t'.size=a.size
  small:a.size≤65534
  get:∀t,VRel P β ((a.tmps.get t).getD undef) (t'.getD t undef)
theorem TRel.mono{P:Program}{β β':Ren}(hb:β.le β'){a:Fr}{t':Array Value}(h:TRel P β a t'):TRel P β' a t':=⟨h.size,h.small,fun t=>(h.get t).mono hb⟩
inductive ORel(P:Program)(β:Ren)(m:Img):MObj→Obj→Prop where
  |cells {c:List Value} {e e':TypeId} {c':Array Value} {fz:Nat×Nat} (he:e=m.elem) (hsz:m.size≤c'.size) (hln:c.length=0∨c.length+m.sh≤m.size) (hfz:∀i,m.sh≤i→i<m.size→¬(fz.1≤i∧i<fz.2))
      (hc:∀(i:Nat) (v:Value),c[i]? = some v→∃v',c'[i+m.sh]? = some v'∧VRel P β v v'):ORel P β m (.cells c e) (.cells c' e' fz)
  |map {es es':Array MapEntry} {clock:Nat} (hlen:es'.size=es.size) (he:∀(i:Nat) (e:MapEntry),es[i]? = some e→∃e',es'[i]? = some e'∧ERel P β e e') :
      ORel P β m (.map es clock) (.map es' clock)
  |loop {lp:Lp} {r:Loop} (hf:TRel P β lp.fr r.tmps) (hp:r.params.toList=lp.params) (ha:r.assign=lp.assign) (hb:r.body=lp.body) (hs:r.state=lp.state) (hj:r.pending=lp.pend) :
      ORel P β m (.loop lp) (.loop r)
theorem ORel.mono{P:Program}{β β':Ren}(hb:β.le β'){m:Img}{o:MObj}{o':Obj}(h:ORel P β m o o'):ORel P β' m o o':=by
  cases h with
  |cells he hsz hln hfz hc=>exact .cells he hsz hln hfz fun i v hv=>let ⟨v',h1,h2⟩:=hc i v hv;⟨v',h1,h2.mono hb⟩
  |map hlen he=>exact .map hlen fun i e h=>let ⟨e',h1,h2,h3,h4⟩:=he i e h;⟨e',h1,h2.mono hb,h3.mono hb,h4⟩
  |loop hf hp ha hb' hs hj=>exact .loop (hf.mono hb) hp ha hb' hs hj
structure Rel(P:Program)(β:Ren)(s:St)(w:World):Prop where
  img:∀b m,β b=some m→b<s.next→m.blk<w.heap.size
  obj:∀b m o,β b=some m→b<s.next→s.get b=some o→∃o',w.heap[m.blk]? = some o'∧ORel P β m o o'
  inj:∀b b' m m' o o',β b=some m→β b'=some m'→b<s.next→b'<s.next→s.get b=some o→s.get b'=some o'→m.blk=m'.blk→b=b'
  room:s.next≤281474976710655
  top:∀b,s.next≤b→s.get b=none
structure Ext(P:Program)(β:Ren)(s:St)(w:World)(β':Ren)(s':St)(w':World):Prop where
  rel:Rel P β' s' w'
  le:β.le β'
  dom:∀b m,β' b=some m→β b=none→s.next≤b∧b<s'.next
  next:s.next≤s'.next
  bar:s'.bar=s.bar
  prot:s'.prot=s.prot
  size:w.heap.size≤w'.heap.size
  out:∀r,r<w.heap.size→(∀b m o,β b=some m→b<s.next→s.may b=true→s.get b=some o→m.blk≠r)→w'.heap[r]? = w.heap[r]?
  same:∀b,b<s.next→s.may b=false→s'.get b=s.get b
  dead:∀b,b<s.next→s.get b=none→s'.get b=none
  fresh:∀b m,β' b=some m→β b=none→w.heap.size≤m.blk∨∃b₀ m₀ o₀,β b₀=some m₀∧b₀<s.next∧s.may b₀=true∧s.get b₀=some o₀∧m₀.blk=m.blk
  os:w'.os=w.os
  output:w'.output=w.output
  tape:w'.tape=w.tape
def Free(β:Ren)(s s':St):Prop:=∀b,s.next≤b→b<s'.next→β b=none
theorem St.may_eq{s s':St}(h:s'.bar=s.bar)(h':s'.prot=s.prot)(b:Nat):s'.may b=s.may b:=by simp[St.may,h,h']
theorem Ext.refl{P:Program}{β:Ren}{s:St}{w:World}(h:Rel P β s w):Ext P β s w β s w where
  rel:=h
  le:=Ren.le_refl β
  dom:=fun b m h h'=>by rw[h']at h;cases h
  next:=Nat.le_refl _
  bar:=rfl
  prot:=rfl
  size:=Nat.le_refl _
  out:=fun _ _ _=>rfl
  same:=fun _ _ _=>rfl
  dead:=fun _ _ h=>h
  fresh:=fun b m h h'=>by rw[h']at h;cases h
  os:=rfl
  output:=rfl
  tape:=rfl
theorem Ext.trans{P:Program}{β β₁ β₂:Ren}{s s₁ s₂:St}{w w₁ w₂:World}(h:Ext P β s w β₁ s₁ w₁)(h':Ext P β₁ s₁ w₁ β₂ s₂ w₂)(hfree:Free β s s₂) :
    Ext P β s w β₂ s₂ w₂:=by
  have old:∀b m,β b=some m→b<s₁.next→b<s.next:=fun b m hb hlt=>
    Classical.byContradiction fun hcon=>by
      have:=hfree b O (Nat.lt_of_lt_of_le hlt h'.next)
      rw[this]at hb;cases hb
  have live:∀b o,b<s.next→s₁.get b=some o→∃o',s.get b=some o':=fun b o hb hg=>by
    cases hs:s.get b with
    |none=>rw[h.dead b hb hs]at hg;cases hg
    |some o'=>exact⟨o',rfl⟩
  exact{
    rel:=h'.rel
    le:=Ren.le_trans h.le h'.le
    dom:=fun b m hb hn=>by
      cases h1:β₁ b with
      |none=>have:=h'.dom b m hb h1;have:=h.next;omega
      |some m₁=>have:=h.dom b m₁ h1 hn;have:=h'.next;omega
    next:=Nat.le_trans h.next h'.next
    bar:=h'.bar.trans h.bar
    prot:=h'.prot.trans h.prot
    size:=Nat.le_trans h.size h'.size
    out:=fun r hr hno=>by
      rw[←h.out r hr hno]
      refine h'.out r (Nat.lt_of_lt_of_le hr h.size) fun b m o hb hlt hmay hget heq=>?_
      rw[St.may_eq h.bar h.prot]at hmay
      cases h1:β b with
      |some m₁=>
        have e:=h.le b m₁ h1
        rw[hb]at e;cases e
        have hb':=old b m h1 hlt
        obtain⟨o',ho'⟩:=live b o hb' hget
        exact hno b m o' h1 hb' hmay ho' heq
      |none=>
        rcases h.fresh b m hb h1 with hf|⟨b₀,m₀,o₀,h0,hlt0,hmay0,hg0,he0⟩
        · omega
        · exact hno b₀ m₀ o₀ h0 hlt0 hmay0 hg0 (he0.trans heq)
    same:=fun b hb hm=>by
      rw[h'.same b (Nat.lt_of_lt_of_le hb h.next) (by rw[St.may_eq h.bar h.prot];exact hm),h.same b hb hm]
    dead:=fun b hb hg=>h'.dead b (Nat.lt_of_lt_of_le hb h.next) (h.dead b hb hg)
    fresh:=fun b m hb hn=>by
      cases h1:β₁ b with
      |some m₁=>
        have e:=h'.le b m₁ h1
        rw[hb]at e;cases e
        exact h.fresh b m h1 hn
      |none=>
        rcases h'.fresh b m hb h1 with hf|⟨b₀,m₀,o₀,h0,hlt0,hmay0,hg0,he0⟩
        · exact .inl (Nat.le_trans h.size hf)
        · rw[St.may_eq h.bar h.prot]at hmay0
          cases h2:β b₀ with
          |some m₁=>
            have e:=h.le b₀ m₁ h2
            rw[h0]at e;cases e
            have hb':=old b₀ m₀ h2 hlt0
            obtain⟨o',ho'⟩:=live b₀ o₀ hb' hg0
            exact .inr ⟨b₀,m₀,o',h2,hb',hmay0,ho',he0⟩
          |none=>
            rcases h.fresh b₀ m₀ h0 h2 with hf|⟨b₁,m₁,o₁,h3,hlt3,hmay3,hg3,he3⟩
            · exact .inl O
            · exact .inr ⟨b₁,m₁,o₁,h3,hlt3,hmay3,hg3,he3.trans he0⟩
    os:=h'.os.trans h.os
    output:=h'.output.trans h.output
    tape:=h'.tape.trans h.tape}
theorem runA_next{P:Program}{α:Type}(x:Sem α):∀(s:St),
    (∀a s',wX P x s=.ok a s'→s.next≤s'.next)∧(∀v s',wX P x s=.panic v s'→s.next≤s'.next):=by
  induction x with
  |pure a=>intro s;simp[wX]
  |load m a k ih=>
    intro s
    simp only[wX]
    repeat' split
    all_goals first|exact ih _ _|simp
  |store m a v k ih=>
    intro s
    simp only[wX]
    repeat' split
    all_goals first|exact ih (s.put _ _)|simp
  |new o k ih=>
    intro s
    simp only[wX]
    repeat' split
    all_goals first | (refine ⟨fun a s' h => ?_, fun v s' h => ?_⟩; · have := (ih _ (s.new _)).1 a s' h; simp [St.new] at this; omega
                       · have:=(ih _ (s.new _)).2 v s' h;simp[St.new]at this;omega)|simp
  |shape r k ih=>intro s;simp[wX]
  |freeze a n k ih=>intro s;simp[wX]
  |frozen a k ih=>intro s;simp[wX]
  |getObj r k ih=>
    intro s
    simp only[wX]
    repeat' split
    all_goals first|exact ih _ _|simp
  |setObj r o k ih=>
    intro s
    simp only[wX]
    repeat' split
    all_goals first|exact ih (s.put _ _)|simp
  |choose q k ih=>
    intro s
    simp only[wX]
    repeat' split
    all_goals first|exact ih _ _|simp
  |sys c k ih=>intro s;simp[wX]
  |program k ih=>intro s;simpa[wX]using ih P s
  |mark m k ih=>intro s;simpa[wX]using ih s
  |halt h=>intro s;cases h<;>simp[wX]
end Go.M
namespace Go.M
theorem St.get_put{s:St}{b:Nat}(h:b+1<281474976710656)(o:Option MObj)(b':Nat):(s.put b o).get b'=if b'=b then o else s.get b':=by
 have:(281474976710656:Nat)=2 ^ depth:=by decide
 simp only[St.get,St.put]
 exact Tr.get_put depth s.heap b b' o (by rw[←this];exact h)
theorem St.get_new{s:St}(h:s.next+1<281474976710656)(o:MObj)(b':Nat):(s.new o).get b'=if b'=s.next then some o else s.get b':=by
 have:(281474976710656:Nat)=2 ^ depth:=by decide
 simp only[St.get,St.new]
 exact Tr.get_put depth s.heap s.next b' (some o) (by rw[←this];exact h)
@[simp] theorem St.put_next {s:St} {b:Nat} {o:Option MObj}:(s.put b o).next=s.next:=rfl
@[simp] theorem St.put_bar {s:St} {b:Nat} {o:Option MObj}:(s.put b o).bar=s.bar:=rfl
@[simp] theorem St.put_prot {s:St} {b:Nat} {o:Option MObj}:(s.put b o).prot=s.prot:=rfl
@[simp] theorem St.new_next {s:St} {o:MObj}:(s.new o).next=s.next+1:=rfl
@[simp] theorem St.new_bar {s:St} {o:MObj}:(s.new o).bar=s.bar:=rfl
@[simp] theorem St.new_prot {s:St} {o:MObj}:(s.new o).prot=s.prot:=rfl
section
variable{P:Program}{β:Ren}{s:St}{w:World}
theorem Rel.lt(h:Rel P β s w){b:Nat}{o:MObj}(hg:s.get b=some o):b<s.next:=
 Classical.byContradiction fun hc=>by rw[h.top b O]at hg;cases hg
theorem Ext.write(h:Rel P β s w){b:Nat}{m:Img}(hb:β b=some m)(hmay:s.may b=true){o:MObj}(hg:s.get b=some o)(o₁:MObj){w':World}
  (hsize:w'.heap.size=w.heap.size) (hsame:∀r,r≠m.blk→w'.heap[r]? = w.heap[r]?) (hnew:∃o',w'.heap[m.blk]? = some o'∧ORel P β m o₁ o')
  (hos:w'.os=w.os) (hout:w'.output=w.output) (htape:w'.tape=w.tape):Ext P β s w β (s.put b (some o₁)) w':=by
 have hlt:=h.lt hg
 have hroom:=h.room
 have gp:=fun b'=>St.get_put (s:=s) (b:=b) O (some o₁) b'
 have live:∀b' o',(s.put b (some o₁)).get b'=some o'→∃o'',s.get b'=some o'':=fun b' o' hh=>by
  rw[gp]at hh
  split at hh
  ·rename_i e;subst e;exact⟨o,hg⟩
  ·exact⟨o',hh⟩
 exact{
  rel:={
   img:=fun b' m' hb' hlt'=>by rw[hsize];exact h.img b' m' hb' hlt'
   obj:=fun b' m' o' hb' hlt' hg'=>by
    rw[gp]at hg'
    split at hg'
    ·rename_i e;subst e
     rw[hb]at hb';cases hb';cases hg'
     exact hnew
    ·rename_i ne
     obtain⟨o'',h1,h2⟩:=h.obj b' m' o' hb' hlt' hg'
     refine⟨o'',?_,h2⟩
     rw[hsame m'.blk (fun e=>ne (h.inj b' b m' m o' o hb' hb hlt' hlt hg' hg e))]
     exact h1
   inj:=fun b1 b2 m1 m2 o1 o2 h1 h2 l1 l2 g1 g2 e=>by
    obtain⟨_,g1'⟩:=live _ _ g1
    obtain⟨_,g2'⟩:=live _ _ g2
    exact h.inj b1 b2 m1 m2 _ _ h1 h2 l1 l2 g1' g2' e
   room:=h.room
   top:=fun b' hb'=>by rw[gp,if_neg (by simp at hb';omega)];exact h.top b' hb'}
  le:=Ren.le_refl β
  dom:=fun b' m' h1 h2=>by rw[h2]at h1;cases h1
  next:=Nat.le_refl _
  bar:=rfl
  prot:=rfl
  size:=by omega
  out:=fun r hr hno=>hsame r (fun e=>hno b m o hb hlt hmay hg e.symm)
  same:=fun b' hb' hm=>by rw[gp,if_neg (fun e=>by rw[e,hmay]at hm;cases hm)]
  dead:=fun b' hb' hd=>by rw[gp,if_neg (fun e=>by rw[e,hg]at hd;cases hd)];exact hd
  fresh:=fun b' m' h1 h2=>by rw[h2]at h1;cases h1
  os:=hos
  output:=hout
  tape:=htape}
def Ren.add(β:Ren)(b:Nat)(m:Img):Ren:=fun x=>if x=b then some m else β x
theorem Ren.le_add{β:Ren}{b:Nat}{m:Img}(h:β b=none):β.le (β.add b m):=fun x n hx=>by
 unfold Ren.add
 split
 ·rename_i e;subst e;rw[h]at hx;cases hx
 ·exact hx
theorem Ren.add_self{β:Ren}{b:Nat}{m:Img}:β.add b m b=some m:=by simp[Ren.add]
theorem Ext.new(h:Rel P β s w)(hroom:s.next<281474976710655)(hn:β s.next=none){o₁:MObj}{o':Obj}{m:Img}(hm:m.blk=w.heap.size)(ho:ORel P β m o₁ o') :
  Ext P β s w (β.add s.next m) (s.new o₁) {w with heap:=w.heap.push o'}:=by
 have gp:=fun b'=>St.get_new (s:=s) O o₁ b'
 have hle:β.le (β.add s.next m):=Ren.le_add hn
 have at_:∀b m',β.add s.next m b=some m'→b≠s.next→β b=some m':=fun b m' hh ne=>by
  simpa[Ren.add,ne]using hh
 exact{
  rel:={
   img:=fun b m' hb hlt=>by
    simp only[Array.size_push]
    by_cases e:b=s.next
    ·subst e;rw[Ren.add_self]at hb;cases hb;omega
    ·have:=h.img b m' (at_ b m' hb e) (by simp at hlt;omega);omega
   obj:=fun b m' o hb hlt hg=>by
    rw[gp]at hg
    by_cases e:b=s.next
    ·subst e
     rw[if_pos rfl]at hg;cases hg
     rw[Ren.add_self]at hb;cases hb
     exact⟨o',by simp[hm],ho.mono hle⟩
    ·rw[if_neg e]at hg
     have hb':=at_ b m' hb e
     have hlt':b<s.next:=by simp at hlt;omega
     obtain⟨o'',h1,h2⟩:=h.obj b m' o hb' hlt' hg
     have:=h.img b m' hb' hlt'
     exact⟨o'',by simp only[Array.getElem?_push];rw[if_neg O];exact h1,h2.mono hle⟩
   inj:=fun b1 b2 m1 m2 o1 o2 h1 h2 l1 l2 g1 g2 e=>by
    rw[gp]at g1 g2
    by_cases e1:b1=s.next
    ·by_cases e2:b2=s.next
     ·omega
     ·subst e1;rw[Ren.add_self]at h1;cases h1
      have:=h.img b2 m2 (at_ b2 m2 h2 e2) (by simp at l2;omega)
      omega
    ·by_cases e2:b2=s.next
     ·subst e2;rw[Ren.add_self]at h2;cases h2
      have:=h.img b1 m1 (at_ b1 m1 h1 e1) (by simp at l1;omega)
      omega
     ·rw[if_neg e1]at g1;rw[if_neg e2]at g2
      exact h.inj b1 b2 m1 m2 o1 o2 (at_ _ _ h1 e1) (at_ _ _ h2 e2) (by simp at l1;omega) (by simp at l2;omega) g1 g2 e
   room:=by simp;omega
   top:=fun b hb=>by simp at hb;rw[gp,if_neg O];exact h.top b O}
  le:=hle
  dom:=fun b m' h1 h2=>by
   by_cases e:b=s.next
   ·subst e;simp
   ·rw[at_ b m' h1 e]at h2;cases h2
  next:=by simp
  bar:=rfl
  prot:=rfl
  size:=by simp
  out:=fun r hr _=>by simp only[Array.getElem?_push];rw[if_neg O]
  same:=fun b hb _=>by rw[gp,if_neg O]
  dead:=fun b hb hd=>by rw[gp,if_neg O];exact hd
  fresh:=fun b m' h1 h2=>by
   by_cases e:b=s.next
   ·subst e;rw[Ren.add_self]at h1;cases h1;exact .inl O
   ·rw[at_ b m' h1 e]at h2;cases h2
  os:=rfl
  output:=rfl
  tape:=rfl}
end
section
variable{P:Program}{β:Ren}{α α' γ γ':Type}
end
end Go.M
namespace Go.M
def roundT(r:Loop)(args:Array Value):Array Value:=(r.params.zip args).foldl (fun tmps (t,a)=>tmps.setIfInBounds t a) r.tmps
def NRel(P:Program)(β:Ren)(w:World)(n n':Next):Prop:=
 match n with
 | .value v=>∃v',n'=.value v'∧VRel P β v v'
 | .skip=>n'=.skip
 | .enter f args=>∃args',n'=.enter f args'∧LRel P β args.toList args'.toList
 | .round b _ args _ _=>∃m r args',β b=some m∧w.heap[m.blk]? = some (.loop r)∧n'=.round m.blk r.fn (roundT r args') r.assign r.body∧LRel P β args.toList args'.toList
 |_=>False
def OpS(P:Program)(β:Ren)(s:St)(w:World)(r:Res Next)(r':Result Next):Prop:=
 match r with
 | .ok n s'=>Free β s s'→∃β' w' n',r'=.ok n' w'∧Ext P β s w β' s' w'∧NRel P β' w' n n'
 | .panic v s'=>Free β s s'→∃β' w' v',r'=.halt (.panic v') w'∧Ext P β s w β' s' w'∧VRel P β' v v'
 | .stuck=>True
def xY(x:Sem Value):Sem Next:=x >>= fun a=>pure (.value a)
section
variable{P:Program}{β:Ren}{s:St}{w:World}
theorem qd{x:Sem Value}{v:Value}{w':World}(h:x.run P w=.ok v w'):(xY x).run P w=.ok (.value v) w':=by
 simp[xY,h]
theorem OpS.value(h:Rel P β s w){v v':Value}(hv:VRel P β v v'){r':Result Next}(hr:r'=.ok (.value v') w):OpS P β s w (okV v s) r':=
 fun _=>⟨β,w,.value v',hr,Ext.refl h,v',rfl,hv⟩
theorem OpS.stuck{r':Result Next}:OpS P β s w .stuck r':=trivial
theorem kV{t:TypeId}{i:TypeInfo}(h:P.info? t=some i)(w:World):(typeInfo t).run P w=.ok i w:=by
 simp[typeInfo,h]
theorem qx{t:TypeId}{i:TypeInfo}(h:P.info? t=some i)(w:World):(sizeOf t).run P w=.ok i.size w:=by
 simp[sizeOf,kV h]
theorem qS{t:TypeId}{i:TypeInfo}{z:Value}(h:P.info? t=some i)(hz:i.zero=some z)(w:World):(zeroValue t).run P w=.ok z w:=by
 simp[zeroValue,kV h,hz]
theorem shapeOf_one{t:TypeId}(h:qw P t=some none)(w:World):(isAgg t).run P w=.ok false w:=by
 unfold qw at h
 split at h<;>simp at h
 rename_i d i n1 n2 hu hi
 simp only[isAgg,Sem.run_bind,run_underlying hu,Result.andThen_ok]
 cases d<;>first|rfl|(exact(n1 _ rfl).elim)|(exact(n2 _ _ rfl).elim)
theorem shapeOf_many{t:TypeId}{n:Nat}(h:qw P t=some (some n))(w:World):(isAgg t).run P w=.ok true w∧(sizeOf t).run P w=.ok n w:=by
 unfold qw at h
 split at h<;>simp at h
 ·rename_i fs i hu hi
  exact⟨by simp[isAgg,run_underlying hu],by rw[qx hi,h]⟩
 ·rename_i k e i hu hi
  exact⟨by simp[isAgg,run_underlying hu],by rw[qx hi,h]⟩
theorem wP(b off i:Nat):(⟨b,off,none⟩:Addr).add i=⟨b,off+i,none⟩:=by
 unfold Addr.add;split<;>simp_all
theorem Rel.row(h:Rel P β s w){b:Nat}{m:Img}{c:List Value}{e:TypeId}(hb:β b=some m)(hg:s.get b=some (.cells c e)) :
  e=m.elem∧∃c' e' fz,w.heap[m.blk]? = some (.cells c' e' fz)∧m.size≤c'.size∧((c.length=0∨c.length+m.sh≤m.size)∧∀i,m.sh≤i→i<m.size→¬(fz.1≤i∧i<fz.2)) ∧
   ∀(i:Nat) (v:Value),c[i]? = some v→∃v',c'[i+m.sh]? = some v'∧VRel P β v v':=by
 obtain⟨o',ho',hor⟩:=h.obj b m _ hb (h.lt hg) hg
 cases hor with
 |cells he hsz hln hfz hc=>exact⟨he,_,_,_,ho',hsz,⟨hln,hfz⟩,hc⟩
theorem row_list{c:List Value}{c':Array Value}{sh:Nat}(hc:∀(i:Nat) (v:Value),c[i]? = some v→∃v',c'[i+sh]? = some v'∧VRel P β v v')
  (off n:Nat) (hn:off+n≤c.length):∃l',LRel P β ((c.drop off).take n) l'∧l'.length=n∧∀j v,l'[j]? = some v→c'[off+j+sh]? = some v:=by
 induction n with
 |zero=>exact⟨[],by simp;exact .nil,rfl,by simp⟩
 |succ n ih=>
  obtain⟨l',h1,h2,h3⟩:=ih O
  have hlt:off+n<c.length:=by omega
  obtain⟨v',hv',hr⟩:=hc (off+n) c[off+n] (by simp[hlt])
  refine⟨l'++[v'],?_,by simp[h2],?_⟩
  ·have e:(c.drop off).take (n+1)=(c.drop off).take n++[c[off+n]]:=by
    rw[List.take_succ_eq_append_getElem (by simp;omega)]
    simp
   rw[e]
   exact h1.append (.cons hr .nil)
  ·intro j v hj
   rw[List.getElem?_append]at hj
   split at hj
   ·exact h3 j v hj
   ·rename_i hge
    have:j=n:=by
     by_cases hjn:j-l'.length=0
     ·omega
     ·obtain⟨q,hq⟩:∃q,j-l'.length=q+1:=⟨j-l'.length-1,by omega⟩
      rw[hq]at hj;simp at hj
    subst this
    simp[h2]at hj
    subst hj
    exact hv'
theorem ji(h:Rel P β s w){b off n:Nat}{m:Img}{c:List Value}{e:TypeId}(hb:β b=some m)(hg:s.get b=some (.cells c e)){l:List Value}
  (hl:qX n (kw off c)=some l):∃l',(loadCells ⟨m.blk,off+m.sh,none⟩ n).run P w=.ok ⟨l'⟩ w∧LRel P β l l':=by
 obtain⟨_,c',e',fz,ho,hsz,hfz,hc⟩:=h.row hb hg
 rw[vE,vN]at hl
 split at hl
 ·rename_i hn
  cases hl
  by_cases hz:n=0
  ·subst hz
   exact⟨[],by simp[loadCells,loadCellsFrom],by simp;exact .nil⟩
  obtain⟨l',h1,h2,h3⟩:=row_list hc off n (by simp at hn;omega)
  refine⟨l',?_,h1⟩
  have:=run_loadCells_list (P:=P) w ⟨m.blk,off+m.sh,none⟩ l' (fun j v hj=>by
   rw[wP]
   have:=h3 j v hj
   simp only[World.cell?,ho]
   rw[show off+m.sh+j=off+j+m.sh by omega]
   simpa using this)
  rw[h2]at this
  exact this
 ·cases hl
theorem loadVar_sound(h:Rel P β s w){b off:Nat}{m:Img}{c:List Value}{e t:TypeId}(hb:β b=some m)(hg:s.get b=some (.cells c e)){v:Value}
  (hv:cutL (qw P t) off c=some v):∃v',(loadVar t ⟨m.blk,off+m.sh,none⟩).run P w=.ok v' w∧VRel P β v v':=by
 unfold cutL at hv
 split at hv
 ·rename_i hs
  obtain⟨_,c',e',fz,ho,hsz,hfz,hc⟩:=h.row hb hg
  rw[qR]at hv
  obtain⟨v',hv',hr⟩:=hc off v hv
  refine⟨v',?_,hr⟩
  have hc':w.cell? ⟨m.blk,off+m.sh,none⟩=some v':=by simp[World.cell?,ho,hv']
  simp[loadVar,shapeOf_one hs,hc']
 ·rename_i n hs
  split at hv
  ·rename_i l hl
   cases hv
   obtain⟨l',h1,h2⟩:=ji h hb hg hl
   exact⟨.agg ⟨l'⟩,by simp[loadVar,shapeOf_many hs,h1],.agg h2⟩
  ·cases hv
 ·cases hv
theorem loadV_sound(h:Rel P β s w){t:TypeId}{x x' v:Value}(hx:VRel P β x x')(hv:loadV P t x s=some v) :
  ∃a v',x'=.pointer (some a)∧(loadVar t a).run P w=.ok v' w∧VRel P β v v':=by
 unfold loadV at hv
 split at hv
 ·rename_i b off
  cases hx with
  |ptr hb=>
   split at hv
   ·rename_i c e hg
    obtain⟨v',h1,h2⟩:=loadVar_sound h hb hg hv
    exact⟨_,v',rfl,h1,h2⟩
   ·cases hv
 ·cases hv
theorem load_sound(h:Rel P β s w){t:TypeId}{x x':Value}(hx:VRel P β x x'):OpS P β s w (loadM P t x s) ((xY (Instr.loadAt t x')).run P w):=by
 unfold loadM
 split
 ·rename_i v hv
  obtain⟨a,v',rfl,h1,h2⟩:=loadV_sound h hx hv
  exact .value h h2 (qd (by simp[Instr.loadAt,Instr.sureAddr,h1]))
 ·exact .stuck
theorem VRel.cells{v v':Value}(h:VRel P β v v'):LRel P β (qM v) v'.cells.toList:=by
 cases h with
 |agg hl=>exact hl
 |_=>exact .cons (by constructor<;>assumption) .nil
theorem VRel.oneCell{v v':Value}(h:VRel P β v v'):v'.oneCell'=plainCell v:=by
 cases h<;>rfl
theorem LRel.oneCell{l l':List Value}(h:LRel P β l l')(ha:l.all plainCell=true):∀v∈l',v.oneCell'=true:=by
 induction l generalizing l' with
 |nil=>cases h;simp
 |cons x l ih=>
  cases h with
  |cons h hl=>
   simp only[List.all_cons,Bool.and_eq_true]at ha
   intro v hv
   simp only[List.mem_cons]at hv
   rcases hv with rfl|hv
   ·rw[h.oneCell];exact ha.1
   ·exact ih hl ha.2 v hv
theorem setCells_heap(b:Nat):∀(vs:List Value) (o:Nat) (w:World) (c:Array Value) (e:TypeId) (fz:Nat×Nat),w.heap[b]? = some (.cells c e fz)→o+vs.length≤c.size →
  ∃c',(w.setCells b o vs).heap[b]? = some (.cells c' e fz)∧c'.size=c.size∧(∀i,i<o∨o+vs.length≤i→c'[i]? = c[i]?)∧(∀(j:Nat) (v:Value),vs[j]? = some v→c'[o+j]? = some v)
 | [],o,w,c,e,fz,h,_=>⟨c,h,rfl,fun _ _=>rfl,by simp⟩
 |v::r,o,w,c,e,fz,h,hl=>by
  have h1:(w.setCell ⟨b,o,none⟩ v).heap[b]? = some (.cells (c.setIfInBounds o v) e fz):=by simp[World.setCell,Array.getElem?_modify,h]
  obtain⟨c',g1,g2,g3,g4⟩:=setCells_heap b r (o+1) (w.setCell ⟨b,o,none⟩ v) _ e fz h1 (by simp at hl ⊢;omega)
  refine⟨c',g1,by simpa using g2,fun i hi=>?_,fun j x hj=>?_⟩
  ·rw[g3 i (by simp at hi;omega),Array.getElem?_setIfInBounds_ne (by simp at hi;omega)]
  ·cases j with
   |zero=>
    simp at hj;subst hj
    rw[Nat.add_zero,g3 o O]
    simp only[List.length_cons]at hl
    rw[Array.getElem?_setIfInBounds_self_of_lt O]
   |succ j=>
    have:=g4 j x (by simpa using hj)
    rw[show o+(j+1)=o+1+j by omega];exact this
theorem setCells_other(b:Nat):∀(vs:List Value) (o:Nat) (w:World),(w.setCells b o vs).heap.size=w.heap.size∧(∀r,r≠b→(w.setCells b o vs).heap[r]? = w.heap[r]?) ∧
  (w.setCells b o vs).os=w.os∧(w.setCells b o vs).output=w.output∧(w.setCells b o vs).tape=w.tape
 | [],_,_=>⟨rfl,fun _ _=>rfl,rfl,rfl,rfl⟩
 |v::r,o,w=>by
  obtain⟨h1,h2,h3,h4,h5⟩:=setCells_other b r (o+1) (w.setCell ⟨b,o,none⟩ v)
  refine⟨by simpa[World.setCells,World.setCell]using h1,fun q hq=>?_,h3,h4,h5⟩
  have:=h2 q hq
  simpa[World.setCells,World.setCell,Array.getElem?_modify,Ne.symm hq]using this
theorem kc(h:Rel P β s w){b off:Nat}{m:Img}{vs vs':List Value}(hb:β b=some m)(hvs:LRel P β vs vs'){s':St}{n:Next}
  (hst:kZ b off vs s=.ok n s'):n=.skip∧∃w',(storeCells ⟨m.blk,off+m.sh,none⟩ vs').run P w=.ok () w'∧Ext P β s w β s' w':=by
 unfold kZ at hst
 split at hst
 ·rename_i c e hg
  split at hst
  ·rename_i c₁ hmay hp
   cases hst
   simp only[Bool.and_eq_true]at hmay
   obtain⟨he,c',e',fz,ho,hsz,hfz,hc⟩:=h.row hb hg
   obtain⟨hlen,rfl⟩:=lput_spec _ _ _ _ hp
   have hl':=hvs.length
   have hin:vs.length=0∨off+m.sh+vs.length≤c'.size:=by
    cases hvl:vs.length with
    |zero=>exact .inl rfl
    |succ q=>
     right
     have hlt:off+q<c.length:=by omega
     obtain⟨v',hv',_⟩:=hc (off+q) c[off+q] (by simp[hlt])
     rcases Nat.lt_or_ge (off+q+m.sh) c'.size with hh|hh
     ·omega
     ·rw[Array.getElem?_eq_none hh]at hv';cases hv'
   rcases hin with hz|hin
   ·have e0:vs=[]:=List.length_eq_zero_iff.1 hz
    subst e0
    cases hvs
    refine⟨rfl,w,rfl,?_⟩
    refine Ext.write h hb hmay.2 hg _ rfl (fun _ _=>rfl) ⟨_,ho,?_⟩ rfl rfl rfl
    refine .cells he hsz (by simpa using hfz.1) hfz.2 ?_
    simpa using hc
   have hrun:=run_storeCells_cells (P:=P) m.blk (off+m.sh) vs' 0 w (fun j hj=>by
     simp only[World.cell?,ho,Nat.add_zero]
     have:off+m.sh+j<c'.size:=by omega
     simp[this])
    (fun j hj=>by
     simp only[World.frozen?,ho,Nat.add_zero]
     have h1:=hfz.2 (off+m.sh+j) O (by have:=hfz.1;omega)
     simp only[Bool.and_eq_false_iff,decide_eq_false_iff_not]
     by_cases h2:fz.1≤off+m.sh+j
     ·exact .inr fun h3=>h1 ⟨h2,h3⟩
     ·exact .inl h2)
    (hvs.oneCell hmay.1)
   rw[Nat.add_zero]at hrun
   obtain⟨c₂,g1,g2,g3,g4⟩:=setCells_heap m.blk vs' (off+m.sh) w c' e' fz ho O
   obtain⟨k1,k2,k3,k4,k5⟩:=setCells_other m.blk vs' (off+m.sh) w
   refine⟨rfl,_,hrun,Ext.write h hb hmay.2 hg _ k1 k2 ⟨_,g1,?_⟩ k3 k4 k5⟩
   refine .cells he O (by have:=hfz.1;simp only[List.length_append,List.length_take,List.length_drop];omega) hfz.2 fun i v hv=>?_
   rw[List.append_assoc,List.getElem?_append]at hv
   split at hv
   ·rename_i hlt
    simp only[List.length_take]at hlt
    rw[List.getElem?_take_of_lt O]at hv
    obtain⟨v',hv',hr⟩:=hc i v hv
    exact⟨v',by rw[g3 _ O];exact hv',hr⟩
   ·rename_i hge
    simp only[List.length_take]at hge hv
    rw[List.getElem?_append]at hv
    split at hv
    ·obtain⟨v',hv',hr⟩:=hvs.get hv
     refine⟨v',?_,hr⟩
     have:=g4 _ v' hv'
     rw[show i+m.sh=off+m.sh+(i-min off c.length)by omega]
     exact this
    ·rename_i hge2
     rw[List.getElem?_drop]at hv
     obtain⟨v',hv',hr⟩:=hc i v (by rw[←hv];congr 1;omega)
     exact⟨v',by rw[g3 _ O];exact hv',hr⟩
  ·split at hst
   ·cases hst
    cases hvs
    exact⟨rfl,w,rfl,Ext.refl h⟩
   ·cases hst
 ·cases hst
theorem store_sound(h:Rel P β s w){t:TypeId}{x x' v v':Value}(hx:VRel P β x x')(hv:VRel P β v v') :
  OpS P β s w (storeM P t x v s) ((Instr.storeAt t x' v' >>= fun _=>pure Next.skip).run P w):=by
 unfold storeM
 split
 ·rename_i b off i hi
  split
  ·rename_i hsz
   cases hx with
   |ptr hb=>
    cases hst:kZ b off (qM v) s with
    |stuck=>exact .stuck
    |panic u s'=>
     exfalso
     unfold kZ at hst
     repeat' split at hst
     all_goals cases hst
    |ok n s'=>
     intro _
     obtain⟨rfl,w',h1,h2⟩:=kc h hb hv.cells hst
     refine⟨β,w',.skip,?_,h2,rfl⟩
     have hlen:v'.cells.size=i.size:=by
      have:=hv.cells.length
      rw[Array.length_toList]at this
      rw[this]
      have e:=Nat.eq_of_beq_eq_true hsz
      rw[vB]at e
      omega
     simp[Instr.storeAt,Instr.sureAddr,storeVar,qx hi,hlen,h1]
  ·exact .stuck
 ·exact .stuck
end
end Go.M
namespace Go.M
section
variable{P:Program}{β:Ren}{s:St}{w:World}
theorem room_lt(h:s.room=true):s.next<281474976710655:=by
 simpa[St.room,Nat.blt_eq]using h
theorem Ext.row(h:Rel P β s w)(hroom:s.room=true)(hn:β s.next=none){c:List Value}{c':Array Value}(e:TypeId)(fz:Nat×Nat)
  (hfz:∀i,i<c'.size→¬(fz.1≤i∧i<fz.2)) (hc:∀(i:Nat) (v:Value),c[i]? = some v→∃v',c'[i]? = some v'∧VRel P β v v') :
  Ext P β s w (β.add s.next ⟨w.heap.size,0,c'.size,e⟩) (s.new (.cells c e)) {w with heap:=w.heap.push (.cells c' e fz)}:=
 Ext.new h (room_lt hroom) hn rfl (.cells rfl Z3 (by
  cases hn:c.length with
  |zero=>exact .inl rfl
  |succ q=>
   right
   obtain⟨v',h1,_⟩:=hc q c[q] (by simp[hn])
   rcases Nat.lt_or_ge q c'.size with hh|hh
   ·simp only;omega
   ·rw[Array.getElem?_eq_none hh]at h1;cases h1) (fun i _ hi=>hfz i hi) hc)
theorem free_new{o:MObj}(hf:Free β s (s.new o)):β s.next=none:=hf s.next Z3 Y8
theorem box_sound(h:Rel P β s w){e:TypeId}{c:List Value}{x':Value}(hx:LRel P β c x'.cells.toList) :
  OpS P β s w (boxM e c s) ((xY (Instr.box e x')).run P w):=by
 unfold boxM
 split
 ·rename_i hroom
  intro hf
  have hn:=free_new hf
  refine⟨_,_,.value (.pointer (some ⟨w.heap.size,0,none⟩)),?_,Ext.row h hroom hn e (0,0) Y8 (c':=x'.cells) (fun i v hv=>?_),_,rfl,?_⟩
  ·simp[xY,Instr.box,newVar,newRow]
  ·obtain⟨v',h1,h2⟩:=hx.get hv
   exact⟨v',by simpa using h1,h2⟩
  ·exact VRel.ptr (m:=⟨w.heap.size,0,x'.cells.size,e⟩) Ren.add_self
 ·exact .stuck
theorem plain1_rel{v:Value}(h:wG v=true):VRel P β v v:=by
 cases v with
 |pointer a=>cases a with
  |none=>exact .pnil
  |some a=>simp[wG]at h
 |map r=>cases r with
  |none=>exact .mnil
  |some r=>simp[wG]at h
 |slice a l c=>
  cases a with
  |some a=>simp[wG]at h
  |none=>
   cases l with
   |succ l=>simp[wG]at h
   |zero=>cases c with
    |succ c=>simp[wG]at h
    |zero=>exact .snil
 |bool b=>exact .bool b
 |int k n=>exact .int k n
 |float k n=>exact .float k n
 |complex k a b=>exact .complex k a b
 |string t=>exact .string t
 |nilFunc=>exact .nilFunc
 |nilIface=>exact .nilIface
 |_=>simp[wG]at h
theorem wF{l:List Value}(h:l.all wG=true):LRel P β l l:=by
 induction l with
 |nil=>exact .nil
 |cons v l ih=>simp only[List.all_cons,Bool.and_eq_true]at h;exact .cons (plain1_rel h.1) (ih h.2)
theorem plainZ_rel{v:Value}(h:plainZ v=true):VRel P β v v:=by
 unfold plainZ at h
 cases v with
 |agg cs=>exact .agg (wF h)
 |_=>exact plain1_rel (by simpa[qM]using h)
theorem cellsL_eq(v:Value):v.cells.toList=qM v:=by cases v<;>rfl
theorem alloc_sound(h:Rel P β s w){e:TypeId}:OpS P β s w (guarded (zeroB P e) (allocM P e s)) ((xY (Instr.alloc e true (.tuple #[]))).run P w):=by
 unfold guarded
 split
 ·rename_i hz
  unfold allocM
  split
  ·rename_i i hi
   split
   ·rename_i z hz'
    have hpl:plainZ z=true:=by simpa[zeroB,hi,hz']using hz
    have:=box_sound (P:=P) (β:=β) (s:=s) (w:=w) h (e:=e) (c:=qM z) (x':=z) (by rw[cellsL_eq];exact wF hpl)
    simpa[xY,Instr.box,Instr.alloc,qS hi hz']using this
   ·exact .stuck
  ·exact .stuck
 ·exact .stuck
theorem field_sound(h:Rel P β s w){t:TypeId}{x x':Value}{f:Nat}(hx:VRel P β x x'):OpS P β s w (fieldM P t x f s) ((xY (Instr.fieldAt t x' f)).run P w):=by
 unfold fieldM
 split
 ·rename_i b off n hoff
  cases hx with
  | @ptr _ _ m hb=>
   unfold wZ at hoff
   split at hoff
   ·rename_i fields hu
    split at hoff
    ·rename_i fd hfd
     rw[qR]at hfd
     split at hoff
     ·rename_i i hi
      split at hoff
      ·cases hoff
      ·rename_i k hk
       cases hoff
       refine .value h (v':=.pointer (some ⟨m.blk,(off+fd.offset)+m.sh,none⟩)) (.ptr hb) ?_
       have hf':fields[f]? = some fd:=by simpa using hfd
       have e1:off+m.sh+fd.offset=off+fd.offset+m.sh:=by omega
       simp[xY,Instr.fieldAt,run_underlying hu,hf',Instr.sureAddr,fieldPlace,qx hi,hk,wP,e1]
     ·cases hoff
    ·cases hoff
   ·cases hoff
 ·exact .stuck
theorem indexAt_sound(h:Rel P β s w){n len b off sz:Nat}{m:Img}(hb:β b=some m){r':Result Next}
  (hr:n<len→r'=.ok (.value (.pointer (some ⟨m.blk,off+n*sz+m.sh,none⟩))) w):OpS P β s w (vO n len b off sz s) r':=by
 unfold vO
 split
 ·rename_i hlt
  exact .value h (.ptr hb) (hr (by simpa[Nat.blt_eq]using hlt))
 ·exact .stuck
theorem index_sound(h:Rel P β s w){t:TypeId}{x x' i i':Value}(hx:VRel P β x x')(hi:VRel P β i i') :
  OpS P β s w (indexM P t x i s) ((xY (Instr.indexAt t x' i')).run P w):=by
 unfold indexM
 split
 ·rename_i k n
  cases hi with
  |int=>
  split
  ·rename_i q sz b off len cap hel
   unfold elemF at hel
   split at hel
   ·rename_i e hu
    split at hel
    ·rename_i inf hinf
     simp at hel
     obtain⟨_,rfl⟩:=hel
     have key:∀(m:Img) (cap':Nat),n<len→(xY (Instr.indexAt t (.slice (some ⟨m.blk,off+m.sh,none⟩) len cap') (.int k (Int.ofNat n)))).run P w=.ok (.value (.pointer (some ⟨m.blk,off+n*inf.size+m.sh,none⟩))) w:=by
      intro m cap' hlt
      have e1:off+m.sh+n*inf.size=off+n*inf.size+m.sh:=by omega
      simp[xY,Instr.indexAt,asIntOf,run_underlying hu,qx hinf,wP,e1]
      intro hh;omega
     cases hx with
     |sknown hb=>exact indexAt_sound h hb (key _ _)
     |sgrown hb _ _=>exact indexAt_sound h hb (key _ _)
     |sempty hb _=>unfold vO;simp;exact .stuck
     |szero hb=>unfold vO;simp;exact .stuck
    ·cases hel
   ·rename_i k' e hu
    split at hel<;>simp at hel
   ·cases hel
  ·rename_i len sz b off hel
   unfold elemF at hel
   split at hel
   ·rename_i e hu
    split at hel<;>simp at hel
   ·rename_i k' e hu
    split at hel
    ·rename_i inf hinf
     simp at hel
     obtain⟨rfl,rfl⟩:=hel
     cases hx with
     | @ptr _ _ m hb=>
      refine indexAt_sound h hb fun hlt=>?_
      have e1:off+m.sh+n*inf.size=off+n*inf.size+m.sh:=by omega
      simp[xY,Instr.indexAt,asIntOf,run_underlying hu,Instr.sureAddr,qx hinf,wP,e1]
      intro hh;omega
    ·cases hel
   ·cases hel
  ·exact .stuck
 ·exact .stuck
inductive Scalar:Sem Value→Prop where
 |val {v:Value} (h:wG v=true):Scalar (.pure v)
 |err (m:String):Scalar (runtimePanic (.error m))
 |stuck (m:String):Scalar (Go.stuck m)
 |unsupported (u:Unsupported):Scalar (Go.unsupported u)
theorem Scalar.sound(h:Rel P β s w){x:Sem Value}(hx:Scalar x):OpS P β s w ((wX P x s).map .value) ((xY x).run P w):=by
 cases hx with
 |val hv=>exact .value h (plain1_rel hv) rfl
 |err m=>
  intro _
  exact⟨β,w,_,rfl,Ext.refl h,.iface (.string _)⟩
 |stuck m=>exact .stuck
 |unsupported u=>exact .stuck
theorem scalar_int(op:BinOp)(t:TypeId)(k k':IntKind)(a b:Int):Scalar (binOp op t (.int k a) (.int k' b)):=by
 by_cases hk:k=k'
 ·subst hk
  cases op<;>simp only[binOp,Op.shift,Op.intArith,Op.intDiv,Op.intBits,Op.intCmp,ne_eq,not_true_eq_false,if_false]<;>(repeat' split) <;>
   first|exact .val rfl|exact .err _
 ·cases op<;>simp only[binOp,Op.shift,Op.intArith,Op.intDiv,Op.intBits,Op.intCmp,ne_eq,hk,not_false_eq_true,if_true]<;>(repeat' split) <;>
   first|exact .val rfl|exact .err _|exact .stuck _
theorem scalar_string(op:BinOp)(t:TypeId)(a b:ByteArray):Scalar (binOp op t (.string a) (.string b)):=by
 cases op<;>simp only[binOp,Op.stringOp]<;>(repeat' split)<;>first|exact .val rfl|exact .stuck _|exact .unsupported _
theorem scalar_unary(op:UnOp)(k:IntKind)(n:Int):Scalar (Op.unary op (.int k n)):=by
 cases op<;>simp only[Op.unary,Op.intArith,Op.intBits]<;>first|exact .val rfl|exact .stuck _
theorem wrap_of_in{n:Int}(h:inI64 n=true):IntKind.i64.wrap n=n:=by
 apply IntWalk.i64_in
 cases n with
 |ofNat a=>simp only[inI64,Nat.ble_eq]at h;simp only[Int.ofNat_eq_natCast];omega
 |negSucc a=>simp only[inI64,Nat.ble_eq]at h;simp only[Int.negSucc_eq];omega
theorem ile_eq(a b:Int):ile a b=decide (a≤b):=by
 cases a with
 |ofNat a=>cases b with
  |ofNat b=>simp only[ile];rw[Bool.eq_iff_iff];simp
  |negSucc b=>simp only[ile];rw[eq_comm,decide_eq_false_iff_not,Int.ofNat_eq_natCast,Int.negSucc_eq];omega
 |negSucc a=>cases b with
  |ofNat b=>simp only[ile];rw[eq_comm,decide_eq_true_eq,Int.ofNat_eq_natCast,Int.negSucc_eq];omega
  |negSucc b=>simp only[ile];rw[Bool.eq_iff_iff,Nat.ble_eq,decide_eq_true_eq,Int.negSucc_eq,Int.negSucc_eq];omega
theorem ieq_eq(a b:Int):ieq a b=(a==b):=by
 cases a with
 |ofNat a=>cases b with
  |ofNat b=>simp only[ieq];rw[Bool.eq_iff_iff,Nat.beq_eq,beq_iff_eq,Int.ofNat_eq_natCast,Int.ofNat_eq_natCast];omega
  |negSucc b=>simp only[ieq];rfl
 |negSucc a=>cases b with
  |ofNat b=>simp only[ieq];rfl
  |negSucc b=>simp only[ieq];rw[Bool.eq_iff_iff,Nat.beq_eq,beq_iff_eq,Int.negSucc_inj]
theorem fits_eq{n:Int}{v:Value}(h:fits n=some v):v=.int .i64 (IntKind.i64.wrap n):=by
 unfold fits at h
 split at h
 ·rename_i hn;cases h;rw[wrap_of_in hn]
 ·cases h
theorem int64F_sound{op:BinOp}{a b:Int}{v:Value}(h:vG op a b=some v)(t:TypeId):binOp op t (.int .i64 a) (.int .i64 b)=.pure v∧wG v=true:=by
 cases op<;>simp only[vG,Option.some.injEq,reduceCtorEq]at h<;>simp only[binOp,Op.intArith,Op.intCmp,ne_eq,not_true_eq_false,if_false]
 case add=>rw[fits_eq h];exact⟨rfl,rfl⟩
 case sub=>rw[fits_eq h];exact⟨rfl,rfl⟩
 case mul=>rw[fits_eq h];exact⟨rfl,rfl⟩
 all_goals
  subst h
  refine⟨?_,rfl⟩
  simp only[ile_eq,ieq_eq,Pure.pure,Sem.pure.injEq,Value.bool.injEq] <;>
   first
    |rfl
    |(rw[Bool.eq_iff_iff];simp only[Bool.not_eq_true',decide_eq_false_iff_not,decide_eq_true_eq];omega)
theorem int_sound(h:Rel P β s w)(op:BinOp)(t:TypeId)(k k':IntKind)(a b:Int) :
  OpS P β s w (jf P op t k k' a b s) ((xY (binOp op t (.int k a) (.int k' b))).run P w):=by
 unfold jf
 split
 ·split
  ·rename_i v hv
   obtain⟨h1,h2⟩:=int64F_sound hv t
   exact .value h (plain1_rel h2) (by rw[h1];rfl)
  ·exact(scalar_int op t _ _ a b).sound h
 ·exact(scalar_int op t _ _ a b).sound h
theorem run_eqGuard'{op:BinOp}{t:TypeId}{x y:Operand}{a b:Value}(h1:a≠.nilIface)(h2:∀cs,a≠.agg cs)(w:World):(eqGuard op t x y a b).run P w=.ok () w:=by
 unfold eqGuard
 cases op<;>cases a<;>first|rfl|(exact(h1 rfl).elim)|(exact(h2 _ rfl).elim)
def eqSem(op:BinOp)(t:TypeId)(x y:Operand)(a b:Value):Sem Value:=do eqGuard op t x y a b;binOp op t a b
theorem VRel.guard{x x':Value}(h:VRel P β x x')(h1:x≠.nilIface)(h2:∀cs,x≠.agg cs):x'≠.nilIface∧∀cs,x'≠.agg cs:=by
 cases h<;>first|(exact(h1 rfl).elim)|(exact(h2 _ rfl).elim)|(exact⟨by simp,by simp⟩)
theorem eqV_sound{d:TypeDesc}{t:TypeId}{x y x' y':Value}{r:Bool}(hu:P.underlying t=some d)(hx:VRel P β x x')(hy:VRel P β y y')(h:eqV d x y=some r)(w:World) :
  (Op.equal t x' y').run P w=.ok r w∧(x≠.nilIface∧∀cs,x≠.agg cs)∧(binOp .eql t x' y'=Op.equal t x' y' >>= fun b=>pure (.bool b))∧(binOp .neq t x' y'=Op.equal t x' y' >>= fun b=>pure (.bool !b)):=by
 have key:∀r',(∀q,(Op.equalIn (q+1) t x' y').run P w=.ok r' w)→(Op.equal t x' y').run P w=.ok r' w:=fun _ h=>h 9999
 unfold eqV at h
 cases d<;>simp only at h
 case bool=>
  split at h<;>cases h
  cases hx;cases hy
  exact⟨key _ V6,⟨by simp,by simp⟩,rfl,rfl⟩
 case pointer e=>
  split at h<;>cases h
  ·cases hx
   cases hy
   ·exact⟨key _ V6,⟨by simp,by simp⟩,rfl,rfl⟩
   ·exact⟨key _ V6,⟨by simp,by simp⟩,rfl,rfl⟩
  ·cases hx
   cases hy
   exact⟨key _ V6,⟨by simp,by simp⟩,rfl,rfl⟩
 case slice e=>
  split at h<;>cases h
  ·cases hx
   cases hy<;>exact⟨key _ V6,⟨by simp,by simp⟩,rfl,rfl⟩
  ·cases hy
   cases hx<;>exact⟨key _ V6,⟨by simp,by simp⟩,rfl,rfl⟩
 case map k e=>
  split at h<;>cases h
  ·cases hx
   cases hy<;>exact⟨key _ V6,⟨by simp,by simp⟩,rfl,rfl⟩
  ·cases hx
   cases hy
   exact⟨key _ V6,⟨by simp,by simp⟩,rfl,rfl⟩
 case func ps rs v=>
  split at h<;>cases h
  ·cases hx;cases hy
   exact⟨key _ V6,⟨by simp,by simp⟩,rfl,rfl⟩
  ·have hk:∀q fn a b,(Op.equalIn (q+1) t .nilFunc (.func fn a b)).run P w=.ok false w:=fun q fn a b=>by simp[Op.equalIn,run_underlying hu]
   cases hx;cases hy<;>exact⟨key _ (fun q=>hk q _ _ _),⟨nofun,nofun⟩,rfl,rfl⟩
  ·have hk:∀q fn a b,(Op.equalIn (q+1) t (.func fn a b) .nilFunc).run P w=.ok false w:=fun q fn a b=>by simp[Op.equalIn,run_underlying hu]
   cases hy;cases hx<;>exact⟨key _ (fun q=>hk q _ _ _),⟨nofun,nofun⟩,rfl,rfl⟩
 all_goals cases h
theorem eq_sound(h:Rel P β s w){op:BinOp}{t:TypeId}{x y x' y':Value}(hx:VRel P β x x')(hy:VRel P β y y')(a b:Operand) :
  OpS P β s w (eqM P op t x y s) ((xY (eqSem op t a b x' y')).run P w):=by
 unfold eqM
 split
 ·rename_i d hu
  split
  ·rename_i r hr
   obtain⟨h1,⟨h2,h3⟩,h4,_⟩:=eqV_sound hu hx hy hr w
   obtain⟨g1,g2⟩:=hx.guard h2 h3
   exact .value h (.bool _) (qd (by simp[eqSem,run_eqGuard' g1 g2,h4,h1]))
  ·rename_i r hr
   obtain⟨h1,⟨h2,h3⟩,_,h4⟩:=eqV_sound hu hx hy hr w
   obtain⟨g1,g2⟩:=hx.guard h2 h3
   exact .value h (.bool _) (qd (by simp[eqSem,run_eqGuard' g1 g2,h4,h1]))
  ·exact .stuck
 ·exact .stuck
theorem bin_sound(h:Rel P β s w){op:BinOp}{t:TypeId}{x y x' y':Value}(hx:VRel P β x x')(hy:VRel P β y y')(a b:Operand) :
  OpS P β s w (jc P op t x y s) ((xY (eqSem op t a b x' y')).run P w):=by
 unfold jc
 split
 ·rename_i k p k' q
  cases hx;cases hy
  have:=int_sound h op t k k' p q
  have e:(xY (eqSem op t a b (.int k p) (.int k' q))).run P w=(xY (binOp op t (.int k p) (.int k' q))).run P w:=by
   simp[xY,eqSem,run_eqGuard' (P:=P) (a:=.int k p) Y8 Y8]
  rw[e];exact this
 ·rename_i p q
  cases hx;cases hy
  have:=(scalar_string op t p q).sound h
  have e:(xY (eqSem op t a b (.string p) (.string q))).run P w=(xY (binOp op t (.string p) (.string q))).run P w:=by
   simp[xY,eqSem,run_eqGuard' (P:=P) (a:=.string p) Y8 Y8]
  rw[e];exact this
 ·exact eq_sound h hx hy a b
theorem un_sound(h:Rel P β s w){op:UnOp}{x x':Value}(hx:VRel P β x x'):OpS P β s w (unM P op x s) ((xY (Op.unary op x')).run P w):=by
 unfold unM
 split
 ·split
  ·cases hx;exact .value h (.bool _) rfl
  ·exact .stuck
 ·rename_i k n
  cases hx;exact(scalar_unary op k n).sound h
 ·exact .stuck
theorem extract_sound(h:Rel P β s w){x x':Value}{i:Nat}(hx:VRel P β x x'):OpS P β s w (extractM x i s) ((xY (Instr.extract x' i)).run P w):=by
 unfold extractM
 split
 ·cases hx with
  |tuple hl=>
   split
   ·rename_i v hv
    rw[qR]at hv
    obtain⟨v',h1,h2⟩:=hl.get hv
    exact .value h h2 (qd (by simp[Instr.extract,h1]))
   ·exact .stuck
 ·exact .stuck
theorem pick_sound(h:Rel P β s w){c a b c' a' b':Value}(hc:VRel P β c c')(ha:VRel P β a a')(hb:VRel P β b b') :
  OpS P β s w (pickM c a b s) ((do pure (Next.value (if ←asBool c' then a' else b')):Sem Next).run P w):=by
 unfold pickM
 split
 ·cases hc;exact .value h ha rfl
 ·cases hc;exact .value h hb rfl
 ·exact .stuck
theorem iface_sound(h:Rel P β s w){t:TypeId}{x x':Value}(hx:VRel P β x x'):OpS P β s w (ifaceM P t x s) ((xY (Instr.makeInterface t x')).run P w):=by
 unfold ifaceM
 split
 ·exact .stuck
 ·rename_i d n hu
  refine .value h (.iface hx) (qd ?_)
  simp only[Instr.makeInterface,Sem.run_bind,run_underlying hu,Result.andThen_ok]
  cases d<;>first|rfl|(exact(n _ rfl).elim)
 ·exact .stuck
theorem panic_sound(h:Rel P β s w){x x':Value}(hx:VRel P β x x'):OpS P β s w (panicM x s) ((xY (Instr.panic x')).run P w):=by
 unfold panicM
 split
 ·cases hx with
  |iface hv=>exact fun _=>⟨β,w,_,rfl,Ext.refl h,.iface hv⟩
 ·exact .stuck
theorem map_sound(h:Rel P β s w){t:TypeId}:OpS P β s w (mapM s) ((xY (Instr.makeMap t none)).run P w):=by
 unfold mapM
 split
 ·rename_i hroom
  intro hf
  have hn:=free_new hf
  refine⟨_,_,.value (.map (some w.heap.size)),?_,Ext.new h (room_lt hroom) hn (m:=⟨w.heap.size,0,0,0⟩) rfl (.map (es':= #[]) rfl Y8),_,rfl,?_⟩
  ·simp[xY,Instr.makeMap]
  ·exact VRel.mref (m:=⟨w.heap.size,0,0,0⟩) Ren.add_self
 ·exact .stuck
end
end Go.M
