/- Code and calls of the abstract machine stand for the model's. -/
import Derived.Test.YtocnbjjmmgolfaaGreatA08
import Derived.LoopNIn
import Derived.Scope
set_option linter.unusedSimpArgs false
set_option linter.unusedVariables false
set_option linter.unusedSectionVars false
namespace Go.M
structure TableS(P:Program)(I:zU):Prop where
 next:∀f g,I f=some g→∀args s,(g args s).nextLe s
 keeps:∀f g,I f=some g→∀args s,WF s→(g args s).keeps s
 sound:∀f g,I f=some g→∀args args' s β w,Rel P β s w→LRel P β args.toList args'.toList→g args s≠.stuck→(g args s).free β s→Calls P f args' w (VQ P β s w (g args s))
def Jw(P:Program)(code:Code→Fr→St→Out):Prop:=
 ∀c a a' s β w lo ro,xT c=true→(ro=none∨kB c=true)→Rel P β s w→FRel P β a a'→Marks lo β s w a'.defers→lo≤w.heap.size→code c a s≠.stuck→(code c a s).free β s →
  c.wpIn (FW ro) 0 P (OutP P lo β s w (code c a s)) a' w
theorem Out.next_trans{s s₁:St}{r:Out}(h:s.next≤s₁.next)(a:r.nextLe s₁):r.nextLe s:=by
 cases r<;>first|exact bH h a|trivial
theorem zcR{P:Program}{call:FuncId→Array Value→St→CallOut}(hc:∀f args s,(call f args s).nextLe s)(ops:List Oper)(d:Drawn)(o:Oper)(a:Fr)(s:St):(yS P call ops d o a s).nextLe s:=by
 unfold yS
 split
 ·split
  ·split
   ·split
    ·exact aO _
    ·trivial
   ·trivial
  ·have h1:=YC (P:=P) hc o a {s with prot:=y9 ops a d.free++s.prot}
   split
   ·rename_i b;rw[b]at h1;exact h1
   ·rename_i b;rw[b]at h1;exact h1
   ·trivial
  ·have h1:=YC (P:=P) hc o a {s with bar:=s.next}
   split
   ·rename_i b;rw[b]at h1;exact h1
   ·trivial
  ·split
   ·split
    ·split
     ·show s.next≤s.next+1;omega
     ·trivial
    ·trivial
   ·trivial
 ·exact aO _
theorem Vx{P:Program}{call:FuncId→Array Value→St→CallOut}(hc:∀f args s,(call f args s).nextLe s)(ops:List Oper):∀(l:List Drawn) (a:Fr) (s:St),(v6 P call ops l a s).nextLe s
 | [],a,s=>aO _
 |d::l,a,s=>by
  unfold v6
  split
  ·rename_i o _
   have h1:=zcR (P:=P) hc ops d o a s
   cases b:yS P call ops d o a s with
   |normal a₁ s₁=>
    rw[b]at h1
    exact Out.next_trans h1 (Vx hc ops l a₁ s₁)
   |exit id a₁ s₁=>rw[b]at h1;exact h1
   |ret a₁ s₁=>rw[b]at h1;exact h1
   |panic c a₁ s₁=>rw[b]at h1;exact h1
   |stuck=>trivial
  ·trivial
section
variable{P:Program}{I:zU}
theorem zfI{code:Code→Fr→St→Out}(hn:∀c a s,(code c a s).nextLe s)(fn:Func)(c:Code)(args:Array Value)(s:St):(gJ P code fn c args s).nextLe s:=by
 unfold gJ
 split
 ·have h1:=hn c (Fr.make args fn.ntmps) s
  split
  ·rename_i b;rw[b]at h1
   unfold finish
   split<;>first|exact h1|trivial
  ·rename_i b;rw[b]at h1
   unfold finish
   split<;>first|exact h1|trivial
  ·rename_i b;rw[b]at h1;exact h1
  ·trivial
 ·trivial
theorem CallOut.next_trans{s s₁:St}{r:CallOut}(h:s.next≤s₁.next)(a:r.nextLe s₁):r.nextLe s:=by
 cases r<;>first|exact bH h a|trivial
theorem Xt{b:Nat}{j:Option Code}{s:St}:(jI b j s).nextLe s:=by
 unfold jI
 split
 ·exact aO _
 ·trivial
theorem zbG{code:Code→Fr→St→Out}(hn:∀c a s,(code c a s).nextLe s)(b:Nat)(args:Array Value)(s:St):(vx code b args s).nextLe s:=by
 unfold vx
 split
 ·rename_i lp _
  split
  ·have h1:=hn lp.assign (lp.fr.putAll lp.params args.toList) s
   split
   ·rename_i a₁ s₁ f
    rw[f]at h1
    have h1:s.next≤s₁.next:=h1
    split
    ·rename_i lp' _ _
     split
     ·have h2:=hn lp'.body a₁ (s₁.put b (some (.loop {lp' with state:=.busy})))
      have d:=hn lp.body a₁ (s₁.put b (some (.loop {lp' with state:=.busy})))
      split
      ·rename_i s₂ e
       rw[e]at d
       have d:s₁.next≤s₂.next:=d
       exact CallOut.next_trans (bH h1 d) Xt
      ·rename_i s₂ e
       rw[e]at d
       have d:s₁.next≤s₂.next:=d
       exact CallOut.next_trans (bH h1 d) Xt
      ·rename_i s₂ e
       rw[e]at d
       have d:s₁.next≤s₂.next:=d
       exact CallOut.next_trans (bH h1 d) Xt
      ·trivial
     ·trivial
    ·trivial
   ·trivial
  ·trivial
 ·trivial
theorem vR(b:TableS P I){code:Code→Fr→St→Out}(hn:∀c a s,(code c a s).nextLe s)(f:FuncId)(args:Array Value)(s:St):(yP P I code f args s).nextLe s:=by
 unfold yP
 split
 ·exact zbG hn _ _ _
 ·rename_i hlow
  split
  ·rename_i g hg;exact b.next f g hg args s
  ·split
   ·split
    ·rename_i fn _ c _
     exact zfI hn _ _ _ _
    ·trivial
   ·trivial
theorem zdl{code:Code→Fr→St→Out}(hk:∀c a s,WF s→(code c a s).keeps s)(fn:Func)(c:Code)(args:Array Value)(s:St)(h:WF s):(gJ P code fn c args s).keeps s:=by
 unfold gJ
 split
 ·have h1:=hk c (Fr.make args fn.ntmps) s h
  split
  ·rename_i b;rw[b]at h1
   unfold finish
   split<;>first|exact h1|trivial
  ·rename_i b;rw[b]at h1
   unfold finish
   split<;>first|exact h1|trivial
  ·rename_i b;rw[b]at h1;exact h1
  ·trivial
 ·trivial
theorem ZW{b:Nat}{j:Option Code}{s:St}(h:WF s):(jI b j s).keeps s:=by
 unfold jI
 split
 ·rename_i a hg
  exact Kp.put h hg a _
 ·trivial
theorem JV{code:Code→Fr→St→Out}(hk:∀c a s,WF s→(code c a s).keeps s)(b:Nat)(args:Array Value)(s:St)(h:WF s):(vx code b args s).keeps s:=by
 unfold vx
 split
 ·rename_i lp _
  split
  ·have h1:=hk lp.assign (lp.fr.putAll lp.params args.toList) s h
   split
   ·rename_i a₁ s₁ g
    rw[g]at h1
    have h1:Kp s s₁:=h1
    split
    ·rename_i lp' f hg
     split
     ·have hp:=Kp.put h1.wf hg f (some (.loop {lp' with state:=.busy}))
      have d:=hk lp.body a₁ _ hp.wf
      split
      ·rename_i s₂ e
       rw[e]at d
       have d:Kp _ s₂:=d
       exact CallOut.keeps_trans (h1.trans (hp.trans d)) (ZW d.wf)
      ·rename_i s₂ e
       rw[e]at d
       have d:Kp _ s₂:=d
       exact CallOut.keeps_trans (h1.trans (hp.trans d)) (ZW d.wf)
      ·rename_i s₂ e
       rw[e]at d
       have d:Kp _ s₂:=d
       exact CallOut.keeps_trans (h1.trans (hp.trans d)) (ZW d.wf)
      ·trivial
     ·trivial
    ·trivial
   ·trivial
  ·trivial
 ·trivial
theorem wK(b:TableS P I){code:Code→Fr→St→Out}(hk:∀c a s,WF s→(code c a s).keeps s)(f:FuncId)(args:Array Value)(s:St)(h:WF s):(yP P I code f args s).keeps s:=by
 unfold yP
 split
 ·exact JV hk _ _ _ h
 ·split
  ·rename_i g hg;exact b.keeps f g hg args s h
  ·split
   ·split
    ·exact zdl hk _ _ _ _ h
    ·trivial
   ·trivial
theorem Z9{f:Value}{args:List Value}{s s':St}{n:Next}(h:jL P f args s=.ok n s'):s'=s:=by
 unfold jL at h
 (repeat' split at h)<;>cases h<;>rfl
theorem JZ(j:TableS P I){code:Code→Fr→St→Out}(hk:∀c a s,WF s→(code c a s).keeps s)(f:Operand)(ps:Array Tmp)(x y:Code)(a:Fr)(s:St)(h:WF s):(kT P I code f ps x y a s).keeps s:=by
 unfold kT
 split
 ·trivial
 ·rename_i b
  have h0:=Kp.new h b (.loop {fr:=a.norm,params:=ps.toList,assign:=x,body:=y,state:=.ready,pend:=none})
  split
  ·rename_i g args s₁ hv
   have e:=Z9 hv
   subst e
   split
   ·trivial
   ·have h2:=wK j hk g args _ h0.wf
    split
    ·rename_i s₂ i
     rw[i]at h2
     have h2:Kp _ s₂:=h2
     split
     ·rename_i lp k hg
      have d:=Kp.put h2.wf hg k (some (.loop {lp with state:=.exhausted}))
      split
      ·trivial
      ·split
       ·exact h0.trans (h2.trans d)
       ·exact h0.trans (h2.trans d)
       ·exact h0.trans (h2.trans d)
       ·trivial
     ·trivial
    ·rename_i i
     rw[i]at h2
     exact h0.trans h2
    ·trivial
  ·trivial
theorem XT(h:TableS P I){code:Code→Fr→St→Out}(hn:∀c a s,(code c a s).nextLe s)(f:Operand)(ps:Array Tmp)(x y:Code)(a:Fr)(s:St):(kT P I code f ps x y a s).nextLe s:=by
 unfold kT
 split
 ·trivial
 ·split
  ·rename_i g args s₁ hv
   have e:=Z9 hv
   subst e
   split
   ·trivial
   ·have h2:=vR h hn g args (s.new (.loop {fr:=a.norm,params:=ps.toList,assign:=x,body:=y,state:=.ready,pend:=none}))
    split
    ·rename_i s₂ b
     rw[b]at h2
     have h2:s.next+1≤s₂.next:=h2
     have d:s.next≤s₂.next:=by omega
     split
     ·split
      ·trivial
      ·split<;>first|exact d|trivial
     ·trivial
    ·rename_i s₂ b
     rw[b]at h2
     have h2:s.next+1≤s₂.next:=h2
     show s.next≤s₂.next
     omega
    ·trivial
  ·trivial
theorem ux(f:TableS P I):∀(n:Nat) (c:Code) (a:Fr) (s:St),(zT P I n c a s).nextLe s
 |0,_,_,_=>trivial
 |n+1,c,a,s=>by
  have e:=ux f n
  have hc:=vR f e
  unfold zT
  split
  ·exact aO _
  ·exact aO _
  ·rename_i x y
   have h1:=e x a s
   cases d:zT P I n x a s with
   |normal a₁ s₁=>rw[d]at h1;exact Out.next_trans h1 (e y a₁ s₁)
   |exit id a₁ s₁=>rw[d]at h1;exact h1
   |ret a₁ s₁=>rw[d]at h1;exact h1
   |panic c a₁ s₁=>rw[d]at h1;exact h1
   |stuck=>trivial
  ·split
   ·exact e _ _ _
   ·exact e _ _ _
   ·trivial
  ·rename_i id b
   have h1:=e b a s
   cases d:zT P I n b a s with
   |normal a₁ s₁=>rw[d]at h1;exact h1
   |exit id' a₁ s₁=>
    rw[d]at h1
    simp only
    split<;>exact h1
   |ret a₁ s₁=>rw[d]at h1;exact h1
   |panic c a₁ s₁=>rw[d]at h1;exact h1
   |stuck=>trivial
  ·rename_i b
   have h1:=e b a s
   cases d:zT P I n b a s with
   |normal a₁ s₁=>rw[d]at h1;exact Out.next_trans h1 (e _ a₁ s₁)
   |exit id a₁ s₁=>rw[d]at h1;exact h1
   |ret a₁ s₁=>rw[d]at h1;exact h1
   |panic c a₁ s₁=>rw[d]at h1;exact h1
   |stuck=>trivial
  ·exact aO _
  ·exact aO _
  ·split
   ·exact gW hc _ _ _ _
   ·split
    ·exact Vx hc _ _ _ _
    ·trivial
  ·exact e _ _ _
  ·exact XT f e _ _ _ _ _ _
  ·trivial
theorem Qg(f:TableS P I):∀(n:Nat) (c:Code) (a:Fr) (s:St),WF s→(zT P I n c a s).keeps s
 |0,_,_,_,_=>trivial
 |n+1,c,a,s,h=>by
  have e:=Qg f n
  have hc:=wK f e
  unfold zT
  split
  ·exact Kp.refl h
  ·exact Kp.refl h
  ·rename_i x y
   have h1:=e x a s h
   cases d:zT P I n x a s with
   |normal a₁ s₁=>rw[d]at h1;have h1:Kp s s₁:=h1;exact Out.keeps_trans h1 (e y a₁ s₁ h1.wf)
   |exit id a₁ s₁=>rw[d]at h1;exact h1
   |ret a₁ s₁=>rw[d]at h1;exact h1
   |panic c a₁ s₁=>rw[d]at h1;exact h1
   |stuck=>trivial
  ·split
   ·exact e _ _ _ h
   ·exact e _ _ _ h
   ·trivial
  ·rename_i id b
   have h1:=e b a s h
   cases d:zT P I n b a s with
   |normal a₁ s₁=>rw[d]at h1;exact h1
   |exit id' a₁ s₁=>
    rw[d]at h1
    simp only
    split<;>exact h1
   |ret a₁ s₁=>rw[d]at h1;exact h1
   |panic c a₁ s₁=>rw[d]at h1;exact h1
   |stuck=>trivial
  ·rename_i b
   have h1:=e b a s h
   cases d:zT P I n b a s with
   |normal a₁ s₁=>rw[d]at h1;have h1:Kp s s₁:=h1;exact Out.keeps_trans h1 (e _ a₁ s₁ h1.wf)
   |exit id a₁ s₁=>rw[d]at h1;exact h1
   |ret a₁ s₁=>rw[d]at h1;exact h1
   |panic c a₁ s₁=>rw[d]at h1;exact h1
   |stuck=>trivial
  ·exact Kp.refl h
  ·exact Kp.refl h
  ·split
   ·exact ZH hc _ _ _ _ h
   ·split
    ·exact Qc hc _ _ _ _ h
    ·trivial
  ·exact e _ _ _ h
  ·exact JZ f e _ _ _ _ _ _ h
  ·trivial
def resF(tmps:Array Value):ResultVar→Sem Value
 | .tmp t=>pure (tmps.getD t undef)
 | .cell b t=>do loadVar t (←asAddr (tmps.getD b undef))
theorem zee(fn:Func)(tmps:Array Value):results fn tmps=(fn.results.mapM (resF tmps) >>= fun vs=>pure (if h:vs.size=1 then vs[0]else .tuple vs)):=rfl
theorem jc{β:Ren}{s:St}{w:World}(h:Rel P β s w){a:Fr}{a':Act}(hf:FRel P β a a'):∀(rs:List ResultVar) (l:List Value),qR P a s rs=some l →
 ∃c,(rs.mapM (resF a'.tmps)).run P w=.ok c w∧LRel P β l c
 | [],l,hl=>by
  simp only[qR,bF]at hl
  subst hl
  exact⟨[],rfl,.nil⟩
 | .tmp t::rs,l,hl=>by
  unfold qR at hl
  split at hl
  ·rename_i r d
   cases hl
   obtain⟨c,h1,h2⟩:=jc h hf rs r d
   refine⟨a'.tmps.getD t undef::c,?_,.cons (hf.get t) h2⟩
   rw[List.mapM_cons]
   simp only[resF,Sem.run_bind,Sem.run_pure,Result.andThen_ok,h1]
  ·cases hl
 | .cell b t::rs,l,hl=>by
  unfold qR at hl
  split at hl
  ·rename_i v r hv d
   cases hl
   obtain⟨c,h1,h2⟩:=jc h hf rs r d
   obtain⟨e,v',g1,g2,f⟩:=XZ h (hf.get b) hv
   refine⟨v'::c,?_,.cons f h2⟩
   rw[List.mapM_cons]
   have g0:(asAddr (a'.tmps.getD b undef)).run P w=.ok e w:=by rw[g1];rfl
   simp only[resF,Sem.run_bind,Sem.run_pure,Result.andThen_ok,g0,g2]
   rw[h1]
   rfl
  ·cases hl
theorem zaA{β:Ren}{s:St}{w:World}(h:Rel P β s w){a:Fr}{a':Act}(hf:FRel P β a a'){fn:Func}{v:Value}{s₁:St}(c:finish P fn a s=.ret v s₁) :
 s₁=s∧∃v',(results fn a'.tmps).run P w=.ok v' w∧VRel P β v v':=by
 unfold finish at c
 have key:∀l,qR P a s fn.results.toList=some l→∃b,(results fn a'.tmps).run P w=.ok (if h:(⟨b⟩:Array Value).size=1 then(⟨b⟩:Array Value)[0]else .tuple ⟨b⟩) w∧LRel P β l b:=fun l hl=>by
  obtain⟨b,h1,h2⟩:=jc h hf _ l hl
  refine⟨b,?_,h2⟩
  rw[zee,Array.mapM_eq_mapM_toList]
  simp only[Sem.run_bind,Sem.run_map,h1,Result.andThen_ok,Sem.run_pure]
 split at c
 ·rename_i v₀ hl
  cases c
  obtain⟨b,h1,h2⟩:=key _ hl
  cases h2 with
  |cons hv h2=>
   cases h2
   exact⟨rfl,_,h1,hv⟩
 ·rename_i l hn hl
  cases c
  obtain⟨b,h1,h2⟩:=key _ hl
  refine⟨rfl,.tuple ⟨b⟩,?_,.tuple h2⟩
  rw[h1]
  have:¬(⟨b⟩:Array Value).size=1:=fun he=>by
   have hlen:b.length=1:=he
   have:=h2.length
   rw[hlen]at this
   obtain⟨x,hx⟩:=List.length_eq_one_iff.1 this.symm
   exact hn x hx
  rw[dif_neg this]
 ·cases c
end
section
variable{P:Program}{F:Fence}{n:Nat}{Q:Exit→Act→World→Prop}{a:Act}{w:World}
theorem vq{b:Frame}{k:List Item}{cs:List Frame}{c:Code}:step P (lone (b.atR a (.code (.scope c)::k)) cs w)=.next (lone (b.atR a (.code c::.inScope c::k)) cs w):=
 step_lone_go (by simp[stepG,stepG.exec,Frame.atR])
theorem VW{b:Frame}{k:List Item}{cs:List Frame}{c:Code}:step P (lone (b.atR a (.inScope c::k)) cs w)=.next (lone (b.atR a k) cs w):=
 step_lone_go (by simp[stepG,stepG.exec,Frame.atR])
theorem zdT{c:Code}(h:c.wpIn F n P (Exit.noGoto Q) a w):(Code.scope c).wpIn F n P Q a w:=by
 intro b k cs i hb g
 have h0:(lone (b.atR a (.code (.scope c)::k)) cs w).fenced P F:=fenced_calm hb g rfl
 obtain⟨e,a₁,w₁,f,d⟩:=h b (.inScope c::k) cs i hb g
 cases e with
 |normal=>exact⟨.normal,a₁,w₁,f,.head h0 vq (StepsIn.trans d (.one (fenced_calm (fr:=b.atR a₁ (.inScope c::k)) hb g rfl) VW))⟩
 |exit id=>
  refine⟨.exit id,a₁,w₁,f,fun k' hk=>.head h0 vq (d.1 k' (by simp[exitTo,hk])),fun hx hk=>?_⟩
  obtain⟨k₁,h1,h2⟩:=d.2 hx (by simp[exitTo,hk])
  exact⟨k₁,h1,.head h0 vq h2⟩
 |goto l=>exact f.elim
 |ret=>exact⟨_,a₁,w₁,f,.of_steps (.one h0 vq) d⟩
 |panic ch=>exact⟨_,a₁,w₁,f,.of_steps (.one h0 vq) d⟩
 |outgrown=>exact⟨_,a₁,w₁,f,.of_steps (.one h0 vq) d⟩
end
section
variable{P:Program}
theorem Ext.alloc{β:Ren}{s:St}{w:World}(h:Rel P β s w)(o:Obj):Ext P β s w β s (w.alloc o):=by
 have keep:∀r,r<w.heap.size→(w.alloc o).heap[r]? = w.heap[r]? :=fun r e=>by
  show(w.heap.push o)[r]? = _
  rw[Array.getElem?_push,aD O]
 have hsz:(w.alloc o).heap.size=w.heap.size+1:=by show(w.heap.push o).size=_;simp
 exact{
  rel:=⟨fun b m hb c=>by have:=h.img b m hb c;omega,fun b m o hb c hg=>by rw[keep _ (h.img b m hb c)];exact h.obj b m o hb c hg,h.inj,h.ro,h.room,h.top⟩
  le:=Ren.le_refl β
  dom:=fun b m h d=>by rw[d]at h;cases h
  next:=aO _
  bar:=rfl
  prot:=rfl
  size:=by omega
  out:=fun r e _=>keep r e
  same:=fun _ _ _=>rfl
  dead:=fun _ _ h=>h
  fresh:=fun b m h d=>by rw[d]at h;cases h
  os:=rfl
  output:=rfl
  tape:=rfl}
structure Shut(lo:Nat)(β:Ren)(s:St)(w w':World):Prop where
 size:w'.heap.size=w.heap.size
 low:∀r,r<lo→w'.heap[r]? = w.heap[r]?
 img:∀b m,β b=some m→b<s.next→w'.heap[m.blk]? = w.heap[m.blk]?
 os:w'.os=w.os
 output:w'.output=w.output
 tape:w'.tape=w.tape
theorem Shut.refl(lo:Nat)(β:Ren)(s:St)(w:World):Shut lo β s w w:=⟨rfl,fun _ _=>rfl,fun _ _ _ _=>rfl,rfl,rfl,rfl⟩
theorem Shut.rel{lo:Nat}{β:Ren}{s:St}{w w':World}(h:Shut lo β s w w')(d:Rel P β s w):Rel P β s w':=
 ⟨fun b m hb c=>by rw[h.size];exact d.img b m hb c,fun b m o hb c hg=>by rw[h.img b m hb c];exact d.obj b m o hb c hg,d.inj,d.ro,d.room,d.top⟩
theorem Ext.shut{β β':Ren}{s s':St}{w w' b:World}(h:Ext P β s w β' s' w')(hs:Shut w.heap.size β' s' w' b):Ext P β s w β' s' b where
 rel:=hs.rel h.rel
 le:=h.le
 dom:=h.dom
 next:=h.next
 bar:=h.bar
 prot:=h.prot
 size:=by rw[hs.size];exact h.size
 out:=fun r d c=>by rw[hs.low r d];exact h.out r d c
 same:=h.same
 dead:=h.dead
 fresh:=h.fresh
 os:=hs.os.trans h.os
 output:=hs.output.trans h.output
 tape:=hs.tape.trans h.tape
theorem ug{fn:Func}{tmps:Array Value}{R:Ending→World→Prop}{u:FrameMode}{lo:Nat}{β:Ren}{s:St}(hu:u≠.run):∀(f:List Deferred) (w:World),Marks lo β s w f →
 (∀w',Shut lo β s w w'→LeavesIn (FW none) 0 P fn tmps R [] u w')→LeavesInM (FW none) 0 P fn tmps R f u w
 | [],w,_,h=>h w (Shut.refl lo β s w)
 |d::f,w,⟨⟨r,h1,h0,h2,v,j⟩,x⟩,h=>by
  have hlt:r<w.heap.size:=(Array.getElem?_eq_some_iff.1 h2).1
  refine⟨hu,.inl ⟨r,w.putObj r (.deferred none),by rw[h1],run_takeDeferred h2,?_⟩⟩
  have c:∀k,k≠r→(w.putObj r (.deferred none)).heap[k]? = w.heap[k]? :=fun k hk=>World.putObj_heap_other hk
  refine ug (lo:=lo) (β:=β) (s:=s) hu f _ ?_ fun w' hs=>h w' ?_
  ·clear h
   induction f with
   |nil=>trivial
   |cons o f y=>
    obtain⟨⟨l,g1,g0,g2,p,q⟩,t⟩:=x
    refine⟨⟨l,g1,g0,?_,p,q⟩,y (fun i hd=>j i (by simp[hd])) t⟩
    rw[c l fun e=>j o Y8 (by rw[g1,e])]
    exact g2
  ·exact⟨by rw[hs.size];simp,fun k hk=>by rw[hs.low k hk];exact c k O,fun b m hb g=>by rw[hs.img b m hb g];exact c _ (v b m hb g),hs.os,hs.output,hs.tape⟩
theorem KE{β:Ren}:∀(ps:List Tmp) (vs b:List Value) (a:Fr) (t':Array Value) (c:List Deferred),LRel P β vs b→FRel P β a {tmps:=t',defers:=c} →
 FRel P β (a.putAll ps vs) {tmps:=(ps.zip b).foldl (fun tmps x=>tmps.setIfInBounds x.1 x.2) t',defers:=c}
 | [],_,_,a,t',c,_,h=>by simpa[Fr.putAll]using h
 |p::ps,[],_,a,t',c,hv,h=>by cases hv;simpa[Fr.putAll]using h
 |p::ps,v::vs,_,a,t',c,hv,h=>by
  cases hv with
  | @cons _ v' _ b h1 h2=>
   simp only[Fr.putAll,List.zip_cons_cons,List.foldl_cons]
   exact KE ps vs b _ _ c h2 (h.put (some p) h1)
theorem roundT_eq(r:Loop)(args:Array Value):u6 r args=(r.params.toList.zip args.toList).foldl (fun tmps x=>tmps.setIfInBounds x.1 x.2) r.tmps:=by
 unfold u6
 rw[←Array.foldl_toList,Array.toList_zip]
theorem Ext.putLoop{β:Ren}{s:St}{w:World}(h:Rel P β s w){b:Nat}{m:Img}(hb:β b=some m)(e:s.may b=true){lp:Lp}(hg:s.get b=some (.loop lp)){lp':Lp}{r d:Loop}
 (g:w.heap[m.blk]? = some (.loop r)) (ho:ORel P β m (.loop lp') (.loop d)):Ext P β s w β (s.put b (some (.loop lp'))) (w.putObj m.blk (.loop d)):=by
 have c:m.blk<w.heap.size:=(Array.getElem?_eq_some_iff.1 g).1
 exact Ext.write h hb e hg _ Y8 (fun q f=>World.putObj_heap_other f) ⟨_,World.putObj_heap_same c,ho⟩ rfl rfl rfl
theorem Rel.loop{β:Ren}{s:St}{w:World}(h:Rel P β s w){b:Nat}{m:Img}(hb:β b=some m){lp:Lp}(hg:s.get b=some (.loop lp)) :
 ∃r,w.heap[m.blk]? = some (.loop r)∧TRel P β lp.fr r.tmps∧r.params.toList=lp.params∧r.assign=lp.assign∧r.body=lp.body∧r.state=lp.state∧r.pending=lp.pend:=by
 obtain⟨o',h1,h2⟩:=h.obj b m _ hb (h.lt hg) hg
 cases h2 with
 | @loop _ r c hp d e hs hj=>exact⟨r,h1,c,hp,d,e,hs,hj⟩
theorem zeT{β:Ren}{s:St}{w:World}(h:Rel P β s w){b:Nat}{m:Img}(hb:β b=some m){j:Option Code}(d:jI b j s≠.stuck) :
 ∃v w' s',jI b j s=.ret v s'∧s'.next=s.next∧(Instr.endRound m.blk j).run P w=.ok v w'∧Ext P β s w β s' w'∧VRel P β v v:=by
 unfold jI at d ⊢
 split at d
 ·rename_i lp i hg
  obtain⟨r,h1,e,hp,f,g,hs,hj⟩:=h.loop hb hg
  cases j with
  |none=>
   have hx:Ext P β s w β (s.put b (some (.loop {lp with state:=.ready,pend:=none}))) (w.putObj m.blk (.loop {r with state:=.ready,pending:=none})):=
    Ext.putLoop h hb i hg h1 (.loop e hp f g rfl rfl)
   exact⟨_,_,_,rfl,rfl,run_endRound none h1,hx,.bool _⟩
  |some c=>
   have hx:Ext P β s w β (s.put b (some (.loop {lp with state:=.done,pend:=some c}))) (w.putObj m.blk (.loop {r with state:=.done,pending:=some c})):=
    Ext.putLoop h hb i hg h1 (.loop e hp f g rfl rfl)
   exact⟨_,_,_,rfl,rfl,run_endRound (some c) h1,hx,.bool _⟩
 ·exact(d rfl).elim
theorem YQ{b:Nat}{j:Option Code}{s:St}(c:jI b j s≠.stuck):∃v s',jI b j s=.ret v s'∧s'.next=s.next:=by
 unfold jI at c ⊢
 split at c
 ·exact⟨_,_,rfl,rfl⟩
 ·exact(c rfl).elim
theorem zbF{code:Code→Fr→St→Out}(K:∀c a s,(code c a s).nextLe s)(B:Jw P code){b:Nat}{args args':Array Value}{s:St}{β:Ren}{w:World}{m:Img}{r:Loop}
 (h:Rel P β s w) (ha:LRel P β args.toList args'.toList) (hb:β b=some m) (hw:w.heap[m.blk]? = some (.loop r)) (d:vx code b args s≠.stuck) (f:(vx code b args s).free β s) :
 RoundIn Fence.wide 0 P m.blk r.fn (u6 r args') r.assign r.body w (VQ P β s w (vx code b args s)):=by
 unfold vx at d f ⊢
 cases hg:s.get b with
 |none=>rw[hg]at d;exact(d rfl).elim
 |some o=>
  cases o with
  |cells c e=>rw[hg]at d;exact(d rfl).elim
  |map es c=>rw[hg]at d;exact(d rfl).elim
  |loop lp=>
   rw[hg]at d f
   simp only at d f ⊢
   obtain⟨r',h1,R,hp,hA,hB,hs,hj⟩:=h.loop hb hg
   rw[hw]at h1;cases h1
   cases G:xT lp.assign&&xT lp.body&&kB lp.assign&&kB lp.body&&Nat.beq (yD args.toList 0) (yD lp.params 0)with
   |false=>rw[G]at d;exact(d rfl).elim
   |true=>
    rw[G]at d f
    simp only at d f ⊢
    simp only[aG]at G
    obtain⟨⟨⟨⟨c1,U⟩,V⟩,W⟩,c5⟩:=G
    have O:FRel P β (lp.fr.putAll lp.params args.toList) {tmps:=u6 r args',defers:=[]}:=by
     rw[roundT_eq,hp]
     exact KE _ _ _ _ _ _ ha (R.frel [])
    refine roundIn_of_wpIn (F:=Fence.wide) trivial ?_
    have H:=K lp.assign (lp.fr.putAll lp.params args.toList) s
    have M:=fun x y=>B lp.assign _ _ s β w 0 (some m.blk) c1 (.inr V) h O trivial (cJ _) x y
    rw[hA,hB]
    cases L:code lp.assign (lp.fr.putAll lp.params args.toList) s with
    |stuck=>rw[L]at d;exact(d rfl).elim
    |exit id a₁ s₁=>rw[L]at d;exact(d rfl).elim
    |ret a₁ s₁=>rw[L]at d;exact(d rfl).elim
    |panic T a₁ s₁=>rw[L]at d;exact(d rfl).elim
    |normal a₁ s₁=>
     rw[L]at d f M H
     simp only at d f ⊢
     have H:s.next≤s₁.next:=H
     cases C:s₁.may b with
     |false=>rw[C]at d;exact(d rfl).elim
     |true=>
      rw[C]at d f
      cases z:s₁.get b with
      |none=>rw[z]at d;exact(d rfl).elim
      |some o=>
       cases o with
       |cells c e=>rw[z]at d;exact(d rfl).elim
       |map es c=>rw[z]at d;exact(d rfl).elim
       |loop lp'=>
        rw[z]at d f
        simp only at d f ⊢
        cases D:lp'.state with
        |busy=>rw[D]at d;exact(d rfl).elim
        |done=>rw[D]at d;exact(d rfl).elim
        |exhausted=>rw[D]at d;exact(d rfl).elim
        |ready=>
         rw[D]at d f
         simp only at d f ⊢
         have i:=K lp.body a₁ (s₁.put b (some (.loop {lp' with state:=.busy})))
         -- the end of the body
         have fin:∀(j:Option Code) (s₂:St) (β₂:Ren) (w₂ w₃:World),s₁.next≤s₂.next→Free β s s₂→Ext P β s w β₂ s₂ w₃→jI b j s₂≠.stuck →
          ∃v w',(Instr.endRound m.blk j).run P w₃=.ok v w'∧VQ P β s w (jI b j s₂) (.returned v) w':=by
          intro j s₂ β₂ w₂ w₃ _ hf hx d
          obtain⟨v,w',s',e1,e2,X,Y,Z⟩:=zeT hx.rel (hx.le b m hb) d
          refine⟨v,w',X,?_⟩
          rw[e1]
          exact⟨β₂,v,rfl,hx.trans Y (fun k l u=>hf k l (by rw[e2]at u;exact u)),Z⟩
         have t:Free β s s₁∧∀s₂,(code lp.body a₁ (s₁.put b (some (.loop {lp' with state:=.busy})))=.normal a₁ s₂→True):=⟨?_,fun _ _=>trivial⟩
         ·refine wpIn_mono (M Y8 t.1) fun e a₂ w₁ ho=>?_
          obtain⟨rfl,β₁,hx,N,S⟩:=ho
          obtain⟨r₁,g1,gft,gp,gA,gB,gs,gj⟩:=hx.rel.loop (hx.le b m hb) z
          refine⟨_,run_beginRound g1 (by rw[gs,D]),?_⟩
          have I:Ext P β₁ s₁ w₁ β₁ (s₁.put b (some (.loop {lp' with state:=.busy}))) (w₁.putObj m.blk (.loop {r₁ with state:=.busy})):=
           Ext.putLoop hx.rel (hx.le b m hb) C z g1 (.loop gft gp gA gB rfl gj)
          have p:=hx.trans I t.1
          have J:Marks 0 β₁ (s₁.put b (some (.loop {lp' with state:=.busy}))) (w₁.putObj m.blk (.loop {r₁ with state:=.busy})) a₂.defers:=S.ext I (fun k l u=>by
           have u:k<s₁.next:=u
           omega)
          have A:=fun x y=>B lp.body a₁ a₂ _ β₁ _ 0 (some m.blk) U (.inr W) I.rel N J (cJ _) x y
          cases q:code lp.body a₁ (s₁.put b (some (.loop {lp' with state:=.busy})))with
          |stuck=>rw[q]at d;exact(d rfl).elim
          |panic T a₃ s₂=>rw[q]at d;exact(d rfl).elim
          |normal a₃ s₂=>
           rw[q]at d f A i
           simp only at d f ⊢
           have i:s₁.next≤s₂.next:=i
           have g:Free β s s₂:=by
            obtain⟨v,s',e1,e2⟩:=YQ d
            rw[e1]at f
            exact fun k l u=>f k l (by rw[e2];exact u)
           refine wpIn_mono (A Y8 (p.freeOf g)) fun e a₄ w₃ ho=>?_
           obtain⟨rfl,β₂,E,_,_⟩:=ho
           exact fin none s₂ β₂ w₁ w₃ i g (p.trans E g) d
          |exit id a₃ s₂=>
           rw[q]at d f A i
           simp only at d f ⊢
           have i:s₁.next≤s₂.next:=i
           have g:Free β s s₂:=by
            obtain⟨v,s',e1,e2⟩:=YQ d
            rw[e1]at f
            exact fun k l u=>f k l (by rw[e2];exact u)
           refine wpIn_mono (A Y8 (p.freeOf g)) fun e a₄ w₃ ho=>?_
           obtain⟨rfl,β₂,E,_,_⟩:=ho
           exact fin (some (.exit id)) s₂ β₂ w₁ w₃ i g (p.trans E g) d
          |ret a₃ s₂=>
           rw[q]at d f A i
           simp only at d f ⊢
           have i:s₁.next≤s₂.next:=i
           have g:Free β s s₂:=by
            obtain⟨v,s',e1,e2⟩:=YQ d
            rw[e1]at f
            exact fun k l u=>f k l (by rw[e2];exact u)
           refine wpIn_mono (A Y8 (p.freeOf g)) fun e a₄ w₃ ho=>?_
           obtain⟨rfl,β₂,E,_,_⟩:=ho
           exact fin (some .ret) s₂ β₂ w₁ w₃ i g (p.trans E g) d
         ·cases q:code lp.body a₁ (s₁.put b (some (.loop {lp' with state:=.busy})))with
          |stuck=>rw[q]at d;exact(d rfl).elim
          |panic T a₃ s₂=>rw[q]at d;exact(d rfl).elim
          |_=>
           rw[q]at d f i
           simp only at d f
           obtain⟨v,s',e1,e2⟩:=YQ d
           rw[e1]at f
           have i:s₁.next≤_:=i
           exact fun k l u=>f k l (by rw[e2];exact bJ u i)
end
section
variable{P:Program}{I:zU}
theorem zdk{code:Code→Fr→St→Out}(k:Jw P code){f:FuncId}{fn:Func}{c:Code}(u:P.funcs[f]? = some fn)(hb:fn.body=some c){args args':Array Value}{s:St}{β:Ren}{w:World}
 (h:Rel P β s w) (ha:LRel P β args.toList args'.toList) (b:gJ P code fn c args s≠.stuck) (a:(gJ P code fn c args s).free β s):Calls P f args' w (VQ P β s w (gJ P code fn c args s)):=by
 unfold gJ at b a ⊢
 cases j:Nat.ble (yD args.toList 0) fn.ntmps&&Nat.ble fn.ntmps 65534&&xT c with
 |false=>rw[j]at b;exact(b rfl).elim
 |true=>
  rw[j]at b a
  simp only at b a ⊢
  simp only[aG,Nat.ble_eq,yd]at j
  obtain⟨⟨hl1,y⟩,r⟩:=j
  have x:=FRel.make (n:=fn.ntmps) ha O y
  have m:=fun h1 h2=>k c (Fr.make args fn.ntmps) _ s β w w.heap.size none r (.inl rfl) h x trivial Z3 h1 h2
  refine(callsFW (ro:=none) (n:=0)).1 (callsIn_of_wp_marks u hb trivial ?_)
  -- a function's end
  have fin:∀(a₁:Fr) (s₁:St) (a₂:Act) (w₂:World) (β':Ren),finish P fn a₁ s₁≠.stuck→(finish P fn a₁ s₁).free β s→Ext P β s w β' s₁ w₂→FRel P β' a₁ a₂→Marks w.heap.size β' s₁ w₂ a₂.defers →
   LeavesInM (FW none) 0 P fn a₂.tmps (VQ P β s w (finish P fn a₁ s₁)) a₂.defers .returning w₂:=by
   intro a₁ s₁ a₂ w₂ β' b a hx g i
   refine ug Y8 a₂.defers w₂ i fun w₃ hs=>?_
   cases d:finish P fn a₁ s₁ with
   |stuck=>exact(b d).elim
   |panic c' s'=>
    exfalso
    unfold finish at d
    (repeat' split at d)<;>cases d
   |ret v s'=>
    have e1:s'=s₁:=by
     unfold finish at d
     (repeat' split at d)<;>cases d<;>rfl
    subst e1
    have p:=hx.shut hs
    obtain⟨_,v',g1,g2⟩:=zaA p.rel g d
    exact⟨v',g1,β',v',rfl,p,g2⟩
  have finOK:∀(a₁:Fr) (s₁:St),finish P fn a₁ s₁≠.stuck→(finish P fn a₁ s₁).free β s→Free β s s₁:=by
   intro a₁ s₁ b a
   unfold finish at b a
   cases z:qR P a₁ s₁ fn.results.toList with
   |none=>rw[z]at b;exact(b rfl).elim
   |some l=>
    rw[z]at a
    rcases l with _|⟨v,_|⟨v2,l⟩⟩<;>exact a
  cases o:code c (Fr.make args fn.ntmps) s with
  |stuck=>rw[o]at b;exact(b rfl).elim
  |exit id a₁ s₁=>rw[o]at b;exact(b rfl).elim
  |panic ch a₁ s₁=>
   rw[o]at a m
   simp only at a ⊢
   refine wpIn_mono (m Y8 a) fun e a₂ w₂ ho=>?_
   obtain⟨q,β',rfl,hx,t,hd⟩:=ho
   exact ug Y8 a₂.defers w₂ hd fun w₃ hs=>⟨β',q,rfl,hx.shut hs,t⟩
  |normal a₁ s₁=>
   rw[o]at a m b
   simp only at a b ⊢
   refine wpIn_mono (m Y8 (finOK a₁ s₁ b a)) fun e a₂ w₂ ho=>?_
   obtain⟨rfl,β',hx,g,i⟩:=ho
   exact fin a₁ s₁ a₂ w₂ β' b a hx g i
  |ret a₁ s₁=>
   rw[o]at a m b
   simp only at a b ⊢
   refine wpIn_mono (m Y8 (finOK a₁ s₁ b a)) fun e a₂ w₂ ho=>?_
   obtain⟨rfl,β',hx,g,i⟩:=ho
   exact fin a₁ s₁ a₂ w₂ β' b a hx g i
theorem wJ(o:TableS P I){code:Code→Fr→St→Out}(n:∀c a s,(code c a s).nextLe s)(j:Jw P code):Jx P (yP P I code):=by
 refine⟨vR o n,fun f args args' s β w l h ha i d=>?_,fun b args args' s β w m r h ha hb p i d=>?_⟩
 ·unfold yP at i d ⊢
  rw[l]at i d ⊢
  simp only at i d ⊢
  cases hg:I f with
  |some g=>
   rw[hg]at i d
   exact o.sound f g hg args args' s β w h ha i d
  |none=>
   rw[hg]at i d
   simp only at i d ⊢
   cases k:P.funcs[f]? with
   |none=>rw[k]at i;exact(i rfl).elim
   |some fn=>
    rw[k]at i d
    simp only at i d ⊢
    cases hb:fn.body with
    |none=>rw[hb]at i;exact(i rfl).elim
    |some c=>
     rw[hb]at i d
     simp only at i d ⊢
     exact zdk j k hb h ha i d
 ·have e:yP P I code (zu+b) args s=vx code b args s:=by
   unfold yP
   have h1:Nat.ble zu (zu+b)=true:=by simp
   rw[h1]
   simp only[eS]
  rw[e]at i d ⊢
  exact zbF n j h ha hb p i d
theorem zbP(hI:TableS P I){code:Code→Fr→St→Out}(Z:∀c a s,(code c a s).nextLe s)(Y:Jw P code){f:Operand}{ps:Array Tmp}{x y:Code}{a:Fr}{a':Act}{s:St}{β:Ren}{w:World}{lo:Nat}
 (hfB:kZ f=true) (h:Rel P β s w) (hf:FRel P β a a') (hm:Marks lo β s w a'.defers) (hlo:lo≤w.heap.size) (j:kT P I code f ps x y a s≠.stuck) (i:(kT P I code f ps x y a s).free β s) :
 (Code.rangeFunc f ps x y).wpIn (FW none) 0 P (OutP P lo β s w (kT P I code f ps x y a s)) a' w:=by
 have hcs:=wJ hI Z Y
 have n:=XT hI Z f ps x y a s
 refine wpIn_rangeFunc fun fn _=>?_
 unfold kT at j i n ⊢
 cases B:s.room with
 |false=>rw[B]at j;exact(j rfl).elim
 |true=>
  rw[B]at j i n
  simp only at j i n ⊢
  cases hv:jL P (a.eval f) [.func (.yield s.next) ⟨[]⟩ ⟨[]⟩] (s.new (.loop {fr:=a.norm,params:=ps.toList,assign:=x,body:=y,state:=.ready,pend:=none}))with
  |stuck=>rw[hv]at j;exact(j rfl).elim
  |panic v s'=>rw[hv]at j;exact(j rfl).elim
  |ok nx s₁=>
   rw[hv]at j i n
   cases nx with
   |enter g args=>
    simp only at j i n ⊢
    have hs1:=Z9 hv
    subst hs1
    cases J:Nat.ble zu g with
    |true=>rw[J]at j;exact(j rfl).elim
    |false=>
     rw[J]at j i n
     simp only at j i n ⊢
     have S:=vR hI Z g args (s.new (.loop {fr:=a.norm,params:=ps.toList,assign:=x,body:=y,state:=.ready,pend:=none}))
     -- the block is free
     have Q:∀s₂:St,s.next+1≤s₂.next→Free β s s₂→β s.next=none:=fun s₂ h1 h2=>h2 s.next Z3 O
     have T:s.next<281474976710655:=wh B
     -- whatever the call's outcome is,its last state is free
     have hfr2:∃s₂:St,s.next+1≤s₂.next∧Free β s s₂∧(∀v s',yP P I code g args (s.new (.loop {fr:=a.norm,params:=ps.toList,assign:=x,body:=y,state:=.ready,pend:=none}))=.ret v s'→s'=s₂) ∧
      (∀c s',yP P I code g args (s.new (.loop {fr:=a.norm,params:=ps.toList,assign:=x,body:=y,state:=.ready,pend:=none}))=.panic c s'→s'=s₂):=by
      cases K:yP P I code g args (s.new (.loop {fr:=a.norm,params:=ps.toList,assign:=x,body:=y,state:=.ready,pend:=none}))with
      |stuck=>rw[K]at j;exact(j rfl).elim
      |panic c s₂=>
       rw[K]at i S
       exact⟨s₂,S,i,fun _ _ e=>(by cases e),fun _ _ e=>(by cases e;rfl)⟩
      |ret v s₂=>
       rw[K]at i S j
       simp only at i j
       refine⟨s₂,S,?_,fun _ _ e=>(by cases e;rfl),fun _ _ e=>(by cases e)⟩
       split at j
       ·rename_i lp t hg
        rw[t,hg]at i
        simp only at i
        split at j
        ·exact(j rfl).elim
        ·rename_i hst
         rw[hst]at i
         simp only at i
         split at j
         ·rename_i hp;rw[hp]at i;exact i
         ·rename_i hp;rw[hp]at i;exact i
         ·rename_i hp;rw[hp]at i;exact i
         ·exact(j rfl).elim
       ·exact(j rfl).elim
     obtain⟨s₂,hs2,N,hret,hpan⟩:=hfr2
     have hb0:=Q s₂ hs2 N
     -- the two blocks
     let W:=(w.alloc (.deferred (some []))).alloc (.loop {state:=.ready,pending:=none,fn,tmps:=a'.tmps,params:=ps,assign:=x,body:=y,defers:=w.heap.size})
     have hx0:=Ext.alloc h (.deferred (some []))
     let m:Img:=⟨w.heap.size+1,0,0,0,false⟩
     have hsz:(w.alloc (.deferred (some []))).heap.size=w.heap.size+1:=by show(w.heap.push _).size=_;simp
     have hx1:Ext P β s (w.alloc (.deferred (some []))) (β.add s.next m) (s.new (.loop {fr:=a.norm,params:=ps.toList,assign:=x,body:=y,state:=.ready,pend:=none})) W:=
      Ext.new hx0.rel T hb0 (by rw[hsz]) (.loop hf.norm rfl rfl rfl rfl rfl)
     have hfrA:Free β s s:=fun k l u=>by omega
     have H:Free β s (s.new (.loop {fr:=a.norm,params:=ps.toList,assign:=x,body:=y,state:=.ready,pend:=none})):=fun k l u=>N k l (by
      have u:k<s.next+1:=u
      omega)
     have C:=hx0.trans hx1 H
     have X:(β.add s.next m) s.next=some m:=Ren.add_self
     -- the marks
     have hmk:Marks lo (β.add s.next m) (s.new (.loop {fr:=a.norm,params:=ps.toList,assign:=x,body:=y,state:=.ready,pend:=none})) W ({target:=.collected w.heap.size,args:= #[]}::a'.defers):=by
      refine⟨⟨w.heap.size,rfl,hlo,?_,fun b mm hb hlt=>?_,fun d' hd hh=>?_⟩,hm.ext C H⟩
      ·show((w.heap.push _).push _)[w.heap.size]? = _
       rw[Array.getElem?_push,aD Y8,Array.getElem?_push,aF rfl]
      ·by_cases e:b=s.next
       ·subst e;rw[X]at hb;cases hb;show w.heap.size+1≠_;omega
       ·have hb':β b=some mm:=by simpa[Ren.add,e]using hb
        have hlt:b<s.next+1:=hlt
        have:=h.img b mm hb' O
        omega
      ·have:∀ds,Marks lo β s w ds→d'∈ds→False:=by
        intro ds
        induction ds with
        |nil=>intro _ hd;cases hd
        |cons d ds ih=>
         rintro⟨⟨r,h1,_,h2,_⟩,K⟩ hd
         rcases aL.1 hd with e|hd
         ·subst e
          rw[h1]at hh
          have hh:Target.collected r=.collected w.heap.size:=hh
          cases hh
          have:=(Array.getElem?_eq_some_iff.1 h2).1
          omega
         ·exact ih K hd
       exact this _ hm hd
     have U:Marks lo (β.add s.next m) (s.new (.loop {fr:=a.norm,params:=ps.toList,assign:=x,body:=y,state:=.ready,pend:=none})) W ([{target:=.collected w.heap.size,args:= #[]}]++a'.defers):=hmk
     -- the call
     have hvr:VRel P (β.add s.next m) (.func (.yield s.next) ⟨[]⟩ ⟨[]⟩) (.func (.yield (w.heap.size+1)) ⟨[]⟩ ⟨[]⟩):=.yield X
     have hop:=VG C.rel ((hf.mono C.le).eval hfB) (.cons hvr .nil)
     rw[hv]at hop
     obtain⟨β₁,w₁,n',hrun,M,args',rfl,V⟩:=hop (fun k l u=>by omega)
     have p:(resolve a'.eval (rangeCall f (w.heap.size+1)) 0 >>= fun d=>invoke d.target d.args).run P W=.ok (.enter g args') w₁:=by
      have e:resolve a'.eval (rangeCall f (w.heap.size+1)) 0=Deferred.ofValue (a'.eval f) ⟨[.func (.yield (w.heap.size+1)) ⟨[]⟩ ⟨[]⟩]⟩:=by
       simp[resolve,rangeCall,Act.eval]
      rw[e]
      exact hrun
     rw[Sem.run_bind]at p
     cases L:(resolve a'.eval (rangeCall f (w.heap.size+1)) 0).run P W with
     |halt hh ww=>rw[L]at p;cases p
     |ok d W₁=>
      rw[L]at p
      simp only[Result.andThen_ok]at p
      refine⟨w.heap.size+1,[{target:=.collected w.heap.size,args:= #[]}],W,d,W₁,g,args',w₁,run_enterLoop_outer fn a'.tmps ps x y,L,fun _ _=>trivial,p,nofun,?_⟩
      have D:=C.trans M H
      have q:=hcs.2.1 g args args' _ β₁ w₁ J M.rel V
      cases K:yP P I code g args (s.new (.loop {fr:=a.norm,params:=ps.toList,assign:=x,body:=y,state:=.ready,pend:=none}))with
      |stuck=>rw[K]at j;exact(j rfl).elim
      |panic c s₃=>
       have e:=hpan c s₃ K
       subst e
       rw[K]at q
       refine(callsFW.2 (q Y8 (D.freeOf N))).mono fun e w₃ ho=>?_
       obtain⟨β₃,c',rfl,A,hch⟩:=ho
       exact⟨c',β₃,rfl,D.trans A N,hch,(U.ext (M) (fun k l u=>by omega)).ext A (D.freeOf N)⟩
      |ret v s₃=>
       have e:=hret v s₃ K
       subst e
       rw[K]at q j i
       simp only at j i ⊢
       refine(callsFW.2 (q Y8 (D.freeOf N))).mono fun e w₃ ho=>?_
       obtain⟨β₃,v',rfl,A,_⟩:=ho
       have hx4:=D.trans A N
       have hmk3:=(U.ext (M) (fun k l u=>by omega)).ext A (D.freeOf N)
       have hb3:β₃ s.next=some m:=A.le _ _ (M.le _ _ X)
       cases t:s₃.may s.next with
       |false=>rw[t]at j;exact(j rfl).elim
       |true=>
        rw[t]at j i
        cases hg:s₃.get s.next with
        |none=>rw[hg]at j;exact(j rfl).elim
        |some o=>
         cases o with
         |cells c e=>rw[hg]at j;exact(j rfl).elim
         |map es c=>rw[hg]at j;exact(j rfl).elim
         |loop lp=>
          rw[hg]at j i
          simp only at j i ⊢
          obtain⟨r,g1,gft,gp,gA,gB,gs,gj⟩:=A.rel.loop hb3 hg
          have F:zdh lp.state=false:=by
           cases F:zdh lp.state with
           |true=>rw[F]at j;exact(j rfl).elim
           |false=>rfl
          have hnb:lp.state≠.busy:=fun e=>by rw[e]at F;cases F
          rw[F]at j ⊢
          simp only at j ⊢
          have hx5:Ext P β₃ s₃ w₃ β₃ (s₃.put s.next (some (.loop {lp with state:=.exhausted}))) (w₃.putObj m.blk (.loop {r with state:=.exhausted})):=
           Ext.putLoop A.rel hb3 t hg g1 (.loop gft gp gA gB rfl gj)
          have R:Free β₃ s₃ (s₃.put s.next (some (.loop {lp with state:=.exhausted}))):=fun k l u=>by
           have u:k<s₃.next:=u
           omega
          have E:=hx4.trans hx5 (fun k l u=>N k l u)
          have z:=hmk3.ext hx5 R
          have G:FRel P β₃ a {a' with defers:=[{target:=.collected w.heap.size,args:= #[]}]++a'.defers}:=(hf.trel.mono E.le).frel _
          refine⟨lp.pend,w₃.putObj m.blk (.loop {r with state:=.exhausted}),by rw[←gj];exact run_endLoop g1 (by rw[gs];exact hnb),?_⟩
          cases hpd:lp.pend with
          |none=>
           rw[hpd]at E z
           exact⟨rfl,β₃,E,G,z⟩
          |some c=>
           rw[hpd]at j E z
           cases c with
           |ret=>exact wpIn_ret ⟨rfl,β₃,E,G,z⟩
           |exit id=>exact wpIn_exit ⟨rfl,β₃,E,G,z⟩
           |_=>exact(j rfl).elim
   |_=>exact(j rfl).elim
theorem JU(u:TableS P I){b:Code}(hb:xT b=true)(lo:Nat)(ro:Option Nat)(t:ro=none∨kB b=true){n:Nat}(v:∀m,m<n→Jw P (zT P I m)):∀m,m≤n→∀(a:Fr) (a':Act) (s:St) (β:Ren) (w:World),Rel P β s w→FRel P β a a'→Marks lo β s w a'.defers→lo≤w.heap.size →
 zT P I m (.loop b) a s≠.stuck→(zT P I m (.loop b) a s).free β s→∀Q:Exit→Act→World→Prop,(∀e a₂ w₂,OutP P lo β s w (zT P I m (.loop b) a s) e a₂ w₂→Q e a₂ w₂)→Code.roundsIn (FW ro) 0 P b Q m a' w:=by
 intro m
 induction m with
 |zero=>intro _ a a' s β w _ _ _ _ f;exact(f rfl).elim
 |succ m ihm=>
  intro hm a a' s β w h hf r k f d Q g
  have hn:=ux u m
  unfold zT at f d g
  simp only at f d g
  rw[roundsIn_succ]
  have i:=fun h1 h2=>v m O b a a' s β w lo ro hb t h hf r k h1 h2
  cases o:zT P I m b a s with
  |stuck=>rw[o]at f;exact(f rfl).elim
  |normal a₁ s₁=>
   rw[o]at f d g i
   simp only at f d g
   have q:Free β s s₁:=Out.free_of (hn _ _ _) d f
   refine wpIn_mono (i Y8 q) fun e a₂ w₂ ho=>?_
   obtain⟨rfl,β',hx,p,l⟩:=ho
   exact ihm O a₁ a₂ s₁ β' w₂ hx.rel p l (bH k hx.size) f (hx.outFree d) Q fun e a₃ w₃ ho=>g e a₃ w₃ (ho.trans hx d)
  |exit id a₁ s₁=>
   rw[o]at d g i
   refine wpIn_mono (i Y8 d) fun e a₂ w₂ ho=>?_
   have:=ho.1
   subst this
   exact g _ _ _ ho
  |ret a₁ s₁=>
   rw[o]at d g i
   refine wpIn_mono (i Y8 d) fun e a₂ w₂ ho=>?_
   have:=ho.1
   subst this
   exact g _ _ _ ho
  |panic c a₁ s₁=>
   rw[o]at d g i
   refine wpIn_mono (i Y8 d) fun e a₂ w₂ ho=>?_
   obtain⟨c',β',rfl,j⟩:=ho
   exact g _ _ _ ⟨c',β',rfl,j⟩
theorem zfi(F:P.follows .mixedOrders=true)(E:TableS P I):∀n,Jw P (zT P I n):=by
 intro n
 induction n using Nat.strongRecOn with
 |_ n L=>
  cases n with
  |zero=>intro c a a' s β w lo ro _ _ _ _ _ _ g;exact(g rfl).elim
  |succ n=>
   intro c a a' s β w lo ro i p h hf m r g d
   have ihn:=L n O
   have hn:=ux E n
   have v:=wJ E hn ihn
   have C:=wK E (Qg E n)
   cases c with
   |skip=>
    unfold zT at d ⊢
    exact wpIn_skip ⟨rfl,β,Ext.refl h,hf,m⟩
   |label k=>
    unfold zT at d ⊢
    exact wpIn_label ⟨rfl,β,Ext.refl h,hf,m⟩
   |exit id=>
    unfold zT at d ⊢
    exact wpIn_exit ⟨rfl,β,Ext.refl h,hf,m⟩
   |ret=>
    unfold zT at d ⊢
    exact wpIn_ret ⟨rfl,β,Ext.refl h,hf,m⟩
   |seq x y=>
    simp only[xT,aG]at i
    unfold zT at g d ⊢
    simp only at g d ⊢
    refine wpIn_seq ?_
    have q:=fun h1 h2=>ihn x a a' s β w lo ro i.1 (p.imp id fun h=>by simp only[kB,aG]at h;exact h.1) h hf m r h1 h2
    cases t:zT P I n x a s with
    |stuck=>rw[t]at g;exact(g rfl).elim
    |normal a₁ s₁=>
     rw[t]at g d q
     simp only at g d ⊢
     have K:Free β s s₁:=Out.free_of (hn y a₁ s₁) d g
     refine wpIn_mono (q Y8 K) fun e a₂ w₂ ho=>?_
     obtain⟨rfl,β',hx,J,G⟩:=ho
     exact wpIn_mono (ihn y a₁ a₂ s₁ β' w₂ lo ro i.2 (p.imp id fun h=>by simp only[kB,aG]at h;exact h.2) hx.rel J G (bH r hx.size) g (hx.outFree d)) fun e a₃ w₃ ho=>ho.trans hx d
    |exit id a₁ s₁=>
     rw[t]at d q
     refine wpIn_mono (q Y8 d) fun e a₂ w₂ ho=>?_
     have:=ho.1
     subst this
     exact ho
    |ret a₁ s₁=>
     rw[t]at d q
     refine wpIn_mono (q Y8 d) fun e a₂ w₂ ho=>?_
     have:=ho.1
     subst this
     exact ho
    |panic c a₁ s₁=>
     rw[t]at d q
     refine wpIn_mono (q Y8 d) fun e a₂ w₂ ho=>?_
     obtain⟨c',β',rfl,j⟩:=ho
     exact⟨c',β',rfl,j⟩
   |cond c x y=>
    simp only[xT,aG]at i
    unfold zT at g d ⊢
    simp only at g d ⊢
    have hv:=hf.eval i.1.1
    generalize hev:a.eval c=u at hv g d ⊢
    split at g
    ·simp only at d ⊢
     generalize z:a'.eval c=M at hv
     cases hv
     exact wpIn_cond_true z (ihn x a a' s β w lo ro i.1.2 (p.imp id fun h=>by simp only[kB,aG]at h;exact h.1) h hf m r g d)
    ·simp only at d ⊢
     generalize z:a'.eval c=M at hv
     cases hv
     exact wpIn_cond_false z (ihn y a a' s β w lo ro i.2 (p.imp id fun h=>by simp only[kB,aG]at h;exact h.2) h hf m r g d)
    ·exact(g rfl).elim
   |block id b=>
    simp only[xT]at i
    unfold zT at g d ⊢
    simp only at g d ⊢
    refine wpIn_block ?_
    have q:=fun h1 h2=>ihn b a a' s β w lo ro i p h hf m r h1 h2
    cases t:zT P I n b a s with
    |stuck=>rw[t]at g;exact(g rfl).elim
    |normal a₁ s₁=>
     rw[t]at d q
     refine wpIn_mono (q Y8 d) fun e a₂ w₂ ho=>?_
     have:=ho.1
     subst this
     exact ho
    |exit H a₁ s₁=>
     rw[t]at d q
     simp only at d ⊢
     cases B:Nat.beq H id with
     |true=>
      rw[B]at d
      simp only at d ⊢
      have A:=aJ B
      refine wpIn_mono (q Y8 d) fun e a₂ w₂ ho=>?_
      obtain⟨rfl,j⟩:=ho
      simp only[Exit.inBlock,A,dP]
      exact⟨rfl,j⟩
     |false=>
      rw[B]at d
      simp only at d ⊢
      have A:¬H=id:=fun e=>by subst e;simp at B
      refine wpIn_mono (q Y8 d) fun e a₂ w₂ ho=>?_
      obtain⟨rfl,j⟩:=ho
      simp only[Exit.inBlock,A,cK]
      exact⟨rfl,j⟩
    |ret a₁ s₁=>
     rw[t]at d q
     refine wpIn_mono (q Y8 d) fun e a₂ w₂ ho=>?_
     have:=ho.1
     subst this
     exact ho
    |panic c a₁ s₁=>
     rw[t]at d q
     refine wpIn_mono (q Y8 d) fun e a₂ w₂ ho=>?_
     obtain⟨c',β',rfl,j⟩:=ho
     exact⟨c',β',rfl,j⟩
   |loop b=>
    simp only[xT]at i
    exact wpIn_loop_rounds (n+1) (JU E i lo ro p (n:=n+1) L (n+1) Z3 a a' s β w h hf m r g d _ fun _ _ _ ho=>ho)
   |region id ops draw=>
    simp only[xT]at i
    unfold zT at g d ⊢
    simp only at g d ⊢
    cases draw with
    |false=>
     simp only at g d ⊢
     refine wpIn_region_list (Xj v ro ops ops.toList (fun o ho=>?_) a a' s β w h hf m g d _ fun _ _ _ ho=>ho)
     rw[List.all_eq_true]at i
     exact i o ho
    |true=>
     simp only at g d ⊢
     cases D:Zt ops.toList (plan ops.toList)with
     |false=>rw[D]at g;exact(g rfl).elim
     |true=>
      rw[D]at g d
      simp only at g d ⊢
      exact zeX F v C D i h hf m ro g d
   |scope b=>
    simp only[xT]at i
    unfold zT at g d ⊢
    simp only at g d ⊢
    refine zdT (wpIn_mono (ihn b a a' s β w lo ro i p h hf m r g d) fun e a₂ w₂ ho=>?_)
    cases e with
    |goto l=>
     cases t:zT P I n b a s with
     |stuck=>rw[t]at ho;exact ho
     |normal a₁ s₁=>rw[t]at ho;cases ho.1
     |exit id a₁ s₁=>rw[t]at ho;cases ho.1
     |ret a₁ s₁=>rw[t]at ho;cases ho.1
     |panic c a₁ s₁=>rw[t]at ho;obtain⟨_,_,e,_⟩:=ho;cases e
    |_=>exact ho
   |rangeFunc f ps x y=>
    rcases p with rfl|p
    ·simp only[xT,aG]at i
     unfold zT at g d ⊢
     simp only at g d ⊢
     exact zbP E hn ihn i.1.1 h hf m r g d
    ·cases p
   |_=>exact(g rfl).elim
theorem call_ok(a:P.follows .mixedOrders=true)(b:TableS P I)(n:Nat):Jx P (Zx P I n):=
 wJ b (ux b n) (zfi a b n)
end
theorem wM{a b:Nat}(h:a<b):Nat.blt a b=true:=aZ h
theorem blt_false{a b:Nat}(h:¬a<b):Nat.blt a b=false:=by
 cases e:Nat.blt a b with
 |false=>rfl
 |true=>exact(h (aR e)).elim
abbrev FF:=Nat→Value
def upd(F:FF)(d:Option Nat)(v:Value):FF:=
 match d with
 |some d=>fun t=>match Nat.beq t d with
  |true=>v
  |false=>F t
 |none=>F
theorem vh(F:FF)(d:Nat)(v:Value)(t:Nat):upd F (some d) v t=if t=d then v else F t:=by
 simp only[upd]
 cases h:Nat.beq t d with
 |true=>rw[aF (aJ h)]
 |false=>rw[aD (fun e=>by rw[e]at h;simp at h)]
def zd(F:FF):Operand→Value
 | .tmp t=>F t
 | .const v=>v
 | .global g=>.pointer (some ⟨g,0,none⟩)
 | .func f=>.func (.func f) #[] #[]
inductive FOut where
 |normal (F:FF) (s:St)
 |exit (id:Nat) (F:FF) (s:St)
 |ret (F:FF) (s:St)
 |stuck
def yi(ops:List Oper)(F:FF)(o:Oper):Bool:=
 match o.guard with
 |none=>true
 |some (j,want)=>match zF ops j with
  |some q=>match q.dst with
   |some d=>match F d with
    | .bool b=>b==want
    |_=>false
   |none=>false
  |none=>false
section
variable(P:Program)(call:FuncId→Array Value→St→CallOut)
def opF(o:Oper)(F:FF)(s:St):FOut:=
 match zh P (zd F) o.op s with
 | .ok (.value v) s=>.normal (upd F o.dst v) s
 | .ok .skip s=>.normal (upd F o.dst undef) s
 | .ok (.enter f args) s=>
  match Nat.ble zu f with
  |true=>.stuck
  |false=>match call f args s with
   | .ret v s=>.normal (upd F o.dst v) s
   |_=>.stuck
 | .ok (.round b _ args _ _) s=>
  match call (zu+b) args s with
  | .ret v s=>.normal (upd F o.dst v) s
  |_=>.stuck
 |_=>.stuck
def zcc(ops:List Oper):List Oper→FF→St→FOut
 | [],F,s=>.normal F s
 |o::rest,F,s=>
  match yi ops F o with
  |true=>match opF P call o F s with
   | .normal F s=>zcc ops rest F s
   |_=>.stuck
  |false=>zcc ops rest (upd F o.dst undef) s
def yx(F:FF)(o:Oper):Option Nat:=
 match o.op with
 | .load _ x=>match zd F x with
  | .pointer (some p)=>some p.block
  |_=>none
 | .slice _ x _ _ none=>match zd F x with
  | .slice (some p) _ _=>some p.block
  | .pointer (some p)=>some p.block
  |_=>none
 | .alloc _=>match o.dst with
  |some t=>match F t with
   | .pointer (some p)=>some p.block
   |_=>none
  |none=>none
 | .buildSlice _ _ _=>match o.dst with
  |some t=>match F t with
   | .slice (some p) _ _=>some p.block
   |_=>none
  |none=>none
 |_=>none
def yf(ops:List Oper)(F:FF):List Nat→List Nat
 | []=>[]
 |i::l=>match zF ops i with
  |some o=>match yx F o with
   |some b=>b::yf ops F l
   |none=>yf ops F l
  |none=>yf ops F l
def vP(ops:List Oper)(d:Drawn)(o:Oper)(F:FF)(s:St):FOut:=
 match yi ops F o with
 |true=>match d.how with
  | .light=>match opF P call o F {next:=s.next,bar:=s.next,prot:=[],heap:=only s (yx F o)}with
   | .normal F s'=>match Nat.beq s'.next s.next with
    |true=>.normal F s
    |false=>.stuck
   |_=>.stuck
  | .whole=>match opF P call o F {s with prot:=yf ops F d.free++s.prot}with
   | .normal F s'=>.normal F {next:=s'.next,bar:=s.bar,prot:=s.prot,heap:=s'.heap}
   |_=>.stuck
  | .fresh=>match opF P call o F {s with bar:=s.next}with
   | .normal F s'=>.normal F {next:=s'.next,bar:=s.bar,prot:=s.prot,heap:=s'.heap}
   |_=>.stuck
  | .new=>match opF P call o F {next:=s.next,bar:=s.next,prot:=[],heap:=.nil}with
   | .normal F s'=>match Nat.beq s'.next (s.next+1)&&s.room,yx F o,s'.get s.next with
    |true,some b,some ob=>match Nat.beq b s.next with
     |true=>.normal F (s.new ob)
     |false=>.stuck
    |_,_,_=>.stuck
   |_=>.stuck
 |false=>.normal (upd F o.dst undef) s
def gz(ops:List Oper):List Drawn→FF→St→FOut
 | [],F,s=>.normal F s
 |d::rest,F,s=>match zF ops d.ix with
  |some o=>match vP P call ops d o F s with
   | .normal F s=>gz ops rest F s
   |_=>.stuck
  |none=>.stuck
end
def frF(F:FF)(N:Nat):Fr:=.make ⟨Zu F N []⟩ N
def KC(P:Program)(I:zU)(code:Code→Fr→St→Out)(N:Nat)(f:Operand)(ps:Array Tmp)(x y:Code)(F:FF)(s:St):FOut:=
 match kT P I code f ps x y (frF F N) s with
 | .normal _ s=>.normal F s
 | .ret _ s=>.ret F s
 | .exit id _ s=>.exit id F s
 |_=>.stuck
def xj(P:Program)(I:zU)(N:Nat):Nat→Code→FF→St→FOut
 |0,_,_,_=>.stuck
 |n+1,c,F,s=>
  match c with
  | .skip | .label _=>.normal F s
  | .seq x y=>match xj P I N n x F s with
   | .normal F s=>xj P I N n y F s
   |r=>r
  | .cond c x y=>match zd F c with
   | .bool true=>xj P I N n x F s
   | .bool false=>xj P I N n y F s
   |_=>.stuck
  | .block id b=>match xj P I N n b F s with
   | .exit a F s=>match Nat.beq a id with
    |true=>.normal F s
    |false=>.exit a F s
   |r=>r
  | .loop b=>match xj P I N n b F s with
   | .normal F s=>xj P I N n (.loop b) F s
   |r=>r
  | .exit id=>.exit id F s
  | .ret=>.ret F s
  | .region _ ops draw=>match draw with
   |false=>zcc P (yP P I (zT P I n)) ops.toList ops.toList F s
   |true=>match Zt ops.toList (plan ops.toList)with
    |true=>gz P (yP P I (zT P I n)) ops.toList (plan ops.toList) F s
    |false=>.stuck
  | .rangeFunc f ps x y=>KC P I (zT P I n) N f ps x y F s
  | .scope b=>xj P I N n b F s
  |_=>.stuck
structure Agrees(N:Nat)(F:FF)(a:Fr):Prop where
 size:a.size=N
 small:N≤65534
 get:∀t,t<N→a.get t=F t
theorem Fr.get_put'{a:Fr}{d t:Nat}{v:Value}(hs:a.size≤65534)(hd:d<a.size):(a.put (some d) v).get t=if t=d then v else a.get t:=by
 have hb:Nat.blt d a.size=true:=wM hd
 have hp:d+1<2 ^ vK:=by simp[vK];omega
 simp only[Fr.put,hb,Fr.get,Tr.get_put _ _ _ _ _ hp]
 by_cases e:t=d
 ·rw[aF e,aF e]
 ·rw[aD e,aD e]
theorem Fr.put_size{a:Fr}{d:Option Nat}{v:Value}:(a.put d v).size=a.size:=by
 cases d with
 |none=>rfl
 |some d=>simp only[Fr.put];split<;>rfl
theorem Agrees.put{N:Nat}{F:FF}{a:Fr}(h:Agrees N F a)(d:Option Nat)(v:Value):Agrees N (upd F d v) (a.put d v):=by
 refine⟨Fr.put_size.trans h.size,h.small,fun t b=>?_⟩
 cases d with
 |none=>exact h.get t b
 |some d=>
  by_cases hd:d<a.size
  ·rw[Fr.get_put' (by rw[h.size];exact h.small) hd]
   rw[vh]
   split
   ·rfl
   ·exact h.get t b
  ·have hb:Nat.blt d a.size=false:=blt_false hd
   simp only[Fr.put,hb,vh]
   rw[aD (by have:=h.size;omega)]
   exact h.get t b
def Yt(N:Nat):Operand→Bool
 | .tmp t=>Nat.blt t N
 |_=>true
def zgI(N:Nat)(ops:List Oper)(o:Oper):Bool:=
 match o.guard with
 |none=>true
 |some (j,_)=>match zF ops j with
  |some q=>match q.dst with
   |some d=>Nat.blt d N
   |none=>true
  |none=>true
def VO(N:Nat)(o:Oper):Bool:=
 match o.op with
 | .alloc _ | .buildSlice _ _ _=>match o.dst with
  |some t=>Nat.blt t N
  |none=>true
 |_=>true
def ZQ(N:Nat)(ops:List Oper)(o:Oper):Bool:=zgI N ops o&&VO N o
def opsN(N:Nat)(ops:List Oper):Bool:=ops.all fun o=>o.op.operands.toList.all (Yt N)&&ZQ N ops o
def q7(N:Nat):Code→Bool
 | .region _ ops _=>opsN N ops.toList
 | .seq a b=>q7 N a&&q7 N b
 | .cond c a b=>Yt N c&&q7 N a&&q7 N b
 | .block _ b=>q7 N b
 | .loop b=>q7 N b
 | .rangeFunc f _ _ _=>Yt N f
 | .scope b=>q7 N b
 |_=>true
theorem Agrees.eval{N:Nat}{F:FF}{a:Fr}(h:Agrees N F a){x:Operand}(hx:Yt N x=true):a.eval x=zd F x:=by
 cases x with
 |tmp t=>exact h.get t (aR hx)
 |_=>rfl
theorem XX{g a:Nat→Value}:∀(n:Nat) (l:List Value),(∀t,t<n→g t=a t)→Zu g n l=Zu a n l
 |0,_,_=>rfl
 |n+1,l,h=>by rw[Zu,Zu,h n O];exact XX n _ fun t ht=>h t O
theorem Vl{N:Nat}(F:FF)(h:N≤65534):Agrees N F (frF F N):=by
 refine⟨J,h,fun t a=>?_⟩
 unfold frF Fr.make
 rw[KU,bM]
 show(match (YP ((List.range N).map F) 0 .nil).get t with|some v=>v|none=>undef)=_
 rw[Zl _ _ _ _ (by simp;omega),aF (by simp;omega)]
 simp[a]
theorem Agrees.norm{N:Nat}{F:FF}{a:Fr}(h:Agrees N F a):a.norm=frF F N:=by
 unfold Fr.norm frF
 rw[h.size,XX N [] h.get]
theorem range_sim{P:Program}{I:zU}{code:Code→Fr→St→Out}{f:Operand}{ps:Array Tmp}{x y:Code}{s:St}{a a':Fr}(he:a.eval f=a'.eval f)(hn:a.norm=a'.norm) :
 kT P I code f ps x y a s=(match kT P I code f ps x y a' s with
  | .normal _ s=>.normal a s
  | .ret _ s=>.ret a s
  | .exit id _ s=>.exit id a s
  | .panic c _ s=>.panic c a s
  |r=>r):=by
 unfold kT
 rw[he,hn]
 cases s.room with
 |false=>rfl
 |true=>
  simp only
  generalize jL P _ _ _=r
  cases r with
  |ok n s₁=>cases n with
   |enter g args=>
    simp only
    cases Nat.ble zu g with
    |true=>rfl
    |false=>
     simp only
     cases yP P I code g args s₁ with
     |ret v s₂=>
      simp only
      cases s₂.may s.next with
      |false=>rfl
      |true=>cases s₂.get s.next with
       |none=>rfl
       |some o=>cases o with
        |loop lp=>
         simp only
         cases zdh lp.state with
         |true=>rfl
         |false=>
          simp only
          cases lp.pend with
          |none=>rfl
          |some c=>cases c<;>rfl
        |_=>rfl
     |_=>rfl
   |_=>rfl
  |_=>rfl
end Go.M
