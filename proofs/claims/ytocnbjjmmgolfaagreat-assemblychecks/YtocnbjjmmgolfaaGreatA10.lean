/- Code and calls of the abstract machine stand for the model's. -/
/- Loops over functions: marks at a function's end; a round. -/
/- The abstract machine is sound. -/
import Derived.Test.YtocnbjjmmgolfaaGreatA09
import Derived.LoopNIn
import Derived.Scope
namespace Go.M
structure TableS(P:Program)(I:zT):Prop where
 next:∀f g,I f=some g→∀args s,(g args s).nextLe s
 keeps:∀f g,I f=some g→∀args s,WF s→(g args s).keeps s
 sound:∀f g,I f=some g→∀args args' s β w,Rel P β s w→LRel P β args.toList args'.toList→g args s≠.stuck→(g args s).free β s→Calls P f args' w (CallP P β s w (g args s))
def CodeS(P:Program)(code:Code→Fr→St→Out):Prop:=
 ∀c a a' s β w lo ro,yM c=true→(ro=none∨xz c=true)→Rel P β s w→FRel P β a a'→Marks lo β s w a'.defers→lo≤w.heap.size→code c a s≠.stuck→(code c a s).free β s →
  c.wpIn (FW ro) 0 P (OutP P lo β s w (code c a s)) a' w
theorem Out.next_trans{s s₁:St}{r:Out}(h:s.next≤s₁.next)(hr:r.nextLe s₁):r.nextLe s:=by
 cases r<;>first|exact Nat.le_trans h hr|trivial
theorem drawOp_next{P:Program}{call:FuncId→Array Value→St→CallOut}(hc:∀f args s,(call f args s).nextLe s)(ops:List Oper)(d:Drawn)(o:Oper)(a:Fr)(s:St):(yd P call ops d o a s).nextLe s:=by
 unfold yd
 split
 ·split
  ·split
   ·split
    ·exact Nat.le_refl _
    ·trivial
   ·trivial
  ·have h1:=opM_next (P:=P) hc o a {s with prot:=yh ops a d.free++s.prot}
   split
   ·rename_i hr;rw[hr]at h1;exact h1
   ·rename_i hr;rw[hr]at h1;exact h1
   ·trivial
  ·have h1:=opM_next (P:=P) hc o a {s with bar:=s.next}
   split
   ·rename_i hr;rw[hr]at h1;exact h1
   ·trivial
  ·split
   ·split
    ·split
     ·show s.next≤s.next+1;omega
     ·trivial
    ·trivial
   ·trivial
 ·exact Nat.le_refl _
theorem drawM_next{P:Program}{call:FuncId→Array Value→St→CallOut}(hc:∀f args s,(call f args s).nextLe s)(ops:List Oper):∀(l:List Drawn) (a:Fr) (s:St),(drawM P call ops l a s).nextLe s
 | [],a,s=>Nat.le_refl _
 |d::l,a,s=>by
  unfold drawM
  split
  ·rename_i o _
   have h1:=drawOp_next (P:=P) hc ops d o a s
   cases hr:yd P call ops d o a s with
   |normal a₁ s₁=>
    rw[hr]at h1
    exact Out.next_trans h1 (drawM_next hc ops l a₁ s₁)
   |exit id a₁ s₁=>rw[hr]at h1;exact h1
   |ret a₁ s₁=>rw[hr]at h1;exact h1
   |panic c a₁ s₁=>rw[hr]at h1;exact h1
   |stuck=>trivial
  ·trivial
section
variable{P:Program}{I:zT}
theorem bodyM_next{code:Code→Fr→St→Out}(hn:∀c a s,(code c a s).nextLe s)(fn:Func)(c:Code)(args:Array Value)(s:St):(bodyM P code fn c args s).nextLe s:=by
 unfold bodyM
 split
 ·have h1:=hn c (Fr.make args fn.ntmps) s
  split
  ·rename_i hr;rw[hr]at h1
   unfold finish
   split<;>first|exact h1|trivial
  ·rename_i hr;rw[hr]at h1
   unfold finish
   split<;>first|exact h1|trivial
  ·rename_i hr;rw[hr]at h1;exact h1
  ·trivial
 ·trivial
theorem CallOut.next_trans{s s₁:St}{r:CallOut}(h:s.next≤s₁.next)(hr:r.nextLe s₁):r.nextLe s:=by
 cases r<;>first|exact Nat.le_trans h hr|trivial
theorem endM_next{b:Nat}{j:Option Code}{s:St}:(endM b j s).nextLe s:=by
 unfold endM
 split
 ·exact Nat.le_refl _
 ·trivial
theorem roundM_next{code:Code→Fr→St→Out}(hn:∀c a s,(code c a s).nextLe s)(b:Nat)(args:Array Value)(s:St):(qx code b args s).nextLe s:=by
 unfold qx
 split
 ·rename_i lp _
  split
  ·have h1:=hn lp.assign (lp.fr.putAll lp.params args.toList) s
   split
   ·rename_i a₁ s₁ hr
    rw[hr]at h1
    have h1:s.next≤s₁.next:=h1
    split
    ·rename_i lp' _ _
     split
     ·have h2:=hn lp'.body a₁ (s₁.put b (some (.loop {lp' with state:=.busy})))
      have h3:=hn lp.body a₁ (s₁.put b (some (.loop {lp' with state:=.busy})))
      split
      ·rename_i s₂ hr2
       rw[hr2]at h3
       have h3:s₁.next≤s₂.next:=h3
       exact CallOut.next_trans (Nat.le_trans h1 h3) endM_next
      ·rename_i s₂ hr2
       rw[hr2]at h3
       have h3:s₁.next≤s₂.next:=h3
       exact CallOut.next_trans (Nat.le_trans h1 h3) endM_next
      ·rename_i s₂ hr2
       rw[hr2]at h3
       have h3:s₁.next≤s₂.next:=h3
       exact CallOut.next_trans (Nat.le_trans h1 h3) endM_next
      ·trivial
     ·trivial
    ·trivial
   ·trivial
  ·trivial
 ·trivial
theorem callWith_next(hI:TableS P I){code:Code→Fr→St→Out}(hn:∀c a s,(code c a s).nextLe s)(f:FuncId)(args:Array Value)(s:St):(z6 P I code f args s).nextLe s:=by
 unfold z6
 split
 ·exact roundM_next hn _ _ _
 ·rename_i hlow
  split
  ·rename_i g hg;exact hI.next f g hg args s
  ·split
   ·split
    ·rename_i fn _ c _
     exact bodyM_next hn _ _ _ _
    ·trivial
   ·trivial
theorem bodyM_keeps{code:Code→Fr→St→Out}(hk:∀c a s,WF s→(code c a s).keeps s)(fn:Func)(c:Code)(args:Array Value)(s:St)(h:WF s):(bodyM P code fn c args s).keeps s:=by
 unfold bodyM
 split
 ·have h1:=hk c (Fr.make args fn.ntmps) s h
  split
  ·rename_i hr;rw[hr]at h1
   unfold finish
   split<;>first|exact h1|trivial
  ·rename_i hr;rw[hr]at h1
   unfold finish
   split<;>first|exact h1|trivial
  ·rename_i hr;rw[hr]at h1;exact h1
  ·trivial
 ·trivial
theorem endM_keeps{b:Nat}{j:Option Code}{s:St}(h:WF s):(endM b j s).keeps s:=by
 unfold endM
 split
 ·rename_i hm hg
  exact Kp.put h hg hm _
 ·trivial
theorem roundM_keeps{code:Code→Fr→St→Out}(hk:∀c a s,WF s→(code c a s).keeps s)(b:Nat)(args:Array Value)(s:St)(h:WF s):(qx code b args s).keeps s:=by
 unfold qx
 split
 ·rename_i lp _
  split
  ·have h1:=hk lp.assign (lp.fr.putAll lp.params args.toList) s h
   split
   ·rename_i a₁ s₁ hr
    rw[hr]at h1
    have h1:Kp s s₁:=h1
    split
    ·rename_i lp' hm hg
     split
     ·have hp:=Kp.put h1.wf hg hm (some (.loop {lp' with state:=.busy}))
      have h3:=hk lp.body a₁ _ hp.wf
      split
      ·rename_i s₂ hr2
       rw[hr2]at h3
       have h3:Kp _ s₂:=h3
       exact CallOut.keeps_trans (h1.trans (hp.trans h3)) (endM_keeps h3.wf)
      ·rename_i s₂ hr2
       rw[hr2]at h3
       have h3:Kp _ s₂:=h3
       exact CallOut.keeps_trans (h1.trans (hp.trans h3)) (endM_keeps h3.wf)
      ·rename_i s₂ hr2
       rw[hr2]at h3
       have h3:Kp _ s₂:=h3
       exact CallOut.keeps_trans (h1.trans (hp.trans h3)) (endM_keeps h3.wf)
      ·trivial
     ·trivial
    ·trivial
   ·trivial
  ·trivial
 ·trivial
theorem qF(hI:TableS P I){code:Code→Fr→St→Out}(hk:∀c a s,WF s→(code c a s).keeps s)(f:FuncId)(args:Array Value)(s:St)(h:WF s):(z6 P I code f args s).keeps s:=by
 unfold z6
 split
 ·exact roundM_keeps hk _ _ _ h
 ·split
  ·rename_i g hg;exact hI.keeps f g hg args s h
  ·split
   ·split
    ·exact bodyM_keeps hk _ _ _ _ h
    ·trivial
   ·trivial
theorem callV_same{f:Value}{args:List Value}{s s':St}{n:Next}(h:callV P f args s=.ok n s'):s'=s:=by
 unfold callV at h
 (repeat' split at h)<;>cases h<;>rfl
theorem rangeM_keeps(hI:TableS P I){code:Code→Fr→St→Out}(hk:∀c a s,WF s→(code c a s).keeps s)(f:Operand)(ps:Array Tmp)(x y:Code)(a:Fr)(s:St)(h:WF s):(xS P I code f ps x y a s).keeps s:=by
 unfold xS
 split
 ·trivial
 ·rename_i hroom
  have h0:=Kp.new h hroom (.loop {fr:=a.norm,params:=ps.toList,assign:=x,body:=y,state:=.ready,pend:=none})
  split
  ·rename_i g args s₁ hv
   have e:=callV_same hv
   subst e
   split
   ·trivial
   ·have h2:=qF hI hk g args _ h0.wf
    split
    ·rename_i s₂ hr
     rw[hr]at h2
     have h2:Kp _ s₂:=h2
     split
     ·rename_i lp hm hg
      have h3:=Kp.put h2.wf hg hm (some (.loop {lp with state:=.exhausted}))
      split
      ·trivial
      ·split
       ·exact h0.trans (h2.trans h3)
       ·exact h0.trans (h2.trans h3)
       ·exact h0.trans (h2.trans h3)
       ·trivial
     ·trivial
    ·rename_i hr
     rw[hr]at h2
     exact h0.trans h2
    ·trivial
  ·trivial
theorem rangeM_next(hI:TableS P I){code:Code→Fr→St→Out}(hn:∀c a s,(code c a s).nextLe s)(f:Operand)(ps:Array Tmp)(x y:Code)(a:Fr)(s:St):(xS P I code f ps x y a s).nextLe s:=by
 unfold xS
 split
 ·trivial
 ·split
  ·rename_i g args s₁ hv
   have e:=callV_same hv
   subst e
   split
   ·trivial
   ·have h2:=callWith_next hI hn g args (s.new (.loop {fr:=a.norm,params:=ps.toList,assign:=x,body:=y,state:=.ready,pend:=none}))
    split
    ·rename_i s₂ hr
     rw[hr]at h2
     have h2:s.next+1≤s₂.next:=h2
     have h3:s.next≤s₂.next:=by omega
     split
     ·split
      ·trivial
      ·split<;>first|exact h3|trivial
     ·trivial
    ·rename_i s₂ hr
     rw[hr]at h2
     have h2:s.next+1≤s₂.next:=h2
     show s.next≤s₂.next
     omega
    ·trivial
  ·trivial
theorem codeM_next(hI:TableS P I):∀(n:Nat) (c:Code) (a:Fr) (s:St),(zD P I n c a s).nextLe s
 |0,_,_,_=>trivial
 |n+1,c,a,s=>by
  have ih:=codeM_next hI n
  have hc:=callWith_next hI ih
  unfold zD
  split
  ·exact Nat.le_refl _
  ·exact Nat.le_refl _
  ·rename_i x y
   have h1:=ih x a s
   cases hr:zD P I n x a s with
   |normal a₁ s₁=>rw[hr]at h1;exact Out.next_trans h1 (ih y a₁ s₁)
   |exit id a₁ s₁=>rw[hr]at h1;exact h1
   |ret a₁ s₁=>rw[hr]at h1;exact h1
   |panic c a₁ s₁=>rw[hr]at h1;exact h1
   |stuck=>trivial
  ·split
   ·exact ih _ _ _
   ·exact ih _ _ _
   ·trivial
  ·rename_i id b
   have h1:=ih b a s
   cases hr:zD P I n b a s with
   |normal a₁ s₁=>rw[hr]at h1;exact h1
   |exit id' a₁ s₁=>
    rw[hr]at h1
    simp only
    split<;>exact h1
   |ret a₁ s₁=>rw[hr]at h1;exact h1
   |panic c a₁ s₁=>rw[hr]at h1;exact h1
   |stuck=>trivial
  ·rename_i b
   have h1:=ih b a s
   cases hr:zD P I n b a s with
   |normal a₁ s₁=>rw[hr]at h1;exact Out.next_trans h1 (ih _ a₁ s₁)
   |exit id a₁ s₁=>rw[hr]at h1;exact h1
   |ret a₁ s₁=>rw[hr]at h1;exact h1
   |panic c a₁ s₁=>rw[hr]at h1;exact h1
   |stuck=>trivial
  ·exact Nat.le_refl _
  ·exact Nat.le_refl _
  ·split
   ·exact opsM_next hc _ _ _ _
   ·split
    ·exact drawM_next hc _ _ _ _
    ·trivial
  ·exact ih _ _ _
  ·exact rangeM_next hI ih _ _ _ _ _ _
  ·trivial
theorem codeM_keeps(hI:TableS P I):∀(n:Nat) (c:Code) (a:Fr) (s:St),WF s→(zD P I n c a s).keeps s
 |0,_,_,_,_=>trivial
 |n+1,c,a,s,h=>by
  have ih:=codeM_keeps hI n
  have hc:=qF hI ih
  unfold zD
  split
  ·exact Kp.refl h
  ·exact Kp.refl h
  ·rename_i x y
   have h1:=ih x a s h
   cases hr:zD P I n x a s with
   |normal a₁ s₁=>rw[hr]at h1;have h1:Kp s s₁:=h1;exact Out.keeps_trans h1 (ih y a₁ s₁ h1.wf)
   |exit id a₁ s₁=>rw[hr]at h1;exact h1
   |ret a₁ s₁=>rw[hr]at h1;exact h1
   |panic c a₁ s₁=>rw[hr]at h1;exact h1
   |stuck=>trivial
  ·split
   ·exact ih _ _ _ h
   ·exact ih _ _ _ h
   ·trivial
  ·rename_i id b
   have h1:=ih b a s h
   cases hr:zD P I n b a s with
   |normal a₁ s₁=>rw[hr]at h1;exact h1
   |exit id' a₁ s₁=>
    rw[hr]at h1
    simp only
    split<;>exact h1
   |ret a₁ s₁=>rw[hr]at h1;exact h1
   |panic c a₁ s₁=>rw[hr]at h1;exact h1
   |stuck=>trivial
  ·rename_i b
   have h1:=ih b a s h
   cases hr:zD P I n b a s with
   |normal a₁ s₁=>rw[hr]at h1;have h1:Kp s s₁:=h1;exact Out.keeps_trans h1 (ih _ a₁ s₁ h1.wf)
   |exit id a₁ s₁=>rw[hr]at h1;exact h1
   |ret a₁ s₁=>rw[hr]at h1;exact h1
   |panic c a₁ s₁=>rw[hr]at h1;exact h1
   |stuck=>trivial
  ·exact Kp.refl h
  ·exact Kp.refl h
  ·split
   ·exact opsM_keeps hc _ _ _ _ h
   ·split
    ·exact drawM_keeps hc _ _ _ _ h
    ·trivial
  ·exact ih _ _ _ h
  ·exact rangeM_keeps hI ih _ _ _ _ _ _ h
  ·trivial
def resF(tmps:Array Value):ResultVar→Sem Value
 | .tmp t=>pure (tmps.getD t undef)
 | .cell b t=>do loadVar t (←asAddr (tmps.getD b undef))
theorem results_eq(fn:Func)(tmps:Array Value):results fn tmps=(fn.results.mapM (resF tmps) >>= fun vs=>pure (if h:vs.size=1 then vs[0]else .tuple vs)):=rfl
theorem results_sound{β:Ren}{s:St}{w:World}(h:Rel P β s w){a:Fr}{a':Act}(hf:FRel P β a a'):∀(rs:List ResultVar) (l:List Value),xl P a s rs=some l →
  ∃l',(rs.mapM (resF a'.tmps)).run P w=.ok l' w∧LRel P β l l'
 | [],l,hl=>by
  simp only[xl,Option.some.injEq]at hl
  subst hl
  exact⟨[],rfl,.nil⟩
 | .tmp t::rs,l,hl=>by
  unfold xl at hl
  split at hl
  ·rename_i r hr
   cases hl
   obtain⟨l',h1,h2⟩:=results_sound h hf rs r hr
   refine⟨a'.tmps.getD t undef::l',?_,.cons (hf.get t) h2⟩
   rw[List.mapM_cons]
   simp only[resF,Sem.run_bind,Sem.run_pure,Result.andThen_ok,h1]
  ·cases hl
 | .cell b t::rs,l,hl=>by
  unfold xl at hl
  split at hl
  ·rename_i v r hv hr
   cases hl
   obtain⟨l',h1,h2⟩:=results_sound h hf rs r hr
   obtain⟨ad,v',g1,g2,g3⟩:=loadV_sound h (hf.get b) hv
   refine⟨v'::l',?_,.cons g3 h2⟩
   rw[List.mapM_cons]
   have g0:(asAddr (a'.tmps.getD b undef)).run P w=.ok ad w:=by rw[g1];rfl
   simp only[resF,Sem.run_bind,Sem.run_pure,Result.andThen_ok,g0,g2]
   rw[h1]
   rfl
  ·cases hl
theorem finish_sound{β:Ren}{s:St}{w:World}(h:Rel P β s w){a:Fr}{a':Act}(hf:FRel P β a a'){fn:Func}{v:Value}{s₁:St}(hr:finish P fn a s=.ret v s₁) :
  s₁=s∧∃v',(results fn a'.tmps).run P w=.ok v' w∧VRel P β v v':=by
 unfold finish at hr
 have key:∀l,xl P a s fn.results.toList=some l→∃l',(results fn a'.tmps).run P w=.ok (if h:(⟨l'⟩:Array Value).size=1 then(⟨l'⟩:Array Value)[0]else .tuple ⟨l'⟩) w∧LRel P β l l':=fun l hl=>by
  obtain⟨l',h1,h2⟩:=results_sound h hf _ l hl
  refine⟨l',?_,h2⟩
  rw[results_eq,Array.mapM_eq_mapM_toList]
  simp only[Sem.run_bind,Sem.run_map,h1,Result.andThen_ok,Sem.run_pure]
 split at hr
 ·rename_i v₀ hl
  cases hr
  obtain⟨l',h1,h2⟩:=key _ hl
  cases h2 with
  |cons hv h2=>
   cases h2
   exact⟨rfl,_,h1,hv⟩
 ·rename_i l hn hl
  cases hr
  obtain⟨l',h1,h2⟩:=key _ hl
  refine⟨rfl,.tuple ⟨l'⟩,?_,.tuple h2⟩
  rw[h1]
  have:¬(⟨l'⟩:Array Value).size=1:=fun he=>by
   have hlen:l'.length=1:=he
   have:=h2.length
   rw[hlen]at this
   obtain⟨x,hx⟩:=List.length_eq_one_iff.1 this.symm
   exact hn x hx
  rw[dif_neg this]
 ·cases hr
end
end Go.M
namespace Go.M
section
variable{P:Program}{F:Fence}{n:Nat}{Q:Exit→Act→World→Prop}{a:Act}{w:World}
theorem qo{b:Frame}{k:List Item}{cs:List Frame}{c:Code}:step P (lone (b.atR a (.code (.scope c)::k)) cs w)=.next (lone (b.atR a (.code c::.inScope c::k)) cs w):=
 step_lone_go (by simp[stepG,stepG.exec,Frame.atR])
theorem stepR_inScope{b:Frame}{k:List Item}{cs:List Frame}{c:Code}:step P (lone (b.atR a (.inScope c::k)) cs w)=.next (lone (b.atR a k) cs w):=
 step_lone_go (by simp[stepG,stepG.exec,Frame.atR])
theorem wpIn_scope{c:Code}(h:c.wpIn F n P (Exit.noGoto Q) a w):(Code.scope c).wpIn F n P Q a w:=by
 intro b k cs hro hb hr
 have h0:(lone (b.atR a (.code (.scope c)::k)) cs w).fenced P F:=fenced_calm hb hr rfl
 obtain⟨e,a₁,w₁,hq,harr⟩:=h b (.inScope c::k) cs hro hb hr
 cases e with
 |normal=>exact⟨.normal,a₁,w₁,hq,.head h0 qo (StepsIn.trans harr (.one (fenced_calm (fr:=b.atR a₁ (.inScope c::k)) hb hr rfl) stepR_inScope))⟩
 |exit id=>
  refine⟨.exit id,a₁,w₁,hq,fun k' hk=>.head h0 qo (harr.1 k' (by simp[exitTo,hk])),fun hx hk=>?_⟩
  obtain⟨k₁,h1,h2⟩:=harr.2 hx (by simp[exitTo,hk])
  exact⟨k₁,h1,.head h0 qo h2⟩
 |goto l=>exact hq.elim
 |ret=>exact⟨_,a₁,w₁,hq,.of_steps (.one h0 qo) harr⟩
 |panic ch=>exact⟨_,a₁,w₁,hq,.of_steps (.one h0 qo) harr⟩
 |outgrown=>exact⟨_,a₁,w₁,hq,.of_steps (.one h0 qo) harr⟩
end
section
variable{P:Program}
theorem Ext.alloc{β:Ren}{s:St}{w:World}(h:Rel P β s w)(o:Obj):Ext P β s w β s (w.alloc o):=by
 have keep:∀r,r<w.heap.size→(w.alloc o).heap[r]? = w.heap[r]? :=fun r hr=>by
  show(w.heap.push o)[r]? = _
  rw[Array.getElem?_push,if_neg O]
 have hsz:(w.alloc o).heap.size=w.heap.size+1:=by show(w.heap.push o).size=_;simp
 exact{
  rel:=⟨fun b m hb hlt=>by have:=h.img b m hb hlt;omega,fun b m o hb hlt hg=>by rw[keep _ (h.img b m hb hlt)];exact h.obj b m o hb hlt hg,h.inj,h.ro,h.room,h.top⟩
  le:=Ren.le_refl β
  dom:=fun b m h h'=>by rw[h']at h;cases h
  next:=Nat.le_refl _
  bar:=rfl
  prot:=rfl
  size:=by omega
  out:=fun r hr _=>keep r hr
  same:=fun _ _ _=>rfl
  dead:=fun _ _ h=>h
  fresh:=fun b m h h'=>by rw[h']at h;cases h
  os:=rfl
  output:=rfl
  tape:=rfl}
structure Shut(lo:Nat)(β:Ren)(s:St)(w w':World):Prop where
 size:w'.heap.size=w.heap.size
 low:∀r,r<lo→w'.heap[r]? = w.heap[r]?
 img:∀b m,β b=some m→b<s.next→w'.heap[m.blk]? = w.heap[m.blk]?
 os:w'.os=w.os
 output:w'.output=w.output
 tape:w'.tape=w.tape
theorem Shut.refl(lo:Nat)(β:Ren)(s:St)(w:World):Shut lo β s w w:=⟨rfl,fun _ _=>rfl,fun _ _ _ _=>rfl,rfl,rfl,rfl⟩
theorem Shut.rel{lo:Nat}{β:Ren}{s:St}{w w':World}(h:Shut lo β s w w')(hr:Rel P β s w):Rel P β s w':=
 ⟨fun b m hb hlt=>by rw[h.size];exact hr.img b m hb hlt,fun b m o hb hlt hg=>by rw[h.img b m hb hlt];exact hr.obj b m o hb hlt hg,hr.inj,hr.ro,hr.room,hr.top⟩
theorem Ext.shut{β β':Ren}{s s':St}{w w' w'':World}(h:Ext P β s w β' s' w')(hs:Shut w.heap.size β' s' w' w''):Ext P β s w β' s' w'' where
 rel:=hs.rel h.rel
 le:=h.le
 dom:=h.dom
 next:=h.next
 bar:=h.bar
 prot:=h.prot
 size:=by rw[hs.size];exact h.size
 out:=fun r hr hno=>by rw[hs.low r hr];exact h.out r hr hno
 same:=h.same
 dead:=h.dead
 fresh:=h.fresh
 os:=hs.os.trans h.os
 output:=hs.output.trans h.output
 tape:=hs.tape.trans h.tape
theorem leaves_marks{fn:Func}{tmps:Array Value}{R:Ending→World→Prop}{u:FrameMode}{lo:Nat}{β:Ren}{s:St}(hu:u≠.run):∀(ds:List Deferred) (w:World),Marks lo β s w ds →
  (∀w',Shut lo β s w w'→LeavesIn (FW none) 0 P fn tmps R [] u w')→LeavesInM (FW none) 0 P fn tmps R ds u w
 | [],w,_,h=>h w (Shut.refl lo β s w)
 |d::ds,w,⟨⟨r,h1,h0,h2,h3,h4⟩,hr⟩,h=>by
  have hlt:r<w.heap.size:=(Array.getElem?_eq_some_iff.1 h2).1
  refine⟨hu,.inl ⟨r,w.putObj r (.deferred none),by rw[h1],run_takeDeferred h2,?_⟩⟩
  have hother:∀k,k≠r→(w.putObj r (.deferred none)).heap[k]? = w.heap[k]? :=fun k hk=>World.putObj_heap_other hk
  refine leaves_marks (lo:=lo) (β:=β) (s:=s) hu ds _ ?_ fun w' hs=>h w' ?_
  ·clear h
   induction ds with
   |nil=>trivial
   |cons d' ds ih=>
    obtain⟨⟨r',g1,g0,g2,g3,g4⟩,gr⟩:=hr
    refine⟨⟨r',g1,g0,?_,g3,g4⟩,ih (fun d'' hd=>h4 d'' (by simp[hd])) gr⟩
    rw[hother r' fun e=>h4 d' Y8 (by rw[g1,e])]
    exact g2
  ·exact⟨by rw[hs.size];simp,fun k hk=>by rw[hs.low k hk];exact hother k O,fun b m hb hbn=>by rw[hs.img b m hb hbn];exact hother _ (h3 b m hb hbn),hs.os,hs.output,hs.tape⟩
theorem putAll_rel{β:Ren}:∀(ps:List Tmp) (vs vs':List Value) (a:Fr) (t':Array Value) (ds:List Deferred),LRel P β vs vs'→FRel P β a {tmps:=t',defers:=ds} →
  FRel P β (a.putAll ps vs) {tmps:=(ps.zip vs').foldl (fun tmps x=>tmps.setIfInBounds x.1 x.2) t',defers:=ds}
 | [],_,_,a,t',ds,_,h=>by simpa[Fr.putAll]using h
 |p::ps,[],_,a,t',ds,hv,h=>by cases hv;simpa[Fr.putAll]using h
 |p::ps,v::vs,_,a,t',ds,hv,h=>by
  cases hv with
  | @cons _ v' _ vs' h1 h2=>
   simp only[Fr.putAll,List.zip_cons_cons,List.foldl_cons]
   exact putAll_rel ps vs vs' _ _ ds h2 (h.put (some p) h1)
theorem roundT_eq(r:Loop)(args:Array Value):roundT r args=(r.params.toList.zip args.toList).foldl (fun tmps x=>tmps.setIfInBounds x.1 x.2) r.tmps:=by
 unfold roundT
 rw[←Array.foldl_toList,Array.toList_zip]
theorem Ext.putLoop{β:Ren}{s:St}{w:World}(h:Rel P β s w){b:Nat}{m:Img}(hb:β b=some m)(hm:s.may b=true){lp:Lp}(hg:s.get b=some (.loop lp)){lp':Lp}{r r':Loop}
  (hw:w.heap[m.blk]? = some (.loop r)) (ho:ORel P β m (.loop lp') (.loop r')):Ext P β s w β (s.put b (some (.loop lp'))) (w.putObj m.blk (.loop r')):=by
 have hlt:m.blk<w.heap.size:=(Array.getElem?_eq_some_iff.1 hw).1
 exact Ext.write h hb hm hg _ Y8 (fun q hq=>World.putObj_heap_other hq) ⟨_,World.putObj_heap_same hlt,ho⟩ rfl rfl rfl
theorem Rel.loop{β:Ren}{s:St}{w:World}(h:Rel P β s w){b:Nat}{m:Img}(hb:β b=some m){lp:Lp}(hg:s.get b=some (.loop lp)) :
  ∃r,w.heap[m.blk]? = some (.loop r)∧TRel P β lp.fr r.tmps∧r.params.toList=lp.params∧r.assign=lp.assign∧r.body=lp.body∧r.state=lp.state∧r.pending=lp.pend:=by
 obtain⟨o',h1,h2⟩:=h.obj b m _ hb (h.lt hg) hg
 cases h2 with
 | @loop _ r hft hp hA hB hs hj=>exact⟨r,h1,hft,hp,hA,hB,hs,hj⟩
theorem endM_sound{β:Ren}{s:St}{w:World}(h:Rel P β s w){b:Nat}{m:Img}(hb:β b=some m){j:Option Code}(hne:endM b j s≠.stuck) :
  ∃v w' s',endM b j s=.ret v s'∧s'.next=s.next∧(Instr.endRound m.blk j).run P w=.ok v w'∧Ext P β s w β s' w'∧VRel P β v v:=by
 unfold endM at hne ⊢
 split at hne
 ·rename_i lp hm hg
  obtain⟨r,h1,hft,hp,hA,hB,hs,hj⟩:=h.loop hb hg
  cases j with
  |none=>
   have hx:Ext P β s w β (s.put b (some (.loop {lp with state:=.ready,pend:=none}))) (w.putObj m.blk (.loop {r with state:=.ready,pending:=none})):=
    Ext.putLoop h hb hm hg h1 (.loop hft hp hA hB rfl rfl)
   exact⟨_,_,_,rfl,rfl,run_endRound none h1,hx,.bool _⟩
  |some c=>
   have hx:Ext P β s w β (s.put b (some (.loop {lp with state:=.done,pend:=some c}))) (w.putObj m.blk (.loop {r with state:=.done,pending:=some c})):=
    Ext.putLoop h hb hm hg h1 (.loop hft hp hA hB rfl rfl)
   exact⟨_,_,_,rfl,rfl,run_endRound (some c) h1,hx,.bool _⟩
 ·exact(hne rfl).elim
theorem endM_ret{b:Nat}{j:Option Code}{s:St}(hne:endM b j s≠.stuck):∃v s',endM b j s=.ret v s'∧s'.next=s.next:=by
 unfold endM at hne ⊢
 split at hne
 ·exact⟨_,_,rfl,rfl⟩
 ·exact(hne rfl).elim
theorem round_sound{code:Code→Fr→St→Out}(hnx:∀c a s,(code c a s).nextLe s)(hcode:CodeS P code){b:Nat}{args args':Array Value}{s:St}{β:Ren}{w:World}{m:Img}{r:Loop}
  (h:Rel P β s w) (ha:LRel P β args.toList args'.toList) (hb:β b=some m) (hw:w.heap[m.blk]? = some (.loop r)) (hne:qx code b args s≠.stuck) (hfree:(qx code b args s).free β s) :
  RoundIn Fence.wide 0 P m.blk r.fn (roundT r args') r.assign r.body w (CallP P β s w (qx code b args s)):=by
 unfold qx at hne hfree ⊢
 cases hg:s.get b with
 |none=>rw[hg]at hne;exact(hne rfl).elim
 |some o=>
  cases o with
  |cells c e=>rw[hg]at hne;exact(hne rfl).elim
  |map es c=>rw[hg]at hne;exact(hne rfl).elim
  |loop lp=>
   rw[hg]at hne hfree
   simp only at hne hfree ⊢
   obtain⟨r',h1,hft,hp,hA,hB,hs,hj⟩:=h.loop hb hg
   rw[hw]at h1;cases h1
   cases hck:yM lp.assign&&yM lp.body&&xz lp.assign&&xz lp.body&&Nat.beq (zY args.toList 0) (zY lp.params 0)with
   |false=>rw[hck]at hne;exact(hne rfl).elim
   |true=>
    rw[hck]at hne hfree
    simp only at hne hfree ⊢
    simp only[Bool.and_eq_true]at hck
    obtain⟨⟨⟨⟨c1,c2⟩,c3⟩,c4⟩,c5⟩:=hck
    have hfr:FRel P β (lp.fr.putAll lp.params args.toList) {tmps:=roundT r args',defers:=[]}:=by
     rw[roundT_eq,hp]
     exact putAll_rel _ _ _ _ _ _ ha (hft.frel [])
    refine roundIn_of_wpIn (F:=Fence.wide) trivial ?_
    have hn1:=hnx lp.assign (lp.fr.putAll lp.params args.toList) s
    have hw1:=fun x y=>hcode lp.assign _ _ s β w 0 (some m.blk) c1 (.inr c3) h hfr trivial (Nat.zero_le _) x y
    rw[hA,hB]
    cases hr:code lp.assign (lp.fr.putAll lp.params args.toList) s with
    |stuck=>rw[hr]at hne;exact(hne rfl).elim
    |exit id a₁ s₁=>rw[hr]at hne;exact(hne rfl).elim
    |ret a₁ s₁=>rw[hr]at hne;exact(hne rfl).elim
    |panic ch a₁ s₁=>rw[hr]at hne;exact(hne rfl).elim
    |normal a₁ s₁=>
     rw[hr]at hne hfree hw1 hn1
     simp only at hne hfree ⊢
     have hn1:s.next≤s₁.next:=hn1
     cases hmay:s₁.may b with
     |false=>rw[hmay]at hne;exact(hne rfl).elim
     |true=>
      rw[hmay]at hne hfree
      cases hg1:s₁.get b with
      |none=>rw[hg1]at hne;exact(hne rfl).elim
      |some o=>
       cases o with
       |cells c e=>rw[hg1]at hne;exact(hne rfl).elim
       |map es c=>rw[hg1]at hne;exact(hne rfl).elim
       |loop lp'=>
        rw[hg1]at hne hfree
        simp only at hne hfree ⊢
        cases hst:lp'.state with
        |busy=>rw[hst]at hne;exact(hne rfl).elim
        |done=>rw[hst]at hne;exact(hne rfl).elim
        |exhausted=>rw[hst]at hne;exact(hne rfl).elim
        |ready=>
         rw[hst]at hne hfree
         simp only at hne hfree ⊢
         have hn2:=hnx lp.body a₁ (s₁.put b (some (.loop {lp' with state:=.busy})))
         -- the end of the body
         have fin:∀(j:Option Code) (s₂:St) (β₂:Ren) (w₂ w₃:World),s₁.next≤s₂.next→Free β s s₂→Ext P β s w β₂ s₂ w₃→endM b j s₂≠.stuck →
           ∃v w',(Instr.endRound m.blk j).run P w₃=.ok v w'∧CallP P β s w (endM b j s₂) (.returned v) w':=by
          intro j s₂ β₂ w₂ w₃ _ hf hx hne
          obtain⟨v,w',s',e1,e2,e3,e4,e5⟩:=endM_sound hx.rel (hx.le b m hb) hne
          refine⟨v,w',e3,?_⟩
          rw[e1]
          exact⟨β₂,v,rfl,hx.trans e4 (fun k l u=>hf k l (by rw[e2]at u;exact u)),e5⟩
         have hfree1:Free β s s₁∧∀s₂,(code lp.body a₁ (s₁.put b (some (.loop {lp' with state:=.busy})))=.normal a₁ s₂→True):=⟨?_,fun _ _=>trivial⟩
         ·refine wpIn_mono (hw1 Y8 hfree1.1) fun e a₂ w₁ ho=>?_
          obtain⟨rfl,β₁,hx,hf2,hmk⟩:=ho
          obtain⟨r₁,g1,gft,gp,gA,gB,gs,gj⟩:=hx.rel.loop (hx.le b m hb) hg1
          refine⟨_,run_beginRound g1 (by rw[gs,hst]),?_⟩
          have hx2:Ext P β₁ s₁ w₁ β₁ (s₁.put b (some (.loop {lp' with state:=.busy}))) (w₁.putObj m.blk (.loop {r₁ with state:=.busy})):=
           Ext.putLoop hx.rel (hx.le b m hb) hmay hg1 g1 (.loop gft gp gA gB rfl gj)
          have hx12:=hx.trans hx2 hfree1.1
          have hmk2:Marks 0 β₁ (s₁.put b (some (.loop {lp' with state:=.busy}))) (w₁.putObj m.blk (.loop {r₁ with state:=.busy})) a₂.defers:=hmk.ext hx2 (fun k l u=>by
           have u:k<s₁.next:=u
           omega)
          have hw2:=fun x y=>hcode lp.body a₁ a₂ _ β₁ _ 0 (some m.blk) c2 (.inr c4) hx2.rel hf2 hmk2 (Nat.zero_le _) x y
          cases hr2:code lp.body a₁ (s₁.put b (some (.loop {lp' with state:=.busy})))with
          |stuck=>rw[hr2]at hne;exact(hne rfl).elim
          |panic ch a₃ s₂=>rw[hr2]at hne;exact(hne rfl).elim
          |normal a₃ s₂=>
           rw[hr2]at hne hfree hw2 hn2
           simp only at hne hfree ⊢
           have hn2:s₁.next≤s₂.next:=hn2
           have hfr2:Free β s s₂:=by
            obtain⟨v,s',e1,e2⟩:=endM_ret hne
            rw[e1]at hfree
            exact fun k l u=>hfree k l (by rw[e2];exact u)
           refine wpIn_mono (hw2 Y8 (hx12.freeOf hfr2)) fun e a₄ w₃ ho=>?_
           obtain⟨rfl,β₂,hx3,_,_⟩:=ho
           exact fin none s₂ β₂ w₁ w₃ hn2 hfr2 (hx12.trans hx3 hfr2) hne
          |exit id a₃ s₂=>
           rw[hr2]at hne hfree hw2 hn2
           simp only at hne hfree ⊢
           have hn2:s₁.next≤s₂.next:=hn2
           have hfr2:Free β s s₂:=by
            obtain⟨v,s',e1,e2⟩:=endM_ret hne
            rw[e1]at hfree
            exact fun k l u=>hfree k l (by rw[e2];exact u)
           refine wpIn_mono (hw2 Y8 (hx12.freeOf hfr2)) fun e a₄ w₃ ho=>?_
           obtain⟨rfl,β₂,hx3,_,_⟩:=ho
           exact fin (some (.exit id)) s₂ β₂ w₁ w₃ hn2 hfr2 (hx12.trans hx3 hfr2) hne
          |ret a₃ s₂=>
           rw[hr2]at hne hfree hw2 hn2
           simp only at hne hfree ⊢
           have hn2:s₁.next≤s₂.next:=hn2
           have hfr2:Free β s s₂:=by
            obtain⟨v,s',e1,e2⟩:=endM_ret hne
            rw[e1]at hfree
            exact fun k l u=>hfree k l (by rw[e2];exact u)
           refine wpIn_mono (hw2 Y8 (hx12.freeOf hfr2)) fun e a₄ w₃ ho=>?_
           obtain⟨rfl,β₂,hx3,_,_⟩:=ho
           exact fin (some .ret) s₂ β₂ w₁ w₃ hn2 hfr2 (hx12.trans hx3 hfr2) hne
         ·cases hr2:code lp.body a₁ (s₁.put b (some (.loop {lp' with state:=.busy})))with
          |stuck=>rw[hr2]at hne;exact(hne rfl).elim
          |panic ch a₃ s₂=>rw[hr2]at hne;exact(hne rfl).elim
          |_=>
           rw[hr2]at hne hfree hn2
           simp only at hne hfree
           obtain⟨v,s',e1,e2⟩:=endM_ret hne
           rw[e1]at hfree
           have hn2:s₁.next≤_:=hn2
           exact fun k l u=>hfree k l (by rw[e2];exact Nat.lt_of_lt_of_le u hn2)
end
end Go.M
namespace Go.M
section
variable{P:Program}{I:zT}
theorem bodyM_sound{code:Code→Fr→St→Out}(hcode:CodeS P code){f:FuncId}{fn:Func}{c:Code}(hfn:P.funcs[f]? = some fn)(hb:fn.body=some c){args args':Array Value}{s:St}{β:Ren}{w:World}
  (h:Rel P β s w) (ha:LRel P β args.toList args'.toList) (hne:bodyM P code fn c args s≠.stuck) (hfree:(bodyM P code fn c args s).free β s):Calls P f args' w (CallP P β s w (bodyM P code fn c args s)):=by
 unfold bodyM at hne hfree ⊢
 cases hck:Nat.ble (zY args.toList 0) fn.ntmps&&Nat.ble fn.ntmps 65534&&yM c with
 |false=>rw[hck]at hne;exact(hne rfl).elim
 |true=>
  rw[hck]at hne hfree
  simp only at hne hfree ⊢
  simp only[Bool.and_eq_true,Nat.ble_eq,zH]at hck
  obtain⟨⟨hl1,hl2⟩,hcb⟩:=hck
  have hfr:=FRel.make (n:=fn.ntmps) ha O hl2
  have hw:=fun h1 h2=>hcode c (Fr.make args fn.ntmps) _ s β w w.heap.size none hcb (.inl rfl) h hfr trivial Z3 h1 h2
  refine(callsFW (ro:=none) (n:=0)).1 (callsIn_of_wp_marks hfn hb trivial ?_)
  -- a function's end
  have fin:∀(a₁:Fr) (s₁:St) (a₂:Act) (w₂:World) (β':Ren),finish P fn a₁ s₁≠.stuck→(finish P fn a₁ s₁).free β s→Ext P β s w β' s₁ w₂→FRel P β' a₁ a₂→Marks w.heap.size β' s₁ w₂ a₂.defers →
    LeavesInM (FW none) 0 P fn a₂.tmps (CallP P β s w (finish P fn a₁ s₁)) a₂.defers .returning w₂:=by
   intro a₁ s₁ a₂ w₂ β' hne hfree hx hf2 hmk
   refine leaves_marks Y8 a₂.defers w₂ hmk fun w₃ hs=>?_
   cases hfin:finish P fn a₁ s₁ with
   |stuck=>exact(hne hfin).elim
   |panic c' s'=>
    exfalso
    unfold finish at hfin
    (repeat' split at hfin)<;>cases hfin
   |ret v s'=>
    have e1:s'=s₁:=by
     unfold finish at hfin
     (repeat' split at hfin)<;>cases hfin<;>rfl
    subst e1
    have hx2:=hx.shut hs
    obtain⟨_,v',g1,g2⟩:=finish_sound hx2.rel hf2 hfin
    exact⟨v',g1,β',v',rfl,hx2,g2⟩
  have finOK:∀(a₁:Fr) (s₁:St),finish P fn a₁ s₁≠.stuck→(finish P fn a₁ s₁).free β s→Free β s s₁:=by
   intro a₁ s₁ hne hfree
   unfold finish at hne hfree
   cases hq:xl P a₁ s₁ fn.results.toList with
   |none=>rw[hq]at hne;exact(hne rfl).elim
   |some l=>
    rw[hq]at hfree
    rcases l with _|⟨v,_|⟨v2,l⟩⟩<;>exact hfree
  cases hr:code c (Fr.make args fn.ntmps) s with
  |stuck=>rw[hr]at hne;exact(hne rfl).elim
  |exit id a₁ s₁=>rw[hr]at hne;exact(hne rfl).elim
  |panic ch a₁ s₁=>
   rw[hr]at hfree hw
   simp only at hfree ⊢
   refine wpIn_mono (hw Y8 hfree) fun e a₂ w₂ ho=>?_
   obtain⟨ch',β',rfl,hx,hch,hd⟩:=ho
   exact leaves_marks Y8 a₂.defers w₂ hd fun w₃ hs=>⟨β',ch',rfl,hx.shut hs,hch⟩
  |normal a₁ s₁=>
   rw[hr]at hfree hw hne
   simp only at hfree hne ⊢
   refine wpIn_mono (hw Y8 (finOK a₁ s₁ hne hfree)) fun e a₂ w₂ ho=>?_
   obtain⟨rfl,β',hx,hf2,hmk⟩:=ho
   exact fin a₁ s₁ a₂ w₂ β' hne hfree hx hf2 hmk
  |ret a₁ s₁=>
   rw[hr]at hfree hw hne
   simp only at hfree hne ⊢
   refine wpIn_mono (hw Y8 (finOK a₁ s₁ hne hfree)) fun e a₂ w₂ ho=>?_
   obtain⟨rfl,β',hx,hf2,hmk⟩:=ho
   exact fin a₁ s₁ a₂ w₂ β' hne hfree hx hf2 hmk
theorem callWith_sound(hI:TableS P I){code:Code→Fr→St→Out}(hnx:∀c a s,(code c a s).nextLe s)(hcode:CodeS P code):CallS P (z6 P I code):=by
 refine⟨callWith_next hI hnx,fun f args args' s β w hlow h ha hne hfree=>?_,fun b args args' s β w m r h ha hb hw hne hfree=>?_⟩
 ·unfold z6 at hne hfree ⊢
  rw[hlow]at hne hfree ⊢
  simp only at hne hfree ⊢
  cases hg:I f with
  |some g=>
   rw[hg]at hne hfree
   exact hI.sound f g hg args args' s β w h ha hne hfree
  |none=>
   rw[hg]at hne hfree
   simp only at hne hfree ⊢
   cases hfn:P.funcs[f]? with
   |none=>rw[hfn]at hne;exact(hne rfl).elim
   |some fn=>
    rw[hfn]at hne hfree
    simp only at hne hfree ⊢
    cases hb:fn.body with
    |none=>rw[hb]at hne;exact(hne rfl).elim
    |some c=>
     rw[hb]at hne hfree
     simp only at hne hfree ⊢
     exact bodyM_sound hcode hfn hb h ha hne hfree
 ·have e:z6 P I code (zo+b) args s=qx code b args s:=by
   unfold z6
   have h1:Nat.ble zo (zo+b)=true:=by simp
   rw[h1]
   simp only[Nat.add_sub_cancel_left]
  rw[e]at hne hfree ⊢
  exact round_sound hnx hcode h ha hb hw hne hfree
theorem range_sound(hI:TableS P I){code:Code→Fr→St→Out}(hnx:∀c a s,(code c a s).nextLe s)(hcode:CodeS P code){f:Operand}{ps:Array Tmp}{x y:Code}{a:Fr}{a':Act}{s:St}{β:Ren}{w:World}{lo:Nat}
  (hfB:xY f=true) (h:Rel P β s w) (hf:FRel P β a a') (hm:Marks lo β s w a'.defers) (hlo:lo≤w.heap.size) (hne:xS P I code f ps x y a s≠.stuck) (hfree:(xS P I code f ps x y a s).free β s) :
  (Code.rangeFunc f ps x y).wpIn (FW none) 0 P (OutP P lo β s w (xS P I code f ps x y a s)) a' w:=by
 have hcs:=callWith_sound hI hnx hcode
 have hnextR:=rangeM_next hI hnx f ps x y a s
 refine wpIn_rangeFunc fun fn _=>?_
 unfold xS at hne hfree hnextR ⊢
 cases hroom:s.room with
 |false=>rw[hroom]at hne;exact(hne rfl).elim
 |true=>
  rw[hroom]at hne hfree hnextR
  simp only at hne hfree hnextR ⊢
  cases hv:callV P (a.eval f) [.func (.yield s.next) ⟨[]⟩ ⟨[]⟩] (s.new (.loop {fr:=a.norm,params:=ps.toList,assign:=x,body:=y,state:=.ready,pend:=none}))with
  |stuck=>rw[hv]at hne;exact(hne rfl).elim
  |panic v s'=>rw[hv]at hne;exact(hne rfl).elim
  |ok nx s₁=>
   rw[hv]at hne hfree hnextR
   cases nx with
   |enter g args=>
    simp only at hne hfree hnextR ⊢
    have hs1:=callV_same hv
    subst hs1
    cases hlow:Nat.ble zo g with
    |true=>rw[hlow]at hne;exact(hne rfl).elim
    |false=>
     rw[hlow]at hne hfree hnextR
     simp only at hne hfree hnextR ⊢
     have hn2:=callWith_next hI hnx g args (s.new (.loop {fr:=a.norm,params:=ps.toList,assign:=x,body:=y,state:=.ready,pend:=none}))
     -- the block is free
     have hfree0:∀s₂:St,s.next+1≤s₂.next→Free β s s₂→β s.next=none:=fun s₂ h1 h2=>h2 s.next Z3 O
     have hnext0:s.next<281474976710655:=room_lt hroom
     -- whatever the call's outcome is,its last state is free
     have hfr2:∃s₂:St,s.next+1≤s₂.next∧Free β s s₂∧(∀v s',z6 P I code g args (s.new (.loop {fr:=a.norm,params:=ps.toList,assign:=x,body:=y,state:=.ready,pend:=none}))=.ret v s'→s'=s₂) ∧
       (∀c s',z6 P I code g args (s.new (.loop {fr:=a.norm,params:=ps.toList,assign:=x,body:=y,state:=.ready,pend:=none}))=.panic c s'→s'=s₂):=by
      cases hr:z6 P I code g args (s.new (.loop {fr:=a.norm,params:=ps.toList,assign:=x,body:=y,state:=.ready,pend:=none}))with
      |stuck=>rw[hr]at hne;exact(hne rfl).elim
      |panic c s₂=>
       rw[hr]at hfree hn2
       exact⟨s₂,hn2,hfree,fun _ _ e=>(by cases e),fun _ _ e=>(by cases e;rfl)⟩
      |ret v s₂=>
       rw[hr]at hfree hn2 hne
       simp only at hfree hne
       refine⟨s₂,hn2,?_,fun _ _ e=>(by cases e;rfl),fun _ _ e=>(by cases e)⟩
       split at hne
       ·rename_i lp hmay hg
        rw[hmay,hg]at hfree
        simp only at hfree
        split at hne
        ·exact(hne rfl).elim
        ·rename_i hst
         rw[hst]at hfree
         simp only at hfree
         split at hne
         ·rename_i hp;rw[hp]at hfree;exact hfree
         ·rename_i hp;rw[hp]at hfree;exact hfree
         ·rename_i hp;rw[hp]at hfree;exact hfree
         ·exact(hne rfl).elim
       ·exact(hne rfl).elim
     obtain⟨s₂,hs2,hF,hret,hpan⟩:=hfr2
     have hb0:=hfree0 s₂ hs2 hF
     -- the two blocks
     let W:=(w.alloc (.deferred (some []))).alloc (.loop {state:=.ready,pending:=none,fn,tmps:=a'.tmps,params:=ps,assign:=x,body:=y,defers:=w.heap.size})
     have hx0:=Ext.alloc h (.deferred (some []))
     let m:Img:=⟨w.heap.size+1,0,0,0,false⟩
     have hsz:(w.alloc (.deferred (some []))).heap.size=w.heap.size+1:=by show(w.heap.push _).size=_;simp
     have hx1:Ext P β s (w.alloc (.deferred (some []))) (β.add s.next m) (s.new (.loop {fr:=a.norm,params:=ps.toList,assign:=x,body:=y,state:=.ready,pend:=none})) W:=
      Ext.new hx0.rel hnext0 hb0 (by rw[hsz]) (.loop hf.norm rfl rfl rfl rfl rfl)
     have hfrA:Free β s s:=fun k l u=>by omega
     have hfrB:Free β s (s.new (.loop {fr:=a.norm,params:=ps.toList,assign:=x,body:=y,state:=.ready,pend:=none})):=fun k l u=>hF k l (by
      have u:k<s.next+1:=u
      omega)
     have hx01:=hx0.trans hx1 hfrB
     have hbm:(β.add s.next m) s.next=some m:=Ren.add_self
     -- the marks
     have hmk:Marks lo (β.add s.next m) (s.new (.loop {fr:=a.norm,params:=ps.toList,assign:=x,body:=y,state:=.ready,pend:=none})) W ({target:=.collected w.heap.size,args:= #[]}::a'.defers):=by
      refine⟨⟨w.heap.size,rfl,hlo,?_,fun b mm hb hlt=>?_,fun d' hd hh=>?_⟩,hm.ext hx01 hfrB⟩
      ·show((w.heap.push _).push _)[w.heap.size]? = _
       rw[Array.getElem?_push,if_neg Y8,Array.getElem?_push,if_pos rfl]
      ·by_cases e:b=s.next
       ·subst e;rw[hbm]at hb;cases hb;show w.heap.size+1≠_;omega
       ·have hb':β b=some mm:=by simpa[Ren.add,e]using hb
        have hlt:b<s.next+1:=hlt
        have:=h.img b mm hb' O
        omega
      ·have:∀ds,Marks lo β s w ds→d'∈ds→False:=by
        intro ds
        induction ds with
        |nil=>intro _ hd;cases hd
        |cons d ds ih=>
         rintro⟨⟨r,h1,_,h2,_⟩,hr⟩ hd
         rcases List.mem_cons.1 hd with e|hd
         ·subst e
          rw[h1]at hh
          have hh:Target.collected r=.collected w.heap.size:=hh
          cases hh
          have:=(Array.getElem?_eq_some_iff.1 h2).1
          omega
         ·exact ih hr hd
       exact this _ hm hd
     have hmk':Marks lo (β.add s.next m) (s.new (.loop {fr:=a.norm,params:=ps.toList,assign:=x,body:=y,state:=.ready,pend:=none})) W ([{target:=.collected w.heap.size,args:= #[]}]++a'.defers):=hmk
     -- the call
     have hvr:VRel P (β.add s.next m) (.func (.yield s.next) ⟨[]⟩ ⟨[]⟩) (.func (.yield (w.heap.size+1)) ⟨[]⟩ ⟨[]⟩):=.yield hbm
     have hop:=call_sound hx01.rel ((hf.mono hx01.le).eval hfB) (.cons hvr .nil)
     rw[hv]at hop
     obtain⟨β₁,w₁,n',hrun,hxc,args',rfl,hargs⟩:=hop (fun k l u=>by omega)
     have hrun':(resolve a'.eval (rangeCall f (w.heap.size+1)) 0 >>= fun d=>invoke d.target d.args).run P W=.ok (.enter g args') w₁:=by
      have e:resolve a'.eval (rangeCall f (w.heap.size+1)) 0=Deferred.ofValue (a'.eval f) ⟨[.func (.yield (w.heap.size+1)) ⟨[]⟩ ⟨[]⟩]⟩:=by
       simp[resolve,rangeCall,Act.eval]
      rw[e]
      exact hrun
     rw[Sem.run_bind]at hrun'
     cases hres:(resolve a'.eval (rangeCall f (w.heap.size+1)) 0).run P W with
     |halt hh ww=>rw[hres]at hrun';cases hrun'
     |ok d W₁=>
      rw[hres]at hrun'
      simp only[Result.andThen_ok]at hrun'
      refine⟨w.heap.size+1,[{target:=.collected w.heap.size,args:= #[]}],W,d,W₁,g,args',w₁,run_enterLoop_outer fn a'.tmps ps x y,hres,fun _ _=>trivial,hrun',nofun,?_⟩
      have hx2:=hx01.trans hxc hfrB
      have hcall:=hcs.2.1 g args args' _ β₁ w₁ hlow hxc.rel hargs
      cases hr:z6 P I code g args (s.new (.loop {fr:=a.norm,params:=ps.toList,assign:=x,body:=y,state:=.ready,pend:=none}))with
      |stuck=>rw[hr]at hne;exact(hne rfl).elim
      |panic c s₃=>
       have e:=hpan c s₃ hr
       subst e
       rw[hr]at hcall
       refine(callsFW.2 (hcall Y8 (hx2.freeOf hF))).mono fun e w₃ ho=>?_
       obtain⟨β₃,c',rfl,hx3,hch⟩:=ho
       exact⟨c',β₃,rfl,hx2.trans hx3 hF,hch,(hmk'.ext (hxc) (fun k l u=>by omega)).ext hx3 (hx2.freeOf hF)⟩
      |ret v s₃=>
       have e:=hret v s₃ hr
       subst e
       rw[hr]at hcall hne hfree
       simp only at hne hfree ⊢
       refine(callsFW.2 (hcall Y8 (hx2.freeOf hF))).mono fun e w₃ ho=>?_
       obtain⟨β₃,v',rfl,hx3,_⟩:=ho
       have hx4:=hx2.trans hx3 hF
       have hmk3:=(hmk'.ext (hxc) (fun k l u=>by omega)).ext hx3 (hx2.freeOf hF)
       have hb3:β₃ s.next=some m:=hx3.le _ _ (hxc.le _ _ hbm)
       cases hmay:s₃.may s.next with
       |false=>rw[hmay]at hne;exact(hne rfl).elim
       |true=>
        rw[hmay]at hne hfree
        cases hg:s₃.get s.next with
        |none=>rw[hg]at hne;exact(hne rfl).elim
        |some o=>
         cases o with
         |cells c e=>rw[hg]at hne;exact(hne rfl).elim
         |map es c=>rw[hg]at hne;exact(hne rfl).elim
         |loop lp=>
          rw[hg]at hne hfree
          simp only at hne hfree ⊢
          obtain⟨r,g1,gft,gp,gA,gB,gs,gj⟩:=hx3.rel.loop hb3 hg
          have hbz:busyB lp.state=false:=by
           cases hbz:busyB lp.state with
           |true=>rw[hbz]at hne;exact(hne rfl).elim
           |false=>rfl
          have hnb:lp.state≠.busy:=fun e=>by rw[e]at hbz;cases hbz
          rw[hbz]at hne ⊢
          simp only at hne ⊢
          have hx5:Ext P β₃ s₃ w₃ β₃ (s₃.put s.next (some (.loop {lp with state:=.exhausted}))) (w₃.putObj m.blk (.loop {r with state:=.exhausted})):=
           Ext.putLoop hx3.rel hb3 hmay hg g1 (.loop gft gp gA gB rfl gj)
          have hfree5:Free β₃ s₃ (s₃.put s.next (some (.loop {lp with state:=.exhausted}))):=fun k l u=>by
           have u:k<s₃.next:=u
           omega
          have hx6:=hx4.trans hx5 (fun k l u=>hF k l u)
          have hmk6:=hmk3.ext hx5 hfree5
          have hfr6:FRel P β₃ a {a' with defers:=[{target:=.collected w.heap.size,args:= #[]}]++a'.defers}:=(hf.trel.mono hx6.le).frel _
          refine⟨lp.pend,w₃.putObj m.blk (.loop {r with state:=.exhausted}),by rw[←gj];exact run_endLoop g1 (by rw[gs];exact hnb),?_⟩
          cases hpd:lp.pend with
          |none=>
           rw[hpd]at hx6 hmk6
           exact⟨rfl,β₃,hx6,hfr6,hmk6⟩
          |some c=>
           rw[hpd]at hne hx6 hmk6
           cases c with
           |ret=>exact wpIn_ret ⟨rfl,β₃,hx6,hfr6,hmk6⟩
           |exit id=>exact wpIn_exit ⟨rfl,β₃,hx6,hfr6,hmk6⟩
           |_=>exact(hne rfl).elim
   |_=>exact(hne rfl).elim
theorem rounds_sound(hI:TableS P I){b:Code}(hb:yM b=true)(lo:Nat)(ro:Option Nat)(hro:ro=none∨xz b=true){n:Nat}(ih:∀m,m<n→CodeS P (zD P I m)):∀m,m≤n→∀(a:Fr) (a':Act) (s:St) (β:Ren) (w:World),Rel P β s w→FRel P β a a'→Marks lo β s w a'.defers→lo≤w.heap.size →
  zD P I m (.loop b) a s≠.stuck→(zD P I m (.loop b) a s).free β s→∀Q:Exit→Act→World→Prop,(∀e a₂ w₂,OutP P lo β s w (zD P I m (.loop b) a s) e a₂ w₂→Q e a₂ w₂)→Code.roundsIn (FW ro) 0 P b Q m a' w:=by
 intro m
 induction m with
 |zero=>intro _ a a' s β w _ _ _ _ hne;exact(hne rfl).elim
 |succ m ihm=>
  intro hm a a' s β w h hf hmk hlo hne hfree Q hQ
  have hn:=codeM_next hI m
  unfold zD at hne hfree hQ
  simp only at hne hfree hQ
  rw[roundsIn_succ]
  have hw:=fun h1 h2=>ih m O b a a' s β w lo ro hb hro h hf hmk hlo h1 h2
  cases hr:zD P I m b a s with
  |stuck=>rw[hr]at hne;exact(hne rfl).elim
  |normal a₁ s₁=>
   rw[hr]at hne hfree hQ hw
   simp only at hne hfree hQ
   have hfr:Free β s s₁:=Out.free_of (hn _ _ _) hfree hne
   refine wpIn_mono (hw Y8 hfr) fun e a₂ w₂ ho=>?_
   obtain⟨rfl,β',hx,hf2,hmk2⟩:=ho
   exact ihm O a₁ a₂ s₁ β' w₂ hx.rel hf2 hmk2 (Nat.le_trans hlo hx.size) hne (hx.outFree hfree) Q fun e a₃ w₃ ho=>hQ e a₃ w₃ (ho.trans hx hfree)
  |exit id a₁ s₁=>
   rw[hr]at hfree hQ hw
   refine wpIn_mono (hw Y8 hfree) fun e a₂ w₂ ho=>?_
   have:=ho.1
   subst this
   exact hQ _ _ _ ho
  |ret a₁ s₁=>
   rw[hr]at hfree hQ hw
   refine wpIn_mono (hw Y8 hfree) fun e a₂ w₂ ho=>?_
   have:=ho.1
   subst this
   exact hQ _ _ _ ho
  |panic c a₁ s₁=>
   rw[hr]at hfree hQ hw
   refine wpIn_mono (hw Y8 hfree) fun e a₂ w₂ ho=>?_
   obtain⟨c',β',rfl,hrest⟩:=ho
   exact hQ _ _ _ ⟨c',β',rfl,hrest⟩
theorem code_sound(hmix:P.follows .mixedOrders=true)(hI:TableS P I):∀n,CodeS P (zD P I n):=by
 intro n
 induction n using Nat.strongRecOn with
 |_ n ih=>
  cases n with
  |zero=>intro c a a' s β w lo ro _ _ _ _ _ _ hne;exact(hne rfl).elim
  |succ n=>
   intro c a a' s β w lo ro hcb hro h hf hmk hlo hne hfree
   have ihn:=ih n O
   have hn:=codeM_next hI n
   have hcall:=callWith_sound hI hn ihn
   have hkeep:=qF hI (codeM_keeps hI n)
   cases c with
   |skip=>
    unfold zD at hfree ⊢
    exact wpIn_skip ⟨rfl,β,Ext.refl h,hf,hmk⟩
   |label k=>
    unfold zD at hfree ⊢
    exact wpIn_label ⟨rfl,β,Ext.refl h,hf,hmk⟩
   |exit id=>
    unfold zD at hfree ⊢
    exact wpIn_exit ⟨rfl,β,Ext.refl h,hf,hmk⟩
   |ret=>
    unfold zD at hfree ⊢
    exact wpIn_ret ⟨rfl,β,Ext.refl h,hf,hmk⟩
   |seq x y=>
    simp only[yM,Bool.and_eq_true]at hcb
    unfold zD at hne hfree ⊢
    simp only at hne hfree ⊢
    refine wpIn_seq ?_
    have hw:=fun h1 h2=>ihn x a a' s β w lo ro hcb.1 (hro.imp id fun h=>by simp only[xz,Bool.and_eq_true]at h;exact h.1) h hf hmk hlo h1 h2
    cases hr:zD P I n x a s with
    |stuck=>rw[hr]at hne;exact(hne rfl).elim
    |normal a₁ s₁=>
     rw[hr]at hne hfree hw
     simp only at hne hfree ⊢
     have hfr:Free β s s₁:=Out.free_of (hn y a₁ s₁) hfree hne
     refine wpIn_mono (hw Y8 hfr) fun e a₂ w₂ ho=>?_
     obtain⟨rfl,β',hx,hf2,hmk2⟩:=ho
     exact wpIn_mono (ihn y a₁ a₂ s₁ β' w₂ lo ro hcb.2 (hro.imp id fun h=>by simp only[xz,Bool.and_eq_true]at h;exact h.2) hx.rel hf2 hmk2 (Nat.le_trans hlo hx.size) hne (hx.outFree hfree)) fun e a₃ w₃ ho=>ho.trans hx hfree
    |exit id a₁ s₁=>
     rw[hr]at hfree hw
     refine wpIn_mono (hw Y8 hfree) fun e a₂ w₂ ho=>?_
     have:=ho.1
     subst this
     exact ho
    |ret a₁ s₁=>
     rw[hr]at hfree hw
     refine wpIn_mono (hw Y8 hfree) fun e a₂ w₂ ho=>?_
     have:=ho.1
     subst this
     exact ho
    |panic c a₁ s₁=>
     rw[hr]at hfree hw
     refine wpIn_mono (hw Y8 hfree) fun e a₂ w₂ ho=>?_
     obtain⟨c',β',rfl,hrest⟩:=ho
     exact⟨c',β',rfl,hrest⟩
   |cond c x y=>
    simp only[yM,Bool.and_eq_true]at hcb
    unfold zD at hne hfree ⊢
    simp only at hne hfree ⊢
    have hv:=hf.eval hcb.1.1
    generalize hev:a.eval c=u at hv hne hfree ⊢
    split at hne
    ·simp only at hfree ⊢
     generalize hev':a'.eval c=u' at hv
     cases hv
     exact wpIn_cond_true hev' (ihn x a a' s β w lo ro hcb.1.2 (hro.imp id fun h=>by simp only[xz,Bool.and_eq_true]at h;exact h.1) h hf hmk hlo hne hfree)
    ·simp only at hfree ⊢
     generalize hev':a'.eval c=u' at hv
     cases hv
     exact wpIn_cond_false hev' (ihn y a a' s β w lo ro hcb.2 (hro.imp id fun h=>by simp only[xz,Bool.and_eq_true]at h;exact h.2) h hf hmk hlo hne hfree)
    ·exact(hne rfl).elim
   |block id b=>
    simp only[yM]at hcb
    unfold zD at hne hfree ⊢
    simp only at hne hfree ⊢
    refine wpIn_block ?_
    have hw:=fun h1 h2=>ihn b a a' s β w lo ro hcb hro h hf hmk hlo h1 h2
    cases hr:zD P I n b a s with
    |stuck=>rw[hr]at hne;exact(hne rfl).elim
    |normal a₁ s₁=>
     rw[hr]at hfree hw
     refine wpIn_mono (hw Y8 hfree) fun e a₂ w₂ ho=>?_
     have:=ho.1
     subst this
     exact ho
    |exit id' a₁ s₁=>
     rw[hr]at hfree hw
     simp only at hfree ⊢
     cases hid:Nat.beq id' id with
     |true=>
      rw[hid]at hfree
      simp only at hfree ⊢
      have hide:=Nat.eq_of_beq_eq_true hid
      refine wpIn_mono (hw Y8 hfree) fun e a₂ w₂ ho=>?_
      obtain⟨rfl,hrest⟩:=ho
      simp only[Exit.inBlock,hide,if_true]
      exact⟨rfl,hrest⟩
     |false=>
      rw[hid]at hfree
      simp only at hfree ⊢
      have hide:¬id'=id:=fun e=>by subst e;simp at hid
      refine wpIn_mono (hw Y8 hfree) fun e a₂ w₂ ho=>?_
      obtain⟨rfl,hrest⟩:=ho
      simp only[Exit.inBlock,hide,if_false]
      exact⟨rfl,hrest⟩
    |ret a₁ s₁=>
     rw[hr]at hfree hw
     refine wpIn_mono (hw Y8 hfree) fun e a₂ w₂ ho=>?_
     have:=ho.1
     subst this
     exact ho
    |panic c a₁ s₁=>
     rw[hr]at hfree hw
     refine wpIn_mono (hw Y8 hfree) fun e a₂ w₂ ho=>?_
     obtain⟨c',β',rfl,hrest⟩:=ho
     exact⟨c',β',rfl,hrest⟩
   |loop b=>
    simp only[yM]at hcb
    exact wpIn_loop_rounds (n+1) (rounds_sound hI hcb lo ro hro (n:=n+1) ih (n+1) Z3 a a' s β w h hf hmk hlo hne hfree _ fun _ _ _ ho=>ho)
   |region id ops draw=>
    simp only[yM]at hcb
    unfold zD at hne hfree ⊢
    simp only at hne hfree ⊢
    cases draw with
    |false=>
     simp only at hne hfree ⊢
     refine wpIn_region_list (ops_sound hcall ro ops ops.toList (fun o ho=>?_) a a' s β w h hf hmk hne hfree _ fun _ _ _ ho=>ho)
     rw[List.all_eq_true]at hcb
     exact hcb o ho
    |true=>
     simp only at hne hfree ⊢
     cases hpl:planB ops.toList (plan ops.toList)with
     |false=>rw[hpl]at hne;exact(hne rfl).elim
     |true=>
      rw[hpl]at hne hfree
      simp only at hne hfree ⊢
      exact draw_sound hmix hcall hkeep hpl hcb h hf hmk ro hne hfree
   |scope b=>
    simp only[yM]at hcb
    unfold zD at hne hfree ⊢
    simp only at hne hfree ⊢
    refine wpIn_scope (wpIn_mono (ihn b a a' s β w lo ro hcb hro h hf hmk hlo hne hfree) fun e a₂ w₂ ho=>?_)
    cases e with
    |goto l=>
     cases hr:zD P I n b a s with
     |stuck=>rw[hr]at ho;exact ho
     |normal a₁ s₁=>rw[hr]at ho;cases ho.1
     |exit id a₁ s₁=>rw[hr]at ho;cases ho.1
     |ret a₁ s₁=>rw[hr]at ho;cases ho.1
     |panic c a₁ s₁=>rw[hr]at ho;obtain⟨_,_,e,_⟩:=ho;cases e
    |_=>exact ho
   |rangeFunc f ps x y=>
    rcases hro with rfl|hro
    ·simp only[yM,Bool.and_eq_true]at hcb
     unfold zD at hne hfree ⊢
     simp only at hne hfree ⊢
     exact range_sound hI hn ihn hcb.1.1 h hf hmk hlo hne hfree
    ·cases hro
   |_=>exact(hne rfl).elim
theorem call_ok(hmix:P.follows .mixedOrders=true)(hI:TableS P I)(n:Nat):CallS P (callM P I n):=
 callWith_sound hI (codeM_next hI n) (code_sound hmix hI n)
end
end Go.M
