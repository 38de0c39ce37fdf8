/- Code and calls of the abstract machine stand for the model's. -/
import Derived.Test.YtocnbjjmmgolfaaGreatA08
import Derived.LoopNIn
import Derived.Scope
set_option linter.unusedSimpArgs false
set_option linter.unusedVariables false
set_option linter.unusedSectionVars false
namespace Go.M
structure c6(P:Program)(I:zZ):Prop where
 next:∀f g,I f=some g->∀args s,(g args s).nextLe s
 keeps:∀f g,I f=some g->∀args s,WF s->(g args s).keeps s
 sound:∀f g,I f=some g->∀args args' s β w,bh P β s w->bc P β args.toList args'.toList->g args s≠.stuck->(g args s).free β s->Calls P f args' w (Wi P β s w (g args s))
def JP(P:Program)(code:Code->Fr->St->cg):Prop:=
 ∀c a a' s β w lo ro,xP c=true->(ro=none\/kA c=true)->bh P β s w->cv P β a a'->ck lo β s w a'.defers->lo<=w.heap.size->code c a s≠.stuck->(code c a s).free β s ->
  c.wpIn (FW ro) 0 P (fE P lo β s w (code c a s)) a' w
theorem cg.next_trans{s s₁:St}{r:cg}(h:s.next<=s₁.next)(a:r.nextLe s₁):r.nextLe s:=by
 cases r<;>first|exact bK h a|trivial
theorem zdp{P:Program}{call:FuncId->Array Value->St->aq}(hc:∀f args s,(call f args s).nextLe s)(ops:List Oper)(d:an)(o:Oper)(a:Fr)(s:St):(yO P call ops d o a s).nextLe s:=by
 unfold yO
 split
 .split
  .split
   .split
    .exact aN _
    .trivial
   .trivial
  .have h1:=YH (P:=P) hc o a {s with prot:=xa ops a d.free++s.prot}
   split
   .rename_i b;rw[b]at h1;exact h1
   .rename_i b;rw[b]at h1;exact h1
   .trivial
  .have h1:=YH (P:=P) hc o a {s with bar:=s.next}
   split
   .rename_i b;rw[b]at h1;exact h1
   .trivial
  .split
   .split
    .split
     .show s.next<=s.next+1;omega
     .trivial
    .trivial
   .trivial
 .exact aN _
theorem VG{P:Program}{call:FuncId->Array Value->St->aq}(hc:∀f args s,(call f args s).nextLe s)(ops:List Oper):∀(l:List an) (a:Fr) (s:St),(wh P call ops l a s).nextLe s
 | [],a,s=>aN _
 |d::l,a,s=>by
  unfold wh
  split
  .rename_i o _
   have h1:=zdp (P:=P) hc ops d o a s
   cases e:yO P call ops d o a s with
   |normal b s₁=>
    rw[e]at h1
    exact cg.next_trans h1 (VG hc ops l b s₁)
   |exit id b s₁=>rw[e]at h1;exact h1
   |ret b s₁=>rw[e]at h1;exact h1
   |panic c b s₁=>rw[e]at h1;exact h1
   |stuck=>trivial
  .trivial
section
variable{P:Program}{I:zZ}
theorem zgi{code:Code->Fr->St->cg}(hn:∀c a s,(code c a s).nextLe s)(fn:Func)(c:Code)(args:Array Value)(s:St):(gH P code fn c args s).nextLe s:=by
 unfold gH
 split
 .have h1:=hn c (Fr.make args fn.ntmps) s
  split
  .rename_i b;rw[b]at h1
   unfold finish
   split<;>first|exact h1|trivial
  .rename_i b;rw[b]at h1
   unfold finish
   split<;>first|exact h1|trivial
  .rename_i b;rw[b]at h1;exact h1
  .trivial
 .trivial
theorem aq.next_trans{s s₁:St}{r:aq}(h:s.next<=s₁.next)(a:r.nextLe s₁):r.nextLe s:=by
 cases r<;>first|exact bK h a|trivial
theorem XB{b:Nat}{j:Option Code}{s:St}:(jS b j s).nextLe s:=by
 unfold jS
 split
 .exact aN _
 .trivial
theorem zcc{code:Code->Fr->St->cg}(hn:∀c a s,(code c a s).nextLe s)(b:Nat)(args:Array Value)(s:St):(vB code b args s).nextLe s:=by
 unfold vB
 split
 .rename_i lp _
  split
  .have h1:=hn lp.assign (lp.fr.putAll lp.params args.toList) s
   split
   .rename_i g s₁ h
    rw[h]at h1
    have h1:s.next<=s₁.next:=h1
    split
    .rename_i lp' _ _
     split
     .have h2:=hn lp'.body g (s₁.put b (some (.loop {lp' with state:=.busy})))
      have e:=hn lp.body g (s₁.put b (some (.loop {lp' with state:=.busy})))
      split
      .rename_i d f
       rw[f]at e
       have e:s₁.next<=d.next:=e
       exact aq.next_trans (bK h1 e) XB
      .rename_i d f
       rw[f]at e
       have e:s₁.next<=d.next:=e
       exact aq.next_trans (bK h1 e) XB
      .rename_i d f
       rw[f]at e
       have e:s₁.next<=d.next:=e
       exact aq.next_trans (bK h1 e) XB
      .trivial
     .trivial
    .trivial
   .trivial
  .trivial
 .trivial
theorem vX(b:c6 P I){code:Code->Fr->St->cg}(hn:∀c a s,(code c a s).nextLe s)(f:FuncId)(args:Array Value)(s:St):(yL P I code f args s).nextLe s:=by
 unfold yL
 split
 .exact zcc hn _ _ _
 .rename_i hlow
  split
  .rename_i g hg;exact b.next f g hg args s
  .split
   .split
    .rename_i fn _ c _
     exact zgi hn _ _ _ _
    .trivial
   .trivial
theorem zdJ{code:Code->Fr->St->cg}(hk:∀c a s,WF s->(code c a s).keeps s)(fn:Func)(c:Code)(args:Array Value)(s:St)(h:WF s):(gH P code fn c args s).keeps s:=by
 unfold gH
 split
 .have h1:=hk c (Fr.make args fn.ntmps) s h
  split
  .rename_i b;rw[b]at h1
   unfold finish
   split<;>first|exact h1|trivial
  .rename_i b;rw[b]at h1
   unfold finish
   split<;>first|exact h1|trivial
  .rename_i b;rw[b]at h1;exact h1
  .trivial
 .trivial
theorem ZY{b:Nat}{j:Option Code}{s:St}(h:WF s):(jS b j s).keeps s:=by
 unfold jS
 split
 .rename_i hm hg
  exact Kp.put h hg hm _
 .trivial
theorem zab{code:Code->Fr->St->cg}(hk:∀c a s,WF s->(code c a s).keeps s)(b:Nat)(args:Array Value)(s:St)(h:WF s):(vB code b args s).keeps s:=by
 unfold vB
 split
 .rename_i lp _
  split
  .have h1:=hk lp.assign (lp.fr.putAll lp.params args.toList) s h
   split
   .rename_i g s₁ i
    rw[i]at h1
    have h1:Kp s s₁:=h1
    split
    .rename_i lp' hm hg
     split
     .have hp:=Kp.put h1.wf hg hm (some (.loop {lp' with state:=.busy}))
      have e:=hk lp.body g _ hp.wf
      split
      .rename_i d f
       rw[f]at e
       have e:Kp _ d:=e
       exact aq.keeps_trans (h1.trans (hp.trans e)) (ZY e.wf)
      .rename_i d f
       rw[f]at e
       have e:Kp _ d:=e
       exact aq.keeps_trans (h1.trans (hp.trans e)) (ZY e.wf)
      .rename_i d f
       rw[f]at e
       have e:Kp _ d:=e
       exact aq.keeps_trans (h1.trans (hp.trans e)) (ZY e.wf)
      .trivial
     .trivial
    .trivial
   .trivial
  .trivial
 .trivial
theorem wS(b:c6 P I){code:Code->Fr->St->cg}(hk:∀c a s,WF s->(code c a s).keeps s)(f:FuncId)(args:Array Value)(s:St)(h:WF s):(yL P I code f args s).keeps s:=by
 unfold yL
 split
 .exact zab hk _ _ _ h
 .split
  .rename_i g hg;exact b.keeps f g hg args s h
  .split
   .split
    .exact zdJ hk _ _ _ _ h
    .trivial
   .trivial
theorem Z9{f:Value}{args:List Value}{s s':St}{n:Next}(h:jV P f args s=.ok n s'):s'=s:=by
 unfold jV at h
 (repeat' split at h)<;>cases h<;>rfl
theorem zaf(k:c6 P I){code:Code->Fr->St->cg}(hk:∀c a s,WF s->(code c a s).keeps s)(f:Operand)(ps:Array Tmp)(x y:Code)(a:Fr)(s:St)(h:WF s):(kR P I code f ps x y a s).keeps s:=by
 unfold kR
 split
 .trivial
 .rename_i b
  have h0:=Kp.new h b (.loop {fr:=a.norm,params:=ps.toList,assign:=x,body:=y,state:=.ready,pend:=none})
  split
  .rename_i g args s₁ hv
   have e:=Z9 hv
   subst e
   split
   .trivial
   .have h2:=wS k hk g args _ h0.wf
    split
    .rename_i d j
     rw[j]at h2
     have h2:Kp _ d:=h2
     split
     .rename_i lp hm hg
      have i:=Kp.put h2.wf hg hm (some (.loop {lp with state:=.exhausted}))
      split
      .trivial
      .split
       .exact h0.trans (h2.trans i)
       .exact h0.trans (h2.trans i)
       .exact h0.trans (h2.trans i)
       .trivial
     .trivial
    .rename_i j
     rw[j]at h2
     exact h0.trans h2
    .trivial
  .trivial
theorem X0(i:c6 P I){code:Code->Fr->St->cg}(hn:∀c a s,(code c a s).nextLe s)(f:Operand)(ps:Array Tmp)(x y:Code)(a:Fr)(s:St):(kR P I code f ps x y a s).nextLe s:=by
 unfold kR
 split
 .trivial
 .split
  .rename_i g args s₁ hv
   have e:=Z9 hv
   subst e
   split
   .trivial
   .have h2:=vX i hn g args (s.new (.loop {fr:=a.norm,params:=ps.toList,assign:=x,body:=y,state:=.ready,pend:=none}))
    split
    .rename_i b d
     rw[d]at h2
     have h2:s.next+1<=b.next:=h2
     have h:s.next<=b.next:=by omega
     split
     .split
      .trivial
      .split<;>first|exact h|trivial
     .trivial
    .rename_i b d
     rw[d]at h2
     have h2:s.next+1<=b.next:=h2
     show s.next<=b.next
     omega
    .trivial
  .trivial
theorem uB(g:c6 P I):∀(n:Nat) (c:Code) (a:Fr) (s:St),(zY P I n c a s).nextLe s
 |0,_,_,_=>trivial
 |n+1,c,a,s=>by
  have f:=uB g n
  have hc:=vX g f
  unfold zY
  split
  .exact aN _
  .exact aN _
  .rename_i x y
   have h1:=f x a s
   cases e:zY P I n x a s with
   |normal d s₁=>rw[e]at h1;exact cg.next_trans h1 (f y d s₁)
   |exit id d s₁=>rw[e]at h1;exact h1
   |ret d s₁=>rw[e]at h1;exact h1
   |panic c d s₁=>rw[e]at h1;exact h1
   |stuck=>trivial
  .split
   .exact f _ _ _
   .exact f _ _ _
   .trivial
  .rename_i id b
   have h1:=f b a s
   cases e:zY P I n b a s with
   |normal d s₁=>rw[e]at h1;exact h1
   |exit id' d s₁=>
    rw[e]at h1
    simp only
    split<;>exact h1
   |ret d s₁=>rw[e]at h1;exact h1
   |panic c d s₁=>rw[e]at h1;exact h1
   |stuck=>trivial
  .rename_i b
   have h1:=f b a s
   cases e:zY P I n b a s with
   |normal d s₁=>rw[e]at h1;exact cg.next_trans h1 (f _ d s₁)
   |exit id d s₁=>rw[e]at h1;exact h1
   |ret d s₁=>rw[e]at h1;exact h1
   |panic c d s₁=>rw[e]at h1;exact h1
   |stuck=>trivial
  .exact aN _
  .exact aN _
  .split
   .exact gR hc _ _ _ _
   .split
    .exact VG hc _ _ _ _
    .trivial
  .exact f _ _ _
  .exact X0 g f _ _ _ _ _ _
  .trivial
theorem Qp(g:c6 P I):∀(n:Nat) (c:Code) (a:Fr) (s:St),WF s->(zY P I n c a s).keeps s
 |0,_,_,_,_=>trivial
 |n+1,c,a,s,h=>by
  have f:=Qp g n
  have hc:=wS g f
  unfold zY
  split
  .exact Kp.refl h
  .exact Kp.refl h
  .rename_i x y
   have h1:=f x a s h
   cases e:zY P I n x a s with
   |normal d s₁=>rw[e]at h1;have h1:Kp s s₁:=h1;exact cg.keeps_trans h1 (f y d s₁ h1.wf)
   |exit id d s₁=>rw[e]at h1;exact h1
   |ret d s₁=>rw[e]at h1;exact h1
   |panic c d s₁=>rw[e]at h1;exact h1
   |stuck=>trivial
  .split
   .exact f _ _ _ h
   .exact f _ _ _ h
   .trivial
  .rename_i id b
   have h1:=f b a s h
   cases e:zY P I n b a s with
   |normal d s₁=>rw[e]at h1;exact h1
   |exit id' d s₁=>
    rw[e]at h1
    simp only
    split<;>exact h1
   |ret d s₁=>rw[e]at h1;exact h1
   |panic c d s₁=>rw[e]at h1;exact h1
   |stuck=>trivial
  .rename_i b
   have h1:=f b a s h
   cases e:zY P I n b a s with
   |normal d s₁=>rw[e]at h1;have h1:Kp s s₁:=h1;exact cg.keeps_trans h1 (f _ d s₁ h1.wf)
   |exit id d s₁=>rw[e]at h1;exact h1
   |ret d s₁=>rw[e]at h1;exact h1
   |panic c d s₁=>rw[e]at h1;exact h1
   |stuck=>trivial
  .exact Kp.refl h
  .exact Kp.refl h
  .split
   .exact ZH hc _ _ _ _ h
   .split
    .exact Ql hc _ _ _ _ h
    .trivial
  .exact f _ _ _ h
  .exact zaf g f _ _ _ _ _ _ h
  .trivial
def BD(tmps:Array Value):ResultVar->Sem Value
 | .tmp t=>pure (tmps.getD t undef)
 | .cell b t=>do loadVar t (<-asAddr (tmps.getD b undef))
theorem zeA(fn:Func)(tmps:Array Value):results fn tmps=(fn.results.mapM (BD tmps) >>= λvs=>pure (if h:vs.size=1 then vs[0]else .tuple vs)):=rfl
theorem jo{β:aS}{s:St}{w:World}(h:bh P β s w){a:Fr}{a':Act}(hf:cv P β a a'):∀(rs:List ResultVar) (l:List Value),qO P a s rs=some l ->
 ∃c,(rs.mapM (BD a'.tmps)).run P w=.ok c w/\bc P β l c
 | [],l,hl=>by
  simp only[qO,bH]at hl
  subst hl
  exact⟨[],rfl,.nil⟩
 | .tmp t::rs,l,hl=>by
  unfold qO at hl
  split at hl
  .rename_i r d
   cases hl
   obtain⟨c,h1,h2⟩:=jo h hf rs r d
   refine⟨a'.tmps.getD t undef::c,?_,.cons (hf.get t) h2⟩
   rw[List.mapM_cons]
   simp only[BD,Sem.run_bind,Sem.run_pure,Result.andThen_ok,h1]
  .cases hl
 | .cell b t::rs,l,hl=>by
  unfold qO at hl
  split at hl
  .rename_i v r hv d
   cases hl
   obtain⟨c,h1,h2⟩:=jo h hf rs r d
   obtain⟨e,v',g1,g2,f⟩:=X6 h (hf.get b) hv
   refine⟨v'::c,?_,.cons f h2⟩
   rw[List.mapM_cons]
   have g0:(asAddr (a'.tmps.getD b undef)).run P w=.ok e w:=by rw[g1];rfl
   simp only[BD,Sem.run_bind,Sem.run_pure,Result.andThen_ok,g0,g2]
   rw[h1]
   rfl
  .cases hl
theorem zaR{β:aS}{s:St}{w:World}(h:bh P β s w){a:Fr}{a':Act}(hf:cv P β a a'){fn:Func}{v:Value}{s₁:St}(c:finish P fn a s=.ret v s₁) :
 s₁=s/\∃v',(results fn a'.tmps).run P w=.ok v' w/\ao P β v v':=by
 unfold finish at c
 have key:∀l,qO P a s fn.results.toList=some l->∃b,(results fn a'.tmps).run P w=.ok (if h:(⟨b⟩:Array Value).size=1 then(⟨b⟩:Array Value)[0]else .tuple ⟨b⟩) w/\bc P β l b:=λl hl=>by
  obtain⟨b,h1,h2⟩:=jo h hf _ l hl
  refine⟨b,?_,h2⟩
  rw[zeA,Array.mapM_eq_mapM_toList]
  simp only[Sem.run_bind,Sem.run_map,h1,Result.andThen_ok,Sem.run_pure]
 split at c
 .rename_i v₀ hl
  cases c
  obtain⟨b,h1,h2⟩:=key _ hl
  cases h2 with
  |cons hv h2=>
   cases h2
   exact⟨rfl,_,h1,hv⟩
 .rename_i l hn hl
  cases c
  obtain⟨b,h1,h2⟩:=key _ hl
  refine⟨rfl,.tuple ⟨b⟩,?_,.tuple h2⟩
  rw[h1]
  have:¬(⟨b⟩:Array Value).size=1:=λhe=>by
   have hlen:b.length=1:=he
   have:=h2.length
   rw[hlen]at this
   obtain⟨x,hx⟩:=List.length_eq_one_iff.1 this.symm
   exact hn x hx
  rw[dif_neg this]
 .cases c
end
section
variable{P:Program}{F:Fence}{n:Nat}{Q:Exit->Act->World->Prop}{a:Act}{w:World}
theorem vt{b:Frame}{k:List Item}{cs:List Frame}{c:Code}:step P (lone (b.atR a (.code (.scope c)::k)) cs w)=.next (lone (b.atR a (.code c::.inScope c::k)) cs w):=
 step_lone_go (by simp[stepG,stepG.exec,Frame.atR])
theorem Wq{b:Frame}{k:List Item}{cs:List Frame}{c:Code}:step P (lone (b.atR a (.inScope c::k)) cs w)=.next (lone (b.atR a k) cs w):=
 step_lone_go (by simp[stepG,stepG.exec,Frame.atR])
theorem zel{c:Code}(h:c.wpIn F n P (Exit.noGoto Q) a w):(Code.scope c).wpIn F n P Q a w:=by
 intro b k cs m hb j
 have h0:(lone (b.atR a (.code (.scope c)::k)) cs w).fenced P F:=fenced_calm hb j rfl
 obtain⟨e,d,g,i,f⟩:=h b (.inScope c::k) cs m hb j
 cases e with
 |normal=>exact⟨.normal,d,g,i,.head h0 vt (StepsIn.trans f (.one (fenced_calm (fr:=b.atR d (.inScope c::k)) hb j rfl) Wq))⟩
 |exit id=>
  refine⟨.exit id,d,g,i,λk' hk=>.head h0 vt (f.1 k' (by simp[exitTo,hk])),λhx hk=>?_⟩
  obtain⟨k₁,h1,h2⟩:=f.2 hx (by simp[exitTo,hk])
  exact⟨k₁,h1,.head h0 vt h2⟩
 |goto l=>exact i.elim
 |ret=>exact⟨_,d,g,i,.of_steps (.one h0 vt) f⟩
 |panic ch=>exact⟨_,d,g,i,.of_steps (.one h0 vt) f⟩
 |outgrown=>exact⟨_,d,g,i,.of_steps (.one h0 vt) f⟩
end
section
variable{P:Program}
theorem bp.alloc{β:aS}{s:St}{w:World}(h:bh P β s w)(o:Obj):bp P β s w β s (w.alloc o):=by
 have d:∀r,r<w.heap.size->(w.alloc o).heap[r]? = w.heap[r]? :=λr f=>by
  show(w.heap.push o)[r]? = _
  rw[Array.getElem?_push,aD O]
 have hsz:(w.alloc o).heap.size=w.heap.size+1:=by show(w.heap.push o).size=_;simp
 exact{
  rel:=⟨λb m hb c=>by have:=h.img b m hb c;omega,λb m o hb c hg=>by rw[d _ (h.img b m hb c)];exact h.obj b m o hb c hg,h.inj,h.ro,h.room,h.top⟩
  le:=aS.le_refl β
  dom:=λb m h e=>by rw[e]at h;cases h
  next:=aN _
  bar:=rfl
  prot:=rfl
  size:=by omega
  out:=λr f _=>d r f
  same:=λ_ _ _=>rfl
  dead:=λ_ _ h=>h
  fresh:=λb m h e=>by rw[e]at h;cases h
  os:=rfl
  output:=rfl
  tape:=rfl}
structure ik(lo:Nat)(β:aS)(s:St)(w w':World):Prop where
 size:w'.heap.size=w.heap.size
 low:∀r,r<lo->w'.heap[r]? = w.heap[r]?
 img:∀b m,β b=some m->b<s.next->w'.heap[m.blk]? = w.heap[m.blk]?
 os:w'.os=w.os
 output:w'.output=w.output
 tape:w'.tape=w.tape
theorem ik.refl(lo:Nat)(β:aS)(s:St)(w:World):ik lo β s w w:=⟨rfl,λ_ _=>rfl,λ_ _ _ _=>rfl,rfl,rfl,rfl⟩
theorem ik.rel{lo:Nat}{β:aS}{s:St}{w w':World}(h:ik lo β s w w')(d:bh P β s w):bh P β s w':=
 ⟨λb m hb c=>by rw[h.size];exact d.img b m hb c,λb m o hb c hg=>by rw[h.img b m hb c];exact d.obj b m o hb c hg,d.inj,d.ro,d.room,d.top⟩
theorem bp.shut{β β':aS}{s s':St}{w w' b:World}(h:bp P β s w β' s' w')(hs:ik w.heap.size β' s' w' b):bp P β s w β' s' b where
 rel:=hs.rel h.rel
 le:=h.le
 dom:=h.dom
 next:=h.next
 bar:=h.bar
 prot:=h.prot
 size:=by rw[hs.size];exact h.size
 out:=λr d c=>by rw[hs.low r d];exact h.out r d c
 same:=h.same
 dead:=h.dead
 fresh:=h.fresh
 os:=hs.os.trans h.os
 output:=hs.output.trans h.output
 tape:=hs.tape.trans h.tape
theorem ul{fn:Func}{tmps:Array Value}{R:Ending->World->Prop}{u:FrameMode}{lo:Nat}{β:aS}{s:St}(hu:u≠.run):∀(f:List Deferred) (w:World),ck lo β s w f ->
 (∀w',ik lo β s w w'->LeavesIn (FW none) 0 P fn tmps R [] u w')->LeavesInM (FW none) 0 P fn tmps R f u w
 | [],w,_,h=>h w (ik.refl lo β s w)
 |d::f,w,⟨⟨r,h1,h0,h2,v,j⟩,x⟩,h=>by
  have hlt:r<w.heap.size:=(Array.getElem?_eq_some_iff.1 h2).1
  refine⟨hu,.inl ⟨r,w.putObj r (.deferred none),by rw[h1],run_takeDeferred h2,?_⟩⟩
  have c:∀k,k≠r->(w.putObj r (.deferred none)).heap[k]? = w.heap[k]? :=λk hk=>World.putObj_heap_other hk
  refine ul (lo:=lo) (β:=β) (s:=s) hu f _ ?_ λw' hs=>h w' ?_
  .clear h
   induction f with
   |nil=>trivial
   |cons o f y=>
    obtain⟨⟨l,g1,g0,g2,p,q⟩,t⟩:=x
    refine⟨⟨l,g1,g0,?_,p,q⟩,y (λi hd=>j i (by simp[hd])) t⟩
    rw[c l λe=>j o Y8 (by rw[g1,e])]
    exact g2
  .exact⟨by rw[hs.size];simp,λk hk=>by rw[hs.low k hk];exact c k O,λb m hb g=>by rw[hs.img b m hb g];exact c _ (v b m hb g),hs.os,hs.output,hs.tape⟩
theorem KJ{β:aS}:∀(ps:List Tmp) (vs b:List Value) (a:Fr) (t':Array Value) (c:List Deferred),bc P β vs b->cv P β a {tmps:=t',defers:=c} ->
 cv P β (a.putAll ps vs) {tmps:=(ps.zip b).foldl (λtmps x=>tmps.setIfInBounds x.1 x.2) t',defers:=c}
 | [],_,_,a,t',c,_,h=>by simpa[Fr.putAll]using h
 |p::ps,[],_,a,t',c,hv,h=>by cases hv;simpa[Fr.putAll]using h
 |p::ps,v::vs,_,a,t',c,hv,h=>by
  cases hv with
  | @cons _ v' _ b h1 h2=>
   simp only[Fr.putAll,List.zip_cons_cons,List.foldl_cons]
   exact KJ ps vs b _ _ c h2 (h.put (some p) h1)
theorem mj(r:Loop)(args:Array Value):u6 r args=(r.params.toList.zip args.toList).foldl (λtmps x=>tmps.setIfInBounds x.1 x.2) r.tmps:=by
 unfold u6
 rw[<-Array.foldl_toList,Array.toList_zip]
theorem bp.putLoop{β:aS}{s:St}{w:World}(h:bh P β s w){b:Nat}{m:dm}(hb:β b=some m)(hm:s.may b=true){lp:Lp}(hg:s.get b=some (.loop lp)){lp':Lp}{r d:Loop}
 (hw:w.heap[m.blk]? = some (.loop r)) (ho:eT P β m (.loop lp') (.loop d)):bp P β s w β (s.put b (some (.loop lp'))) (w.putObj m.blk (.loop d)):=by
 have c:m.blk<w.heap.size:=(Array.getElem?_eq_some_iff.1 hw).1
 exact bp.write h hb hm hg _ Y8 (λq e=>World.putObj_heap_other e) ⟨_,World.putObj_heap_same c,ho⟩ rfl rfl rfl
theorem bh.loop{β:aS}{s:St}{w:World}(h:bh P β s w){b:Nat}{m:dm}(hb:β b=some m){lp:Lp}(hg:s.get b=some (.loop lp)) :
 ∃r,w.heap[m.blk]? = some (.loop r)/\fN P β lp.fr r.tmps/\r.params.toList=lp.params/\r.assign=lp.assign/\r.body=lp.body/\r.state=lp.state/\r.pending=lp.pend:=by
 obtain⟨o',h1,h2⟩:=h.obj b m _ hb (h.lt hg) hg
 cases h2 with
 | @loop _ r c hp d e hs hj=>exact⟨r,h1,c,hp,d,e,hs,hj⟩
theorem zfs{β:aS}{s:St}{w:World}(h:bh P β s w){b:Nat}{m:dm}(hb:β b=some m){j:Option Code}(d:jS b j s≠.stuck) :
 ∃v w' s',jS b j s=.ret v s'/\s'.next=s.next/\(Instr.endRound m.blk j).run P w=.ok v w'/\bp P β s w β s' w'/\ao P β v v:=by
 unfold jS at d |-
 split at d
 .rename_i lp hm hg
  obtain⟨r,h1,e,hp,f,g,hs,hj⟩:=h.loop hb hg
  cases j with
  |none=>
   have hx:bp P β s w β (s.put b (some (.loop {lp with state:=.ready,pend:=none}))) (w.putObj m.blk (.loop {r with state:=.ready,pending:=none})):=
    bp.putLoop h hb hm hg h1 (.loop e hp f g rfl rfl)
   exact⟨_,_,_,rfl,rfl,run_endRound none h1,hx,.bool _⟩
  |some c=>
   have hx:bp P β s w β (s.put b (some (.loop {lp with state:=.done,pend:=some c}))) (w.putObj m.blk (.loop {r with state:=.done,pending:=some c})):=
    bp.putLoop h hb hm hg h1 (.loop e hp f g rfl rfl)
   exact⟨_,_,_,rfl,rfl,run_endRound (some c) h1,hx,.bool _⟩
 .exact(d rfl).elim
theorem YU{b:Nat}{j:Option Code}{s:St}(c:jS b j s≠.stuck):∃v s',jS b j s=.ret v s'/\s'.next=s.next:=by
 unfold jS at c |-
 split at c
 .exact⟨_,_,rfl,rfl⟩
 .exact(c rfl).elim
theorem zcb{code:Code->Fr->St->cg}(W:∀c a s,(code c a s).nextLe s)(J:JP P code){b:Nat}{args args':Array Value}{s:St}{β:aS}{w:World}{m:dm}{r:Loop}
 (h:bh P β s w) (ha:bc P β args.toList args'.toList) (hb:β b=some m) (hw:w.heap[m.blk]? = some (.loop r)) (d:vB code b args s≠.stuck) (f:(vB code b args s).free β s) :
 RoundIn Fence.wide 0 P m.blk r.fn (u6 r args') r.assign r.body w (Wi P β s w (vB code b args s)):=by
 unfold vB at d f |-
 cases hg:s.get b with
 |none=>rw[hg]at d;exact(d rfl).elim
 |some o=>
  cases o with
  |cells c e=>rw[hg]at d;exact(d rfl).elim
  |map es c=>rw[hg]at d;exact(d rfl).elim
  |loop lp=>
   rw[hg]at d f
   simp only at d f |-
   obtain⟨r',h1,hft,hp,hA,hB,hs,hj⟩:=h.loop hb hg
   rw[hw]at h1;cases h1
   cases N:xP lp.assign&&xP lp.body&&kA lp.assign&&kA lp.body&&Nat.beq (yD args.toList 0) (yD lp.params 0)with
   |false=>rw[N]at d;exact(d rfl).elim
   |true=>
    rw[N]at d f
    simp only at d f |-
    simp only[aF]at N
    obtain⟨⟨⟨⟨c1,c2⟩,c3⟩,c4⟩,c5⟩:=N
    have hfr:cv P β (lp.fr.putAll lp.params args.toList) {tmps:=u6 r args',defers:=[]}:=by
     rw[mj,hp]
     exact KJ _ _ _ _ _ _ ha (hft.frel [])
    refine roundIn_of_wpIn (F:=Fence.wide) trivial ?_
    have T:=W lp.assign (lp.fr.putAll lp.params args.toList) s
    have Y:=λx y=>J lp.assign _ _ s β w 0 (some m.blk) c1 (.inr c3) h hfr trivial (cH _) x y
    rw[hA,hB]
    cases X:code lp.assign (lp.fr.putAll lp.params args.toList) s with
    |stuck=>rw[X]at d;exact(d rfl).elim
    |exit id t s₁=>rw[X]at d;exact(d rfl).elim
    |ret t s₁=>rw[X]at d;exact(d rfl).elim
    |panic ch t s₁=>rw[X]at d;exact(d rfl).elim
    |normal t s₁=>
     rw[X]at d f Y T
     simp only at d f |-
     have T:s.next<=s₁.next:=T
     cases K:s₁.may b with
     |false=>rw[K]at d;exact(d rfl).elim
     |true=>
      rw[K]at d f
      cases H:s₁.get b with
      |none=>rw[H]at d;exact(d rfl).elim
      |some o=>
       cases o with
       |cells c e=>rw[H]at d;exact(d rfl).elim
       |map es c=>rw[H]at d;exact(d rfl).elim
       |loop lp'=>
        rw[H]at d f
        simp only at d f |-
        cases L:lp'.state with
        |busy=>rw[L]at d;exact(d rfl).elim
        |done=>rw[L]at d;exact(d rfl).elim
        |exhausted=>rw[L]at d;exact(d rfl).elim
        |ready=>
         rw[L]at d f
         simp only at d f |-
         have q:=W lp.body t (s₁.put b (some (.loop {lp' with state:=.busy})))
         -- the end of the body
         have fin:∀(j:Option Code) (g:St) (i:aS) (Z z:World),s₁.next<=g.next->cC β s g->bp P β s w i g z->jS b j g≠.stuck ->
          ∃v w',(Instr.endRound m.blk j).run P z=.ok v w'/\Wi P β s w (jS b j g) (.returned v) w':=by
          intro j g i Z z _ hf hx d
          obtain⟨v,w',s',e1,e2,e3,e4,e5⟩:=zfs hx.rel (hx.le b m hb) d
          refine⟨v,w',e3,?_⟩
          rw[e1]
          exact⟨i,v,rfl,hx.trans e4 (λk l u=>hf k l (by rw[e2]at u;exact u)),e5⟩
         have G:cC β s s₁/\∀g,(code lp.body t (s₁.put b (some (.loop {lp' with state:=.busy})))=.normal t g->True):=⟨?_,λ_ _=>trivial⟩
         .refine wpIn_mono (Y Y8 G.1) λe O B ho=>?_
          obtain⟨rfl,D,hx,hf2,hmk⟩:=ho
          obtain⟨S,g1,gft,gp,gA,gB,gs,gj⟩:=hx.rel.loop (hx.le b m hb) H
          refine⟨_,run_beginRound g1 (by rw[gs,L]),?_⟩
          have U:bp P D s₁ B D (s₁.put b (some (.loop {lp' with state:=.busy}))) (B.putObj m.blk (.loop {S with state:=.busy})):=
           bp.putLoop hx.rel (hx.le b m hb) K H g1 (.loop gft gp gA gB rfl gj)
          have A:=hx.trans U G.1
          have V:ck 0 D (s₁.put b (some (.loop {lp' with state:=.busy}))) (B.putObj m.blk (.loop {S with state:=.busy})) O.defers:=hmk.ext U (λk l u=>by
           have u:k<s₁.next:=u
           omega)
          have I:=λx y=>J lp.body t O _ D _ 0 (some m.blk) c2 (.inr c4) U.rel hf2 V (cH _) x y
          cases C:code lp.body t (s₁.put b (some (.loop {lp' with state:=.busy})))with
          |stuck=>rw[C]at d;exact(d rfl).elim
          |panic ch E g=>rw[C]at d;exact(d rfl).elim
          |normal E g=>
           rw[C]at d f I q
           simp only at d f |-
           have q:s₁.next<=g.next:=q
           have p:cC β s g:=by
            obtain⟨v,s',e1,e2⟩:=YU d
            rw[e1]at f
            exact λk l u=>f k l (by rw[e2];exact u)
           refine wpIn_mono (I Y8 (A.freeOf p)) λe R z ho=>?_
           obtain⟨rfl,i,M,_,_⟩:=ho
           exact fin none g i B z q p (A.trans M p) d
          |exit id E g=>
           rw[C]at d f I q
           simp only at d f |-
           have q:s₁.next<=g.next:=q
           have p:cC β s g:=by
            obtain⟨v,s',e1,e2⟩:=YU d
            rw[e1]at f
            exact λk l u=>f k l (by rw[e2];exact u)
           refine wpIn_mono (I Y8 (A.freeOf p)) λe R z ho=>?_
           obtain⟨rfl,i,M,_,_⟩:=ho
           exact fin (some (.exit id)) g i B z q p (A.trans M p) d
          |ret E g=>
           rw[C]at d f I q
           simp only at d f |-
           have q:s₁.next<=g.next:=q
           have p:cC β s g:=by
            obtain⟨v,s',e1,e2⟩:=YU d
            rw[e1]at f
            exact λk l u=>f k l (by rw[e2];exact u)
           refine wpIn_mono (I Y8 (A.freeOf p)) λe R z ho=>?_
           obtain⟨rfl,i,M,_,_⟩:=ho
           exact fin (some .ret) g i B z q p (A.trans M p) d
         .cases C:code lp.body t (s₁.put b (some (.loop {lp' with state:=.busy})))with
          |stuck=>rw[C]at d;exact(d rfl).elim
          |panic ch E g=>rw[C]at d;exact(d rfl).elim
          |_=>
           rw[C]at d f q
           simp only at d f
           obtain⟨v,s',e1,e2⟩:=YU d
           rw[e1]at f
           have q:s₁.next<=_:=q
           exact λk l u=>f k l (by rw[e2];exact bL u q)
end
section
variable{P:Program}{I:zZ}
theorem zdI{code:Code->Fr->St->cg}(q:JP P code){f:FuncId}{fn:Func}{c:Code}(A:P.funcs[f]? = some fn)(hb:fn.body=some c){args args':Array Value}{s:St}{β:aS}{w:World}
 (h:bh P β s w) (ha:bc P β args.toList args'.toList) (d:gH P code fn c args s≠.stuck) (a:(gH P code fn c args s).free β s):Calls P f args' w (Wi P β s w (gH P code fn c args s)):=by
 unfold gH at d a |-
 cases p:Nat.ble (yD args.toList 0) fn.ntmps&&Nat.ble fn.ntmps 65534&&xP c with
 |false=>rw[p]at d;exact(d rfl).elim
 |true=>
  rw[p]at d a
  simp only at d a |-
  simp only[aF,Nat.ble_eq,yf]at p
  obtain⟨⟨hl1,C⟩,y⟩:=p
  have B:=cv.make (n:=fn.ntmps) ha O C
  have hw:=λh1 h2=>q c (Fr.make args fn.ntmps) _ s β w w.heap.size none y (.inl rfl) h B trivial Z3 h1 h2
  refine(eA (ro:=none) (n:=0)).1 (callsIn_of_wp_marks A hb trivial ?_)
  -- a function's end
  have fin:∀(b:Fr) (s₁:St) (g:Act) (i:World) (β':aS),finish P fn b s₁≠.stuck->(finish P fn b s₁).free β s->bp P β s w β' s₁ i->cv P β' b g->ck w.heap.size β' s₁ i g.defers ->
   LeavesInM (FW none) 0 P fn g.tmps (Wi P β s w (finish P fn b s₁)) g.defers .returning i:=by
   intro b s₁ g i β' d a hx m o
   refine ul Y8 g.defers i o λu hs=>?_
   cases j:finish P fn b s₁ with
   |stuck=>exact(d j).elim
   |panic c' s'=>
    exfalso
    unfold finish at j
    (repeat' split at j)<;>cases j
   |ret v s'=>
    have e1:s'=s₁:=by
     unfold finish at j
     (repeat' split at j)<;>cases j<;>rfl
    subst e1
    have t:=hx.shut hs
    obtain⟨_,v',g1,g2⟩:=zaR t.rel m j
    exact⟨v',g1,β',v',rfl,t,g2⟩
  have k:∀(b:Fr) (s₁:St),finish P fn b s₁≠.stuck->(finish P fn b s₁).free β s->cC β s s₁:=by
   intro b s₁ d a
   unfold finish at d a
   cases D:qO P b s₁ fn.results.toList with
   |none=>rw[D]at d;exact(d rfl).elim
   |some l=>
    rw[D]at a
    rcases l with _|⟨v,_|⟨v2,l⟩⟩<;>exact a
  cases r:code c (Fr.make args fn.ntmps) s with
  |stuck=>rw[r]at d;exact(d rfl).elim
  |exit id b s₁=>rw[r]at d;exact(d rfl).elim
  |panic ch b s₁=>
   rw[r]at a hw
   simp only at a |-
   refine wpIn_mono (hw Y8 a) λe g i ho=>?_
   obtain⟨x,β',rfl,hx,z,hd⟩:=ho
   exact ul Y8 g.defers i hd λu hs=>⟨β',x,rfl,hx.shut hs,z⟩
  |normal b s₁=>
   rw[r]at a hw d
   simp only at a d |-
   refine wpIn_mono (hw Y8 (k b s₁ d a)) λe g i ho=>?_
   obtain⟨rfl,β',hx,m,o⟩:=ho
   exact fin b s₁ g i β' d a hx m o
  |ret b s₁=>
   rw[r]at a hw d
   simp only at a d |-
   refine wpIn_mono (hw Y8 (k b s₁ d a)) λe g i ho=>?_
   obtain⟨rfl,β',hx,m,o⟩:=ho
   exact fin b s₁ g i β' d a hx m o
theorem wR(o:c6 P I){code:Code->Fr->St->cg}(n:∀c a s,(code c a s).nextLe s)(j:JP P code):JQ P (yL P I code):=by
 refine⟨vX o n,λf args args' s β w l h ha i d=>?_,λb args args' s β w m r h ha hb hw i d=>?_⟩
 .unfold yL at i d |-
  rw[l]at i d |-
  simp only at i d |-
  cases hg:I f with
  |some g=>
   rw[hg]at i d
   exact o.sound f g hg args args' s β w h ha i d
  |none=>
   rw[hg]at i d
   simp only at i d |-
   cases k:P.funcs[f]? with
   |none=>rw[k]at i;exact(i rfl).elim
   |some fn=>
    rw[k]at i d
    simp only at i d |-
    cases hb:fn.body with
    |none=>rw[hb]at i;exact(i rfl).elim
    |some c=>
     rw[hb]at i d
     simp only at i d |-
     exact zdI j k hb h ha i d
 .have e:yL P I code (zy+b) args s=vB code b args s:=by
   unfold yL
   have h1:Nat.ble zy (zy+b)=true:=by simp
   rw[h1]
   simp only[eO]
  rw[e]at i d |-
  exact zcb n j h ha hb hw i d
theorem zcl(hI:c6 P I){code:Code->Fr->St->cg}(hnx:∀c a s,(code c a s).nextLe s)(hcode:JP P code){f:Operand}{ps:Array Tmp}{x y:Code}{a:Fr}{a':Act}{s:St}{β:aS}{w:World}{lo:Nat}
 (hfB:k8 f=true) (h:bh P β s w) (hf:cv P β a a') (hm:ck lo β s w a'.defers) (hlo:lo<=w.heap.size) (j:kR P I code f ps x y a s≠.stuck) (i:(kR P I code f ps x y a s).free β s) :
 (Code.rangeFunc f ps x y).wpIn (FW none) 0 P (fE P lo β s w (kR P I code f ps x y a s)) a' w:=by
 have hcs:=wR hI hnx hcode
 have q:=X0 hI hnx f ps x y a s
 refine wpIn_rangeFunc λfn _=>?_
 unfold kR at j i q |-
 cases E:s.room with
 |false=>rw[E]at j;exact(j rfl).elim
 |true=>
  rw[E]at j i q
  simp only at j i q |-
  cases hv:jV P (a.eval f) [.func (.yield s.next) ⟨[]⟩ ⟨[]⟩] (s.new (.loop {fr:=a.norm,params:=ps.toList,assign:=x,body:=y,state:=.ready,pend:=none}))with
  |stuck=>rw[hv]at j;exact(j rfl).elim
  |panic v s'=>rw[hv]at j;exact(j rfl).elim
  |ok nx s₁=>
   rw[hv]at j i q
   cases nx with
   |enter g args=>
    simp only at j i q |-
    have hs1:=Z9 hv
    subst hs1
    cases N:Nat.ble zy g with
    |true=>rw[N]at j;exact(j rfl).elim
    |false=>
     rw[N]at j i q
     simp only at j i q |-
     have Y:=vX hI hnx g args (s.new (.loop {fr:=a.norm,params:=ps.toList,assign:=x,body:=y,state:=.ready,pend:=none}))
     -- the block is free
     have V:∀n:St,s.next+1<=n.next->cC β s n->β s.next=none:=λn h1 h2=>h2 s.next Z3 O
     have Z:s.next<281474976710655:=wp E
     -- whatever the call's outcome is,its last state is free
     have hfr2:∃n:St,s.next+1<=n.next/\cC β s n/\(∀v s',yL P I code g args (s.new (.loop {fr:=a.norm,params:=ps.toList,assign:=x,body:=y,state:=.ready,pend:=none}))=.ret v s'->s'=n) /\
      (∀c s',yL P I code g args (s.new (.loop {fr:=a.norm,params:=ps.toList,assign:=x,body:=y,state:=.ready,pend:=none}))=.panic c s'->s'=n):=by
      cases Q:yL P I code g args (s.new (.loop {fr:=a.norm,params:=ps.toList,assign:=x,body:=y,state:=.ready,pend:=none}))with
      |stuck=>rw[Q]at j;exact(j rfl).elim
      |panic c n=>
       rw[Q]at i Y
       exact⟨n,Y,i,λ_ _ e=>(by cases e),λ_ _ e=>(by cases e;rfl)⟩
      |ret v n=>
       rw[Q]at i Y j
       simp only at i j
       refine⟨n,Y,?_,λ_ _ e=>(by cases e;rfl),λ_ _ e=>(by cases e)⟩
       split at j
       .rename_i lp B hg
        rw[B,hg]at i
        simp only at i
        split at j
        .exact(j rfl).elim
        .rename_i hst
         rw[hst]at i
         simp only at i
         split at j
         .rename_i hp;rw[hp]at i;exact i
         .rename_i hp;rw[hp]at i;exact i
         .rename_i hp;rw[hp]at i;exact i
         .exact(j rfl).elim
       .exact(j rfl).elim
     obtain⟨n,hs2,U,hret,hpan⟩:=hfr2
     have hb0:=V n hs2 U
     -- the two blocks
     let W:=(w.alloc (.deferred (some []))).alloc (.loop {state:=.ready,pending:=none,fn,tmps:=a'.tmps,params:=ps,assign:=x,body:=y,defers:=w.heap.size})
     have hx0:=bp.alloc h (.deferred (some []))
     let m:dm:=⟨w.heap.size+1,0,0,0,false⟩
     have hsz:(w.alloc (.deferred (some []))).heap.size=w.heap.size+1:=by show(w.heap.push _).size=_;simp
     have hx1:bp P β s (w.alloc (.deferred (some []))) (β.add s.next m) (s.new (.loop {fr:=a.norm,params:=ps.toList,assign:=x,body:=y,state:=.ready,pend:=none})) W:=
      bp.new hx0.rel Z hb0 (by rw[hsz]) (.loop hf.norm rfl rfl rfl rfl rfl)
     have hfrA:cC β s s:=λk l u=>by omega
     have M:cC β s (s.new (.loop {fr:=a.norm,params:=ps.toList,assign:=x,body:=y,state:=.ready,pend:=none})):=λk l u=>U k l (by
      have u:k<s.next+1:=u
      omega)
     have F:=hx0.trans hx1 M
     have hbm:(β.add s.next m) s.next=some m:=aS.add_self
     -- the marks
     have hmk:ck lo (β.add s.next m) (s.new (.loop {fr:=a.norm,params:=ps.toList,assign:=x,body:=y,state:=.ready,pend:=none})) W ({target:=.collected w.heap.size,args:= #[]}::a'.defers):=by
      refine⟨⟨w.heap.size,rfl,hlo,?_,λb mm hb hlt=>?_,λd' hd hh=>?_⟩,hm.ext F M⟩
      .show((w.heap.push _).push _)[w.heap.size]? = _
       rw[Array.getElem?_push,aD Y8,Array.getElem?_push,aG rfl]
      .by_cases e:b=s.next
       .subst e;rw[hbm]at hb;cases hb;show w.heap.size+1≠_;omega
       .have hb':β b=some mm:=by simpa[aS.add,e]using hb
        have hlt:b<s.next+1:=hlt
        have:=h.img b mm hb' O
        omega
      .have:∀ds,ck lo β s w ds->d'∈ds->False:=by
        intro ds
        induction ds with
        |nil=>intro _ hd;cases hd
        |cons d ds ih=>
         rintro⟨⟨r,h1,_,h2,_⟩,Q⟩ hd
         rcases aJ.1 hd with e|hd
         .subst e
          rw[h1]at hh
          have hh:Target.collected r=.collected w.heap.size:=hh
          cases hh
          have:=(Array.getElem?_eq_some_iff.1 h2).1
          omega
         .exact ih Q hd
       exact this _ hm hd
     have hmk':ck lo (β.add s.next m) (s.new (.loop {fr:=a.norm,params:=ps.toList,assign:=x,body:=y,state:=.ready,pend:=none})) W ([{target:=.collected w.heap.size,args:= #[]}]++a'.defers):=hmk
     -- the call
     have hvr:ao P (β.add s.next m) (.func (.yield s.next) ⟨[]⟩ ⟨[]⟩) (.func (.yield (w.heap.size+1)) ⟨[]⟩ ⟨[]⟩):=.yield hbm
     have hop:=VQ F.rel ((hf.mono F.le).eval hfB) (.cons hvr .nil)
     rw[hv]at hop
     obtain⟨β₁,T,n',hrun,S,args',rfl,hargs⟩:=hop (λk l u=>by omega)
     have z:(resolve a'.eval (rangeCall f (w.heap.size+1)) 0 >>= λd=>invoke d.target d.args).run P W=.ok (.enter g args') T:=by
      have e:resolve a'.eval (rangeCall f (w.heap.size+1)) 0=Deferred.ofValue (a'.eval f) ⟨[.func (.yield (w.heap.size+1)) ⟨[]⟩ ⟨[]⟩]⟩:=by
       simp[resolve,rangeCall,Act.eval]
      rw[e]
      exact hrun
     rw[Sem.run_bind]at z
     cases R:(resolve a'.eval (rangeCall f (w.heap.size+1)) 0).run P W with
     |halt hh ww=>rw[R]at z;cases z
     |ok d W₁=>
      rw[R]at z
      simp only[Result.andThen_ok]at z
      refine⟨w.heap.size+1,[{target:=.collected w.heap.size,args:= #[]}],W,d,W₁,g,args',T,run_enterLoop_outer fn a'.tmps ps x y,R,λ_ _=>trivial,z,nofun,?_⟩
      have H:=F.trans S M
      have A:=hcs.2.1 g args args' _ β₁ T N S.rel hargs
      cases Q:yL P I code g args (s.new (.loop {fr:=a.norm,params:=ps.toList,assign:=x,body:=y,state:=.ready,pend:=none}))with
      |stuck=>rw[Q]at j;exact(j rfl).elim
      |panic c t=>
       have e:=hpan c t Q
       subst e
       rw[Q]at A
       refine(eA.2 (A Y8 (H.freeOf U))).mono λe G ho=>?_
       obtain⟨p,c',rfl,D,hch⟩:=ho
       exact⟨c',p,rfl,H.trans D U,hch,(hmk'.ext (S) (λk l u=>by omega)).ext D (H.freeOf U)⟩
      |ret v t=>
       have e:=hret v t Q
       subst e
       rw[Q]at A j i
       simp only at j i |-
       refine(eA.2 (A Y8 (H.freeOf U))).mono λe G ho=>?_
       obtain⟨p,v',rfl,D,_⟩:=ho
       have hx4:=H.trans D U
       have hmk3:=(hmk'.ext (S) (λk l u=>by omega)).ext D (H.freeOf U)
       have hb3:p s.next=some m:=D.le _ _ (S.le _ _ hbm)
       cases B:t.may s.next with
       |false=>rw[B]at j;exact(j rfl).elim
       |true=>
        rw[B]at j i
        cases hg:t.get s.next with
        |none=>rw[hg]at j;exact(j rfl).elim
        |some o=>
         cases o with
         |cells c e=>rw[hg]at j;exact(j rfl).elim
         |map es c=>rw[hg]at j;exact(j rfl).elim
         |loop lp=>
          rw[hg]at j i
          simp only at j i |-
          obtain⟨r,g1,gft,gp,gA,gB,gs,gj⟩:=D.rel.loop hb3 hg
          have K:Ro lp.state=false:=by
           cases K:Ro lp.state with
           |true=>rw[K]at j;exact(j rfl).elim
           |false=>rfl
          have hnb:lp.state≠.busy:=λe=>by rw[e]at K;cases K
          rw[K]at j |-
          simp only at j |-
          have hx5:bp P p t G p (t.put s.next (some (.loop {lp with state:=.exhausted}))) (G.putObj m.blk (.loop {r with state:=.exhausted})):=
           bp.putLoop D.rel hb3 B hg g1 (.loop gft gp gA gB rfl gj)
          have X:cC p t (t.put s.next (some (.loop {lp with state:=.exhausted}))):=λk l u=>by
           have u:k<t.next:=u
           omega
          have J:=hx4.trans hx5 (λk l u=>U k l u)
          have C:=hmk3.ext hx5 X
          have L:cv P p a {a' with defers:=[{target:=.collected w.heap.size,args:= #[]}]++a'.defers}:=(hf.trel.mono J.le).frel _
          refine⟨lp.pend,G.putObj m.blk (.loop {r with state:=.exhausted}),by rw[<-gj];exact run_endLoop g1 (by rw[gs];exact hnb),?_⟩
          cases hpd:lp.pend with
          |none=>
           rw[hpd]at J C
           exact⟨rfl,p,J,L,C⟩
          |some c=>
           rw[hpd]at j J C
           cases c with
           |ret=>exact wpIn_ret ⟨rfl,p,J,L,C⟩
           |exit id=>exact wpIn_exit ⟨rfl,p,J,L,C⟩
           |_=>exact(j rfl).elim
   |_=>exact(j rfl).elim
theorem zaa(A:c6 P I){b:Code}(hb:xP b=true)(lo:Nat)(ro:Option Nat)(y:ro=none\/kA b=true){n:Nat}(B:∀m,m<n->JP P (zY P I m)):∀m,m<=n->∀(a:Fr) (a':Act) (s:St) (β:aS) (w:World),bh P β s w->cv P β a a'->ck lo β s w a'.defers->lo<=w.heap.size ->
 zY P I m (.loop b) a s≠.stuck->(zY P I m (.loop b) a s).free β s->∀Q:Exit->Act->World->Prop,(∀e f g,fE P lo β s w (zY P I m (.loop b) a s) e f g->Q e f g)->Code.roundsIn (FW ro) 0 P b Q m a' w:=by
 intro m
 induction m with
 |zero=>intro _ a a' s β w _ _ _ _ i;exact(i rfl).elim
 |succ m z=>
  intro hm a a' s β w h hf x p i d Q k
  have hn:=uB A m
  unfold zY at i d k
  simp only at i d k
  rw[roundsIn_succ]
  have hw:=λh1 h2=>B m O b a a' s β w lo ro hb y h hf x p h1 h2
  cases r:zY P I m b a s with
  |stuck=>rw[r]at i;exact(i rfl).elim
  |normal j s₁=>
   rw[r]at i d k hw
   simp only at i d k
   have v:cC β s s₁:=cg.free_of (hn _ _ _) d i
   refine wpIn_mono (hw Y8 v) λe f g ho=>?_
   obtain⟨rfl,β',hx,u,q⟩:=ho
   exact z O j f s₁ β' g hx.rel u q (bK p hx.size) i (hx.outFree d) Q λe o t ho=>k e o t (ho.trans hx d)
  |exit id j s₁=>
   rw[r]at d k hw
   refine wpIn_mono (hw Y8 d) λe f g ho=>?_
   have:=ho.1
   subst this
   exact k _ _ _ ho
  |ret j s₁=>
   rw[r]at d k hw
   refine wpIn_mono (hw Y8 d) λe f g ho=>?_
   have:=ho.1
   subst this
   exact k _ _ _ ho
  |panic c j s₁=>
   rw[r]at d k hw
   refine wpIn_mono (hw Y8 d) λe f g ho=>?_
   obtain⟨c',β',rfl,l⟩:=ho
   exact k _ _ _ ⟨c',β',rfl,l⟩
theorem zfI(J:P.follows .mixedOrders=true)(H:c6 P I):∀n,JP P (zY P I n):=by
 intro n
 induction n using Nat.strongRecOn with
 |_ n Q=>
  cases n with
  |zero=>intro c a a' s β w lo ro _ _ _ _ _ _ g;exact(g rfl).elim
  |succ n=>
   intro c a a' s β w lo ro j t h hf r v g d
   have A:=Q n O
   have hn:=uB H n
   have B:=wR H hn A
   have F:=wS H (Qp H n)
   cases c with
   |skip=>
    unfold zY at d |-
    exact wpIn_skip ⟨rfl,β,bp.refl h,hf,r⟩
   |label k=>
    unfold zY at d |-
    exact wpIn_label ⟨rfl,β,bp.refl h,hf,r⟩
   |exit id=>
    unfold zY at d |-
    exact wpIn_exit ⟨rfl,β,bp.refl h,hf,r⟩
   |ret=>
    unfold zY at d |-
    exact wpIn_ret ⟨rfl,β,bp.refl h,hf,r⟩
   |seq x y=>
    simp only[xP,aF]at j
    unfold zY at g d |-
    simp only at g d |-
    refine wpIn_seq ?_
    have hw:=λh1 h2=>A x a a' s β w lo ro j.1 (t.imp id λh=>by simp only[kA,aF]at h;exact h.1) h hf r v h1 h2
    cases z:zY P I n x a s with
    |stuck=>rw[z]at g;exact(g rfl).elim
    |normal i s₁=>
     rw[z]at g d hw
     simp only at g d |-
     have N:cC β s s₁:=cg.free_of (hn y i s₁) d g
     refine wpIn_mono (hw Y8 N) λe m p ho=>?_
     obtain⟨rfl,β',hx,M,K⟩:=ho
     exact wpIn_mono (A y i m s₁ β' p lo ro j.2 (t.imp id λh=>by simp only[kA,aF]at h;exact h.2) hx.rel M K (bK v hx.size) g (hx.outFree d)) λe a₃ w₃ ho=>ho.trans hx d
    |exit id i s₁=>
     rw[z]at d hw
     refine wpIn_mono (hw Y8 d) λe m p ho=>?_
     have:=ho.1
     subst this
     exact ho
    |ret i s₁=>
     rw[z]at d hw
     refine wpIn_mono (hw Y8 d) λe m p ho=>?_
     have:=ho.1
     subst this
     exact ho
    |panic c i s₁=>
     rw[z]at d hw
     refine wpIn_mono (hw Y8 d) λe m p ho=>?_
     obtain⟨c',β',rfl,q⟩:=ho
     exact⟨c',β',rfl,q⟩
   |cond c x y=>
    simp only[xP,aF]at j
    unfold zY at g d |-
    simp only at g d |-
    have hv:=hf.eval j.1.1
    generalize hev:a.eval c=u at hv g d |-
    split at g
    .simp only at d |-
     generalize C:a'.eval c=u' at hv
     cases hv
     exact wpIn_cond_true C (A x a a' s β w lo ro j.1.2 (t.imp id λh=>by simp only[kA,aF]at h;exact h.1) h hf r v g d)
    .simp only at d |-
     generalize C:a'.eval c=u' at hv
     cases hv
     exact wpIn_cond_false C (A y a a' s β w lo ro j.2 (t.imp id λh=>by simp only[kA,aF]at h;exact h.2) h hf r v g d)
    .exact(g rfl).elim
   |block id b=>
    simp only[xP]at j
    unfold zY at g d |-
    simp only at g d |-
    refine wpIn_block ?_
    have hw:=λh1 h2=>A b a a' s β w lo ro j t h hf r v h1 h2
    cases z:zY P I n b a s with
    |stuck=>rw[z]at g;exact(g rfl).elim
    |normal i s₁=>
     rw[z]at d hw
     refine wpIn_mono (hw Y8 d) λe m p ho=>?_
     have:=ho.1
     subst this
     exact ho
    |exit L i s₁=>
     rw[z]at d hw
     simp only at d |-
     cases E:Nat.beq L id with
     |true=>
      rw[E]at d
      simp only at d |-
      have D:=aK E
      refine wpIn_mono (hw Y8 d) λe m p ho=>?_
      obtain⟨rfl,q⟩:=ho
      simp only[Exit.inBlock,D,dQ]
      exact⟨rfl,q⟩
     |false=>
      rw[E]at d
      simp only at d |-
      have D:¬L=id:=λe=>by subst e;simp at E
      refine wpIn_mono (hw Y8 d) λe m p ho=>?_
      obtain⟨rfl,q⟩:=ho
      simp only[Exit.inBlock,D,cK]
      exact⟨rfl,q⟩
    |ret i s₁=>
     rw[z]at d hw
     refine wpIn_mono (hw Y8 d) λe m p ho=>?_
     have:=ho.1
     subst this
     exact ho
    |panic c i s₁=>
     rw[z]at d hw
     refine wpIn_mono (hw Y8 d) λe m p ho=>?_
     obtain⟨c',β',rfl,q⟩:=ho
     exact⟨c',β',rfl,q⟩
   |loop b=>
    simp only[xP]at j
    exact wpIn_loop_rounds (n+1) (zaa H j lo ro t (n:=n+1) Q (n+1) Z3 a a' s β w h hf r v g d _ λ_ _ _ ho=>ho)
   |region id ops draw=>
    simp only[xP]at j
    unfold zY at g d |-
    simp only at g d |-
    cases draw with
    |false=>
     simp only at g d |-
     refine wpIn_region_list (Xt B ro ops ops.toList (λo ho=>?_) a a' s β w h hf r g d _ λ_ _ _ ho=>ho)
     rw[List.all_eq_true]at j
     exact j o ho
    |true=>
     simp only at g d |-
     cases G:Zt ops.toList (plan ops.toList)with
     |false=>rw[G]at g;exact(g rfl).elim
     |true=>
      rw[G]at g d
      simp only at g d |-
      exact zfw J B F G j h hf r ro g d
   |scope b=>
    simp only[xP]at j
    unfold zY at g d |-
    simp only at g d |-
    refine zel (wpIn_mono (A b a a' s β w lo ro j t h hf r v g d) λe m p ho=>?_)
    cases e with
    |goto l=>
     cases z:zY P I n b a s with
     |stuck=>rw[z]at ho;exact ho
     |normal i s₁=>rw[z]at ho;cases ho.1
     |exit id i s₁=>rw[z]at ho;cases ho.1
     |ret i s₁=>rw[z]at ho;cases ho.1
     |panic c i s₁=>rw[z]at ho;obtain⟨_,_,e,_⟩:=ho;cases e
    |_=>exact ho
   |rangeFunc f ps x y=>
    rcases t with rfl|t
    .simp only[xP,aF]at j
     unfold zY at g d |-
     simp only at g d |-
     exact zcl H hn A j.1.1 h hf r v g d
    .cases t
   |_=>exact(g rfl).elim
theorem x7(a:P.follows .mixedOrders=true)(b:c6 P I)(n:Nat):JQ P (Zy P I n):=
 wR b (uB b n) (zfI a b n)
end
theorem wU{a b:Nat}(h:a<b):Nat.blt a b=true:=aZ h
theorem iR{a b:Nat}(h:¬a<b):Nat.blt a b=false:=by
 cases e:Nat.blt a b with
 |false=>rfl
 |true=>exact(h (aR e)).elim
abbrev FF:=Nat->Value
def ba(F:FF)(d:Option Nat)(v:Value):FF:=
 match d with
 |some d=>λt=>match Nat.beq t d with
  |true=>v
  |false=>F t
 |none=>F
theorem vk(F:FF)(d:Nat)(v:Value)(t:Nat):ba F (some d) v t=if t=d then v else F t:=by
 simp only[ba]
 cases h:Nat.beq t d with
 |true=>rw[aG (aK h)]
 |false=>rw[aD (λe=>by rw[e]at h;simp at h)]
def zd(F:FF):Operand->Value
 | .tmp t=>F t
 | .const v=>v
 | .global g=>.pointer (some ⟨g,0,none⟩)
 | .func f=>.func (.func f) #[] #[]
inductive bk where
 |normal (F:FF) (s:St)
 |exit (id:Nat) (F:FF) (s:St)
 |ret (F:FF) (s:St)
 |stuck
def ym(ops:List Oper)(F:FF)(o:Oper):Bool:=
 match o.guard with
 |none=>true
 |some (j,want)=>match zH ops j with
  |some q=>match q.dst with
   |some d=>match F d with
    | .bool b=>b==want
    |_=>false
   |none=>false
  |none=>false
section
variable(P:Program)(call:FuncId->Array Value->St->aq)
def fJ(o:Oper)(F:FF)(s:St):bk:=
 match zj P (zd F) o.op s with
 | .ok (.value v) s=>.normal (ba F o.dst v) s
 | .ok .skip s=>.normal (ba F o.dst undef) s
 | .ok (.enter f args) s=>
  match Nat.ble zy f with
  |true=>.stuck
  |false=>match call f args s with
   | .ret v s=>.normal (ba F o.dst v) s
   |_=>.stuck
 | .ok (.round b _ args _ _) s=>
  match call (zy+b) args s with
  | .ret v s=>.normal (ba F o.dst v) s
  |_=>.stuck
 |_=>.stuck
def F5(ops:List Oper):List Oper->FF->St->bk
 | [],F,s=>.normal F s
 |o::rest,F,s=>
  match ym ops F o with
  |true=>match fJ P call o F s with
   | .normal F s=>F5 ops rest F s
   |_=>.stuck
  |false=>F5 ops rest (ba F o.dst undef) s
def yA(F:FF)(o:Oper):Option Nat:=
 match o.op with
 | .load _ x=>match zd F x with
  | .pointer (some p)=>some p.block
  |_=>none
 | .slice _ x _ _ none=>match zd F x with
  | .slice (some p) _ _=>some p.block
  | .pointer (some p)=>some p.block
  |_=>none
 | .alloc _=>match o.dst with
  |some t=>match F t with
   | .pointer (some p)=>some p.block
   |_=>none
  |none=>none
 | .buildSlice _ _ _=>match o.dst with
  |some t=>match F t with
   | .slice (some p) _ _=>some p.block
   |_=>none
  |none=>none
 |_=>none
def yi(ops:List Oper)(F:FF):List Nat->List Nat
 | []=>[]
 |i::l=>match zH ops i with
  |some o=>match yA F o with
   |some b=>b::yi ops F l
   |none=>yi ops F l
  |none=>yi ops F l
def vV(ops:List Oper)(d:an)(o:Oper)(F:FF)(s:St):bk:=
 match ym ops F o with
 |true=>match d.how with
  | .light=>match fJ P call o F {next:=s.next,bar:=s.next,prot:=[],heap:=only s (yA F o)}with
   | .normal F s'=>match Nat.beq s'.next s.next with
    |true=>.normal F s
    |false=>.stuck
   |_=>.stuck
  | .whole=>match fJ P call o F {s with prot:=yi ops F d.free++s.prot}with
   | .normal F s'=>.normal F {next:=s'.next,bar:=s.bar,prot:=s.prot,heap:=s'.heap}
   |_=>.stuck
  | .fresh=>match fJ P call o F {s with bar:=s.next}with
   | .normal F s'=>.normal F {next:=s'.next,bar:=s.bar,prot:=s.prot,heap:=s'.heap}
   |_=>.stuck
  | .new=>match fJ P call o F {next:=s.next,bar:=s.next,prot:=[],heap:=.nil}with
   | .normal F s'=>match Nat.beq s'.next (s.next+1)&&s.room,yA F o,s'.get s.next with
    |true,some b,some ob=>match Nat.beq b s.next with
     |true=>.normal F (s.new ob)
     |false=>.stuck
    |_,_,_=>.stuck
   |_=>.stuck
 |false=>.normal (ba F o.dst undef) s
def gn(ops:List Oper):List an->FF->St->bk
 | [],F,s=>.normal F s
 |d::rest,F,s=>match zH ops d.ix with
  |some o=>match vV P call ops d o F s with
   | .normal F s=>gn ops rest F s
   |_=>.stuck
  |none=>.stuck
end
def il(F:FF)(N:Nat):Fr:=.make ⟨Zu F N []⟩ N
def KH(P:Program)(I:zZ)(code:Code->Fr->St->cg)(N:Nat)(f:Operand)(ps:Array Tmp)(x y:Code)(F:FF)(s:St):bk:=
 match kR P I code f ps x y (il F N) s with
 | .normal _ s=>.normal F s
 | .ret _ s=>.ret F s
 | .exit id _ s=>.exit id F s
 |_=>.stuck
def xi(P:Program)(I:zZ)(N:Nat):Nat->Code->FF->St->bk
 |0,_,_,_=>.stuck
 |n+1,c,F,s=>
  match c with
  | .skip | .label _=>.normal F s
  | .seq x y=>match xi P I N n x F s with
   | .normal F s=>xi P I N n y F s
   |r=>r
  | .cond c x y=>match zd F c with
   | .bool true=>xi P I N n x F s
   | .bool false=>xi P I N n y F s
   |_=>.stuck
  | .block id b=>match xi P I N n b F s with
   | .exit a F s=>match Nat.beq a id with
    |true=>.normal F s
    |false=>.exit a F s
   |r=>r
  | .loop b=>match xi P I N n b F s with
   | .normal F s=>xi P I N n (.loop b) F s
   |r=>r
  | .exit id=>.exit id F s
  | .ret=>.ret F s
  | .region _ ops draw=>match draw with
   |false=>F5 P (yL P I (zY P I n)) ops.toList ops.toList F s
   |true=>match Zt ops.toList (plan ops.toList)with
    |true=>gn P (yL P I (zY P I n)) ops.toList (plan ops.toList) F s
    |false=>.stuck
  | .rangeFunc f ps x y=>KH P I (zY P I n) N f ps x y F s
  | .scope b=>xi P I N n b F s
  |_=>.stuck
structure aT(N:Nat)(F:FF)(a:Fr):Prop where
 size:a.size=N
 small:N<=65534
 get:∀t,t<N->a.get t=F t
theorem Fr.get_put'{a:Fr}{d t:Nat}{v:Value}(hs:a.size<=65534)(hd:d<a.size):(a.put (some d) v).get t=if t=d then v else a.get t:=by
 have hb:Nat.blt d a.size=true:=wU hd
 have hp:d+1<2 ^ vR:=by simp[vR];omega
 simp only[Fr.put,hb,Fr.get,Tr.get_put _ _ _ _ _ hp]
 by_cases e:t=d
 .rw[aG e,aG e]
 .rw[aD e,aD e]
theorem Fr.put_size{a:Fr}{d:Option Nat}{v:Value}:(a.put d v).size=a.size:=by
 cases d with
 |none=>rfl
 |some d=>simp only[Fr.put];split<;>rfl
theorem aT.put{N:Nat}{F:FF}{a:Fr}(h:aT N F a)(d:Option Nat)(v:Value):aT N (ba F d v) (a.put d v):=by
 refine⟨Fr.put_size.trans h.size,h.small,λt b=>?_⟩
 cases d with
 |none=>exact h.get t b
 |some d=>
  by_cases hd:d<a.size
  .rw[Fr.get_put' (by rw[h.size];exact h.small) hd]
   rw[vk]
   split
   .rfl
   .exact h.get t b
  .have hb:Nat.blt d a.size=false:=iR hd
   simp only[Fr.put,hb,vk]
   rw[aD (by have:=h.size;omega)]
   exact h.get t b
def Yv(N:Nat):Operand->Bool
 | .tmp t=>Nat.blt t N
 |_=>true
def zhp(N:Nat)(ops:List Oper)(o:Oper):Bool:=
 match o.guard with
 |none=>true
 |some (j,_)=>match zH ops j with
  |some q=>match q.dst with
   |some d=>Nat.blt d N
   |none=>true
  |none=>true
def VZ(N:Nat)(o:Oper):Bool:=
 match o.op with
 | .alloc _ | .buildSlice _ _ _=>match o.dst with
  |some t=>Nat.blt t N
  |none=>true
 |_=>true
def ZR(N:Nat)(ops:List Oper)(o:Oper):Bool:=zhp N ops o&&VZ N o
def Ou(N:Nat)(ops:List Oper):Bool:=ops.all λo=>o.op.operands.toList.all (Yv N)&&ZR N ops o
def qX(N:Nat):Code->Bool
 | .region _ ops _=>Ou N ops.toList
 | .seq a b=>qX N a&&qX N b
 | .cond c a b=>Yv N c&&qX N a&&qX N b
 | .block _ b=>qX N b
 | .loop b=>qX N b
 | .rangeFunc f _ _ _=>Yv N f
 | .scope b=>qX N b
 |_=>true
theorem aT.eval{N:Nat}{F:FF}{a:Fr}(h:aT N F a){x:Operand}(hx:Yv N x=true):a.eval x=zd F x:=by
 cases x with
 |tmp t=>exact h.get t (aR hx)
 |_=>rfl
theorem X4{g a:Nat->Value}:∀(n:Nat) (l:List Value),(∀t,t<n->g t=a t)->Zu g n l=Zu a n l
 |0,_,_=>rfl
 |n+1,l,h=>by rw[Zu,Zu,h n O];exact X4 n _ λt ht=>h t O
theorem Vu{N:Nat}(F:FF)(h:N<=65534):aT N F (il F N):=by
 refine⟨J,h,λt a=>?_⟩
 unfold il Fr.make
 rw[K0,bP]
 show(match (YT ((List.range N).map F) 0 .nil).get t with|some v=>v|none=>undef)=_
 rw[Zj _ _ _ _ (by simp;omega),aG (by simp;omega)]
 simp[a]
theorem aT.norm{N:Nat}{F:FF}{a:Fr}(h:aT N F a):a.norm=il F N:=by
 unfold Fr.norm il
 rw[h.size,X4 N [] h.get]
theorem mh{P:Program}{I:zZ}{code:Code->Fr->St->cg}{f:Operand}{ps:Array Tmp}{x y:Code}{s:St}{a a':Fr}(he:a.eval f=a'.eval f)(hn:a.norm=a'.norm) :
 kR P I code f ps x y a s=(match kR P I code f ps x y a' s with
  | .normal _ s=>.normal a s
  | .ret _ s=>.ret a s
  | .exit id _ s=>.exit id a s
  | .panic c _ s=>.panic c a s
  |r=>r):=by
 unfold kR
 rw[he,hn]
 cases s.room with
 |false=>rfl
 |true=>
  simp only
  generalize jV P _ _ _=r
  cases r with
  |ok n s₁=>cases n with
   |enter g args=>
    simp only
    cases Nat.ble zy g with
    |true=>rfl
    |false=>
     simp only
     cases yL P I code g args s₁ with
     |ret v b=>
      simp only
      cases b.may s.next with
      |false=>rfl
      |true=>cases b.get s.next with
       |none=>rfl
       |some o=>cases o with
        |loop lp=>
         simp only
         cases Ro lp.state with
         |true=>rfl
         |false=>
          simp only
          cases lp.pend with
          |none=>rfl
          |some c=>cases c<;>rfl
        |_=>rfl
     |_=>rfl
   |_=>rfl
  |_=>rfl
end Go.M
