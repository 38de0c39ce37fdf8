/- Operations one behind the other; calls. -/
/- What the abstract machine's steps leave as it was, by themselves. -/
/- The orders in which a region may run. -/
/- What a plan of a drawn region is, and the run in this machine's own order. -/
import Derived.Test.YtocnbjjmmgolfaaGreatA07
import Derived.TacticsIn
namespace Go.M
def ChRel(P:Program)(β:Ren):List PanicEntry→List PanicEntry→Prop
 | [],[]=>True
 |p::l,p'::l'=>VRel P β p.v p'.v∧p'.recovered=p.recovered∧p'.goexit=p.goexit∧ChRel P β l l'
 |_,_=>False
def Marks(lo:Nat)(β:Ren)(s:St)(w:World):List Deferred→Prop
 | []=>True
 |d::ds=>(∃r,d={target:=.collected r,args:= #[]}∧lo≤r∧w.heap[r]? = some (.deferred (some []))∧(∀b m,β b=some m→b<s.next→m.blk≠r)∧∀d'∈ds,d'.target≠.collected r)∧Marks lo β s w ds
theorem Marks.ext{P:Program}{lo:Nat}{β β':Ren}{s s':St}{w w':World}(h:Ext P β s w β' s' w')(hf:Free β s s'):∀{ds:List Deferred},Marks lo β s w ds→Marks lo β' s' w' ds
 | [],_=>trivial
 |_::_,⟨⟨r,h1,h0,h2,h3,h4⟩,hr⟩=>by
  have hlt:r<w.heap.size:=(Array.getElem?_eq_some_iff.1 h2).1
  refine⟨⟨r,h1,h0,?_,fun b m hb hbn=>?_,h4⟩,hr.ext h hf⟩
  ·rw[h.out r hlt fun b m _ hb hbn _ _=>h3 b m hb hbn];exact h2
  ·cases hb0:β b with
   |some m₀=>
    have e:=h.le b m₀ hb0
    rw[hb]at e;cases e
    refine h3 b m hb0 ?_
    rcases Nat.lt_or_ge b s.next with hh|hh
    ·exact hh
    ·have:=hf b hh hbn
     rw[hb0]at this;cases this
   |none=>
    rcases h.fresh b m hb hb0 with hh|⟨b₀,m₀,_,g1,g2,_,_,g5⟩
    ·omega
    ·rw[←g5];exact h3 b₀ m₀ g1 g2
theorem Marks.same{lo:Nat}{β:Ren}{s:St}{w w':World}(h:w'.heap=w.heap):∀{ds:List Deferred},Marks lo β s w ds→Marks lo β s w' ds
 | [],_=>trivial
 |_::_,⟨⟨r,h1,h0,h2,h3,h4⟩,hr⟩=>⟨⟨r,h1,h0,by rw[h];exact h2,h3,h4⟩,hr.same h⟩
abbrev FW(ro:Option Nat):Fence:={fn:=fun _=>True,depth:=none,alive:=false,round:=ro}
theorem callsFW{ro:Option Nat}{n:Nat}{P:Program}{f:FuncId}{args:Array Value}{w:World}{R:Ending→World→Prop}:CallsIn (FW ro) n P f args w R↔Calls P f args w R:=callsIn_wide (n:=n)
def OutP(P:Program)(lo:Nat)(β:Ren)(s:St)(w:World):Out→Exit→Act→World→Prop
 | .normal a s',e,a',w'=>e=.normal∧∃β',Ext P β s w β' s' w'∧FRel P β' a a'∧Marks lo β' s' w' a'.defers
 | .exit id a s',e,a',w'=>e=.exit id∧∃β',Ext P β s w β' s' w'∧FRel P β' a a'∧Marks lo β' s' w' a'.defers
 | .ret a s',e,a',w'=>e=.ret∧∃β',Ext P β s w β' s' w'∧FRel P β' a a'∧Marks lo β' s' w' a'.defers
 | .panic chain _ s',e,a',w'=>∃chain' β',e=.panic chain'∧Ext P β s w β' s' w'∧ChRel P β' chain chain'∧Marks lo β' s' w' a'.defers
 | .stuck,_,_,_=>False
def Out.free(β:Ren)(s:St):Out→Prop
 | .normal _ s' | .exit _ _ s' | .ret _ s' | .panic _ _ s'=>Free β s s'
 | .stuck=>True
def CallP(P:Program)(β:Ren)(s:St)(w:World):CallOut→Ending→World→Prop
 | .ret v s',e,w'=>∃β' v',e=.returned v'∧Ext P β s w β' s' w'∧VRel P β' v v'
 | .panic chain s',e,w'=>∃β' chain',e=.panicked chain'∧Ext P β s w β' s' w'∧ChRel P β' chain chain'
 | .stuck,_,_=>False
def CallOut.free(β:Ren)(s:St):CallOut→Prop
 | .ret _ s' | .panic _ s'=>Free β s s'
 | .stuck=>True
def CallS(P:Program)(call:FuncId→Array Value→St→CallOut):Prop:=
 (∀f args s,(call f args s).nextLe s) ∧
 (∀f args args' s β w,Nat.ble zo f=false→Rel P β s w→LRel P β args.toList args'.toList→call f args s≠.stuck→(call f args s).free β s→Calls P f args' w (CallP P β s w (call f args s))) ∧
 ∀b args args' s β w m r,Rel P β s w→LRel P β args.toList args'.toList→β b=some m→w.heap[m.blk]? = some (.loop r)→call (zo+b) args s≠.stuck→(call (zo+b) args s).free β s →
  RoundIn Fence.wide 0 P m.blk r.fn (roundT r args') r.assign r.body w (CallP P β s w (call (zo+b) args s))
theorem Ext.freeOf{P:Program}{β β₁:Ren}{s s₁ s₂:St}{w w₁:World}(h:Ext P β s w β₁ s₁ w₁)(hf:Free β s s₂):Free β₁ s₁ s₂:=fun b l u=>by
 cases hb:β₁ b with
 |none=>rfl
 |some m=>
  have h0:=hf b (Nat.le_trans h.next l) u
  have:=(h.dom b m hb h0).2
  omega
theorem Free.sub{β:Ren}{s s₁ s₂:St}(hf:Free β s s₂)(h:s₁.next≤s₂.next):Free β s s₁:=fun b l u=>hf b l O
theorem OutP.trans{P:Program}{lo:Nat}{β β₁:Ren}{s s₁:St}{w w₁:World}(h:Ext P β s w β₁ s₁ w₁){r:Out}(hf:r.free β s){e:Exit}{a':Act}{w':World}(hr:OutP P lo β₁ s₁ w₁ r e a' w'):OutP P lo β s w r e a' w':=by
 cases r with
 |normal a s'=>obtain⟨h1,β',h2,h3⟩:=hr;exact⟨h1,β',h.trans h2 hf,h3⟩
 |exit id a s'=>obtain⟨h1,β',h2,h3⟩:=hr;exact⟨h1,β',h.trans h2 hf,h3⟩
 |ret a s'=>obtain⟨h1,β',h2,h3⟩:=hr;exact⟨h1,β',h.trans h2 hf,h3⟩
 |panic c a s'=>obtain⟨c',β',h1,h2,h3,h4⟩:=hr;exact⟨c',β',h1,h.trans h2 hf,h3,h4⟩
 |stuck=>exact hr
theorem Ext.outFree{P:Program}{β β₁:Ren}{s s₁:St}{w w₁:World}(h:Ext P β s w β₁ s₁ w₁){r:Out}(hf:r.free β s):r.free β₁ s₁:=by
 cases r<;>first|exact h.freeOf hf|trivial
theorem act_put_defers{a':Act}{dst:Option Tmp}{v':Value}:(a'.put dst v').defers=a'.defers:=by
 unfold Act.put
 split<;>rfl
section
variable{P:Program}{lo:Nat}{call:FuncId→Array Value→St→CallOut}
theorem opM_next(hc:∀f args s,(call f args s).nextLe s)(o:Oper)(a:Fr)(s:St):(opM P call o a s).nextLe s:=by
 unfold opM
 have h:=stepM_next (P:=P) (s:=s) a.eval o.op
 cases hs:zh P a.eval o.op s with
 |stuck=>trivial
 |panic v s'=>rw[hs]at h;exact h
 |ok n s'=>
  rw[hs]at h
  cases n<;>simp only[]<;>first|exact h|trivial|skip
  ·rename_i f args
   have h2:=hc f args s'
   split
   ·trivial
   ·cases hr:call f args s' with
    |ret v s''=>rw[hr]at h2;exact Nat.le_trans h h2
    |panic c s''=>rw[hr]at h2;exact Nat.le_trans h h2
    |stuck=>trivial
  ·rename_i b _ args _ _
   have h2:=hc (zo+b) args s'
   cases hr:call (zo+b) args s' with
   |ret v s''=>rw[hr]at h2;exact Nat.le_trans h h2
   |panic c s''=>rw[hr]at h2;exact Nat.le_trans h h2
   |stuck=>trivial
theorem op_sound(hc:CallS P call){o:Oper}{a:Fr}{a':Act}{s:St}{β:Ren}{w:World}(h:Rel P β s w)(hρ:∀x∈o.op.operands.toList,VRel P β (a.eval x) (a'.eval x))
  (hne:opM P call o a s≠.stuck) (hfree:(opM P call o a s).free β s) (K:Act→World→Prop) (Q:Exit→Act→World→Prop)
  (hK:∀v v' s' β' w',opM P call o a s=.normal (a.put o.dst v) s'→Ext P β s w β' s' w'→VRel P β' v v'→K (a'.put o.dst v') w')
  (hQ:∀chain chain' s' β' w',opM P call o a s=.panic chain a s'→Ext P β s w β' s' w'→ChRel P β' chain chain'→Q (.panic chain') a' w') (ro:Option Nat):o.wpIn (FW ro) 0 P a' w K Q:=by
 have hs:=step_sound h (ρ:=a.eval) (ρ':=a'.eval) o hρ
 unfold Oper.wpIn
 refine⟨fun _ _=>trivial,?_⟩
 have hnd:∀c,o.op≠.defer c:=fun c hh=>by
  apply hne
  unfold opM
  rw[hh]
  rfl
 rw[Oper.semAt_eq _ _ _ hnd]
 unfold opM at hne hfree hK hQ
 cases hst:zh P a.eval o.op s with
 |stuck=>rw[hst]at hne;exact(hne rfl).elim
 |panic v s'=>
  rw[hst]at hs hfree hQ
  obtain⟨β',w',v',h1,h2,h3⟩:=hs hfree
  rw[h1]
  exact hQ _ [{v:=v',recovered:=false}] s' β' w' rfl h2 ⟨h3,rfl,rfl,trivial⟩
 |ok n s₁=>
  have hn1:=stepM_next (P:=P) (s:=s) a.eval o.op
  rw[hst]at hs hne hfree hK hQ hn1
  cases n with
  |value v=>
   obtain⟨β',w',n',h1,h2,v',rfl,h3⟩:=hs hfree
   rw[h1]
   exact hK v v' s₁ β' w' rfl h2 h3
  |skip=>
   obtain⟨β',w',n',h1,h2,rfl⟩:=hs hfree
   rw[h1]
   exact hK undef undef s₁ β' w' rfl h2 undef_rel
  |enter f args=>
   have hn2:=hc.1 f args s₁
   simp only at hne hfree hK hQ
   cases hlow:Nat.ble zo f with
   |true=>rw[hlow]at hne;exact(hne rfl).elim
   |false=>
   rw[hlow]at hne hfree hK hQ
   simp only at hne hfree hK hQ
   cases hr:call f args s₁ with
   |stuck=>rw[hr]at hne;exact(hne rfl).elim
   |ret v s₂=>
    rw[hr]at hfree hK hn2
    simp only at hfree hK
    obtain⟨β',w',n',h1,h2,args',rfl,h3⟩:=hs (hfree.sub hn2)
    rw[h1]
    have hcall:=hc.2.1 f args args' s₁ β' w' hlow h2.rel h3 (by rw[hr];simp) (by rw[hr];exact h2.freeOf hfree)
    rw[hr]at hcall
    refine⟨nofun,?_⟩
    refine(callsFW.2 hcall).mono fun e w'' ⟨β'',v',he,hx,hv⟩=>by
     subst he
     exact hK v v' s₂ β'' w'' rfl (h2.trans hx hfree) hv
   |panic c s₂=>
    rw[hr]at hfree hQ hn2
    simp only at hfree hQ
    obtain⟨β',w',n',h1,h2,args',rfl,h3⟩:=hs (hfree.sub hn2)
    rw[h1]
    have hcall:=hc.2.1 f args args' s₁ β' w' hlow h2.rel h3 (by rw[hr];simp) (by rw[hr];exact h2.freeOf hfree)
    rw[hr]at hcall
    refine⟨nofun,?_⟩
    refine(callsFW.2 hcall).mono fun e w'' ⟨β'',c',he,hx,hv⟩=>by
     subst he
     exact hQ c c' s₂ β'' w'' rfl (h2.trans hx hfree) hv
  |round b f0 args x0 y0=>
   have hn2:=hc.1 (zo+b) args s₁
   simp only at hne hfree hK hQ
   cases hr:call (zo+b) args s₁ with
   |stuck=>rw[hr]at hne;exact(hne rfl).elim
   |ret v s₂=>
    rw[hr]at hfree hK hn2
    simp only at hfree hK
    obtain⟨β',w',n',h1,h2,m,r,args',hb,hg,rfl,h3⟩:=hs (hfree.sub hn2)
    rw[h1]
    have hcall:=hc.2.2 b args args' s₁ β' w' m r h2.rel h3 hb hg (by rw[hr];simp) (by rw[hr];exact h2.freeOf hfree)
    rw[hr]at hcall
    refine⟨nofun,?_⟩
    refine RoundIn.mono (F:=FW ro) hcall fun e w'' ⟨β'',v',he,hx,hv⟩=>by
     subst he
     exact hK v v' s₂ β'' w'' rfl (h2.trans hx hfree) hv
   |panic c s₂=>
    rw[hr]at hfree hQ hn2
    simp only at hfree hQ
    obtain⟨β',w',n',h1,h2,m,r,args',hb,hg,rfl,h3⟩:=hs (hfree.sub hn2)
    rw[h1]
    have hcall:=hc.2.2 b args args' s₁ β' w' m r h2.rel h3 hb hg (by rw[hr];simp) (by rw[hr];exact h2.freeOf hfree)
    rw[hr]at hcall
    refine⟨nofun,?_⟩
    refine RoundIn.mono (F:=FW ro) hcall fun e w'' ⟨β'',c',he,hx,hv⟩=>by
     subst he
     exact hQ c c' s₂ β'' w'' rfl (h2.trans hx hfree) hv
  |_=>exact(hne rfl).elim
theorem opM_frame{o:Oper}{a:Fr}{s:St}:(∀a₁ s₁,opM P call o a s=.normal a₁ s₁→∃v,a₁=a.put o.dst v)∧(∀c a₁ s₁,opM P call o a s=.panic c a₁ s₁→a₁=a) ∧
  (∀id a₁ s₁,opM P call o a s≠.exit id a₁ s₁)∧(∀a₁ s₁,opM P call o a s≠.ret a₁ s₁):=by
 unfold opM
 cases zh P a.eval o.op s with
 |stuck=>simp
 |panic v s'=>simp
 |ok n s'=>
  cases n with
  |value v=>exact⟨fun a₁ s₁ h=>by cases h;exact⟨v,rfl⟩,by simp,by simp,by simp⟩
  |skip=>exact⟨fun a₁ s₁ h=>by cases h;exact⟨undef,rfl⟩,by simp,by simp,by simp⟩
  |enter f args=>
   simp only
   split
   ·simp
   ·cases call f args s' with
    |ret v s''=>exact⟨fun a₁ s₁ h=>by cases h;exact⟨v,rfl⟩,by simp,by simp,by simp⟩
    |panic c s''=>simp
    |stuck=>simp
  |round b f0 args x0 y0=>
   simp only
   cases call (zo+b) args s' with
   |ret v s''=>exact⟨fun a₁ s₁ h=>by cases h;exact⟨v,rfl⟩,by simp,by simp,by simp⟩
   |panic c s''=>simp
   |stuck=>simp
  |_=>simp
theorem opsM_next(hc:∀f args s,(call f args s).nextLe s)(ops:List Oper):∀(l:List Oper) (a:Fr) (s:St),(opsM P call ops l a s).nextLe s
 | [],a,s=>Nat.le_refl _
 |o::l,a,s=>by
  unfold opsM
  split
  ·have h1:=opM_next (P:=P) hc o a s
   cases hr:opM P call o a s with
   |normal a₁ s₁=>
    rw[hr]at h1
    have h2:=opsM_next hc ops l a₁ s₁
    simp only
    cases hr2:opsM P call ops l a₁ s₁<;>rw[hr2]at h2<;>first|exact Nat.le_trans h1 h2|trivial
   |exit id a₁ s₁=>rw[hr]at h1;exact h1
   |ret a₁ s₁=>rw[hr]at h1;exact h1
   |panic c a₁ s₁=>rw[hr]at h1;exact h1
   |stuck=>trivial
  ·exact opsM_next hc ops l _ s
theorem Out.free_of{β:Ren}{s s₁:St}{r:Out}(h:r.nextLe s₁)(hf:r.free β s)(hr:r≠.stuck):Free β s s₁:=by
 cases r with
 |stuck=>exact(hr rfl).elim
 |normal a s'=>exact hf.sub h
 |exit id a s'=>exact hf.sub h
 |ret a s'=>exact hf.sub h
 |panic c a s'=>exact hf.sub h
theorem ops_sound(hc:CallS P call)(ro:Option Nat)(ops:Array Oper):∀(l:List Oper),(∀o∈l,o.op.operands.toList.all xY=true)→∀(a:Fr) (a':Act) (s:St) (β:Ren) (w:World),Rel P β s w→FRel P β a a'→Marks lo β s w a'.defers →
  opsM P call ops.toList l a s≠.stuck→(opsM P call ops.toList l a s).free β s→∀Q:Exit→Act→World→Prop,(∀e a₂ w₂,OutP P lo β s w (opsM P call ops.toList l a s) e a₂ w₂→Q e a₂ w₂) →
  wpListIn (FW ro) 0 P ops Q l a' w
 | [],_,a,a',s,β,w,h,hf,hm,_,_,Q,hQ=>hQ _ _ _ ⟨rfl,β,Ext.refl h,hf,hm⟩
 |o::l,hok,a,a',s,β,w,h,hf,hm,hne,hfree,Q,hQ=>by
  unfold wpListIn
  unfold opsM at hne hfree hQ
  rw[←wanted_eq hf ops o]
  cases hw:yT ops.toList a o with
  |false=>
   rw[hw]at hne hfree hQ
   simp only at hne hfree hQ
   simp only[Bool.false_eq_true,if_false]
   exact⟨fun _ _=>trivial,ops_sound hc ro ops l (fun o' h'=>hok o' (by simp[h'])) _ _ s β w h (hf.put o.dst undef_rel) (by rw[act_put_defers];exact hm) hne hfree Q hQ⟩
  |true=>
   rw[hw]at hne hfree hQ
   simp only at hne hfree hQ
   simp only[if_true]
   have hall:=hok o Y8
   rw[List.all_eq_true]at hall
   have hρ:∀x∈o.op.operands.toList,VRel P β (a.eval x) (a'.eval x):=fun x hx=>hf.eval (hall x hx)
   have hn1:=opM_next (P:=P) hc.1 o a s
   obtain⟨fr1,fr2,fr3,fr4⟩:=opM_frame (P:=P) (call:=call) (o:=o) (a:=a) (s:=s)
   cases hr:opM P call o a s with
   |stuck=>rw[hr]at hne;exact(hne rfl).elim
   |exit id a₁ s₁=>exact(fr3 _ _ _ hr).elim
   |ret a₁ s₁=>exact(fr4 _ _ hr).elim
   |panic c a₁ s₁=>
    rw[hr]at hfree hQ
    simp only at hfree hQ
    have:=fr2 _ _ _ hr
    subst this
    refine op_sound hc h hρ (by rw[hr];simp) (by rw[hr];exact hfree) _ Q (fun v v' s' β' w' e=>by rw[hr]at e;cases e) (fun chain chain' s' β' w' e hx hch=>?_) ro
    rw[hr]at e
    cases e
    exact hQ _ _ _ ⟨chain',β',rfl,hx,hch,hm.ext hx hfree⟩
   |normal a₁ s₁=>
    rw[hr]at hfree hQ hne hn1
    simp only at hfree hQ hne
    have hn2:=opsM_next (P:=P) hc.1 ops.toList l a₁ s₁
    have hfr:=Out.free_of hn2 hfree hne
    refine op_sound hc h hρ (by rw[hr];simp) (by rw[hr];exact hfr) _ Q (fun v v' s' β' w' e hx hv=>?_) (fun chain chain' s' β' w' e=>by rw[hr]at e;cases e) ro
    rw[hr]at e
    simp only[Out.normal.injEq]at e
    obtain⟨rfl,rfl⟩:=e
    exact ops_sound hc ro ops l (fun o' h'=>hok o' (by simp[h'])) _ _ s₁ β' w' hx.rel ((hf.mono hx.le).put o.dst hv) (by rw[act_put_defers];exact hm.ext hx hfr) hne (hx.outFree hfree) Q
     fun e a₂ w₂ ho=>hQ e a₂ w₂ (ho.trans hx hfree)
end
end Go.M
namespace Go.M
structure WF(s:St):Prop where
 room:s.next≤281474976710655
 top:∀b,s.next≤b→s.get b=none
structure Kp(s s':St):Prop where
 wf:WF s'
 next:s.next≤s'.next
 bar:s'.bar=s.bar
 prot:s'.prot=s.prot
 same:∀b,b<s.next→s.may b=false→s'.get b=s.get b
 dead:∀b,b<s.next→s.get b=none→s'.get b=none
def Res.keeps{α:Type}(s:St):Res α→Prop
 | .ok _ s' | .panic _ s'=>Kp s s'
 | .stuck=>True
def Out.keeps(s:St):Out→Prop
 | .normal _ s' | .exit _ _ s' | .ret _ s' | .panic _ _ s'=>Kp s s'
 | .stuck=>True
def CallOut.keeps(s:St):CallOut→Prop
 | .ret _ s' | .panic _ s'=>Kp s s'
 | .stuck=>True
theorem Kp.refl{s:St}(h:WF s):Kp s s:=⟨h,Nat.le_refl _,rfl,rfl,fun _ _ _=>rfl,fun _ _ h=>h⟩
theorem Kp.trans{s s₁ s₂:St}(h:Kp s s₁)(h':Kp s₁ s₂):Kp s s₂ where
 wf:=h'.wf
 next:=Nat.le_trans h.next h'.next
 bar:=h'.bar.trans h.bar
 prot:=h'.prot.trans h.prot
 same:=fun b hb hm=>by
  rw[h'.same b (Nat.lt_of_lt_of_le hb h.next) (by rw[St.may_eq h.bar h.prot];exact hm),h.same b hb hm]
 dead:=fun b hb hg=>h'.dead b (Nat.lt_of_lt_of_le hb h.next) (h.dead b hb hg)
theorem WF.lt{s:St}(h:WF s){b:Nat}{o:MObj}(hg:s.get b=some o):b<s.next:=
 Classical.byContradiction fun hc=>by rw[h.top b O]at hg;cases hg
theorem Kp.put{s:St}(h:WF s){b:Nat}{o:MObj}(hg:s.get b=some o)(hm:s.may b=true)(o':Option MObj):Kp s (s.put b o'):=by
 have hlt:=h.lt hg
 have hr:=h.room
 have gp:=fun b'=>St.get_put (s:=s) (b:=b) O o' b'
 refine⟨⟨h.room,fun b' hb'=>?_⟩,Nat.le_refl _,rfl,rfl,fun b' hb' hm'=>?_,fun b' hb' hd=>?_⟩
 ·simp at hb';rw[gp,if_neg O];exact h.top b' hb'
 ·rw[gp,if_neg (fun e=>by rw[e,hm]at hm';cases hm')]
 ·rw[gp,if_neg (fun e=>by rw[e,hg]at hd;cases hd)];exact hd
theorem Kp.new{s:St}(h:WF s)(hroom:s.room=true)(o:MObj):Kp s (s.new o):=by
 have hr:=room_lt hroom
 have gp:=fun b'=>St.get_new (s:=s) O o b'
 refine⟨⟨by simp;omega,fun b' hb'=>?_⟩,by simp,rfl,rfl,fun b' hb' hm'=>?_,fun b' hb' hd=>?_⟩
 ·simp at hb';rw[gp,if_neg O];exact h.top b' O
 ·rw[gp,if_neg O]
 ·rw[gp,if_neg O];exact hd
section
variable{P:Program}{s:St}
theorem zG(h:WF s){v:Value}:(okV v s).keeps s:=Kp.refl h
theorem zg{α:Type}:(Res.stuck:Res α).keeps s:=trivial
theorem runA_scalar{x:Sem Value}(hx:Scalar x)(h:WF s):((xR P x s).map Next.value).keeps s:=by
 cases hx with
 |val hv=>exact Kp.refl h
 |err m=>exact Kp.refl h
 |stuck m=>trivial
 |unsupported u=>trivial
theorem storeS_keeps(h:WF s){b off:Nat}{vs:List Value}:(yB b off vs s).keeps s:=by
 unfold yB
 split
 ·rename_i c e hg
  split
  ·rename_i c' hm _
   simp only[Bool.and_eq_true]at hm
   exact Kp.put h hg hm.2 _
  ·split
   ·exact Kp.refl h
   ·exact zg
 ·exact zg
theorem storeS_kp(h:WF s){b off:Nat}{vs:List Value}{n:Next}{s':St}(hst:yB b off vs s=.ok n s'):Kp s s':=by
 have:=storeS_keeps h (b:=b) (off:=off) (vs:=vs)
 rw[hst]at this
 exact this
theorem newS_keeps(h:WF s){e:TypeId}{c:List Value}{n:Nat}:(newS e c n s).keeps s:=by
 unfold newS
 split
 ·rename_i hr;exact Kp.new h hr _
 ·exact zg
theorem newK_keeps(h:WF s){e:TypeId}{c:List Value}{n k:Nat}:(newK e c n k s).keeps s:=by
 unfold newK
 split
 ·rename_i hr;exact Kp.new h hr _
 ·exact zg
theorem boxM_keeps(h:WF s){e:TypeId}{c:List Value}:(boxM e c s).keeps s:=by
 unfold boxM
 split
 ·rename_i hr;exact Kp.new h hr _
 ·exact zg
theorem sliceS_keeps(h:WF s){sz:Nat}{a:Option Addr}{len c:Nat}{known:Bool}{lo hi mx:Option Value}:(y9 sz a len c known lo hi mx s).keeps s:=by
 unfold y9
 (repeat' split)<;>first|exact zg|exact zG h
theorem eqM_keeps(h:WF s){op:BinOp}{t:TypeId}{x y:Value}:(eqM P op t x y s).keeps s:=by
 unfold eqM
 (repeat' split)<;>first|exact zg|exact zG h
theorem intM_keeps(h:WF s){op:BinOp}{t:TypeId}{k k':IntKind}{a b:Int}:(intM P op t k k' a b s).keeps s:=by
 unfold intM
 (repeat' split)<;>first|exact zG h|exact runA_scalar (scalar_int op t _ _ a b) h
theorem textM_keeps(h:WF s){x:Value}:(textM x s).keeps s:=by
 unfold textM
 (repeat' split)<;>first|exact zg|exact zG h
theorem cutB_keeps(h:WF s){b:ByteArray}{lo hi:Option Value}:(cutB b lo hi s).keeps s:=by
 unfold cutB
 (repeat' split)<;>first|exact zg|exact zG h
theorem Res.keeps_trans{α:Type}{s₁:St}{r:Res α}(h:Kp s s₁)(hr:r.keeps s₁):r.keeps s:=by
 cases r with
 |ok a s'=>exact h.trans hr
 |panic v s'=>exact h.trans hr
 |stuck=>trivial
theorem growM_keeps(h:WF s){e:TypeId}{a:Option Addr}{cap need:Nat}{c:List Value}(hrow:rowB e a cap s=true):(growM e a cap need c s).keeps s:=by
 unfold growM
 split
 ·rename_i s' hk
  have hkp:Kp s s':=by
   unfold killM at hk
   split at hk
   ·cases hk;exact Kp.refl h
   ·rename_i hodd
    split at hk
    ·rename_i a
     split at hk
     ·rename_i hmay
      cases hk
      unfold rowB at hrow
      split at hrow
      ·rename_i h0;exact(hodd h0).elim
      ·simp only at hrow
       split at hrow
       ·rename_i cc e' hg
        exact Kp.put h hg hmay _
       ·cases hrow
     ·cases hk
    ·cases hk
  exact Res.keeps_trans hkp (newS_keeps hkp.wf)
 ·exact zg
theorem appendS_keeps(h:WF s){e:TypeId}{inf:TypeInfo}{base:Option Addr}{sLen cap n:Nat}{new:List Value}:(yX e inf base sLen cap n new s).keeps s:=by
 unfold yX
 split
 ·split
  ·rename_i b off
   split
   ·rename_i nx s' hst
    have:=storeS_keeps h (b:=b) (off:=off+sLen*inf.size) (vs:=new)
    rw[hst]at this
    exact this
   ·exact zg
  ·split
   ·exact zG h
   ·exact zg
 ·split
  ·rename_i old hb _
   simp only[Bool.and_eq_true]at hb
   exact growM_keeps h hb.2
  ·exact zg
theorem appendM_keeps(h:WF s){ts:List TypeId}{args:List Value}:(yi P ts args s).keeps s:=by
 unfold yi
 (repeat' split)<;>first|exact zg|exact appendS_keeps h
theorem copyM_keeps(h:WF s){ts:List TypeId}{args:List Value}:(copyM P ts args s).keeps s:=by
 unfold copyM
 repeat' split
 all_goals first
  |exact zg
  |(rename_i hst;exact storeS_kp h hst)
theorem builtinM_keeps(h:WF s){b:Builtin}{ts:List TypeId}{args:List Value}:(yy P b ts args s).keeps s:=by
 unfold yy
 split
 ·exact appendM_keeps h
 ·unfold capM;(repeat' split)<;>first|exact zg|exact zG h
 ·unfold lenM;(repeat' split)<;>first|exact zg|exact zG h
 ·unfold minM;(repeat' split)<;>first|exact zg|exact zG h
 ·unfold maxM;(repeat' split)<;>first|exact zg|exact zG h
 ·exact copyM_keeps h
 ·unfold clearM;(repeat' split)<;>first|exact zg|exact zG h|(rename_i hst;exact storeS_kp h hst)
 ·exact zg
theorem okPair_keeps(h:WF s){a b:Bool}{v:Value}:(okPair a v b s).keeps s:=by
 unfold okPair
 split<;>exact zG h
theorem stepM_keeps(h:WF s)(ρ:Operand→Value)(o:Op):(zh P ρ o s).keeps s:=by
 cases o with
 |move x=>exact zG h
 |assign x=>exact zG h
 |pick c a b=>simp only[zh];unfold pickM;(repeat' split)<;>first|exact zg|exact zG h
 |load t a=>simp only[zh];unfold loadM;(repeat' split)<;>first|exact zg|exact zG h
 |store t a v=>simp only[zh];unfold storeM;(repeat' split)<;>first|exact zg|exact storeS_keeps h
 |box e x=>exact boxM_keeps h
 |alloc e=>simp only[zh];unfold guarded allocM;(repeat' split)<;>first|exact zg|exact boxM_keeps h
 |fieldAddr t x f=>simp only[zh];unfold fieldM;(repeat' split)<;>first|exact zg|exact zG h
 |indexAddr t x i=>simp only[zh];unfold qB yP;(repeat' split)<;>first|exact zg|exact zG h
 |binOp op t x y yt=>simp only[zh];unfold qt;(repeat' split)<;>first|exact intM_keeps h|exact runA_scalar (scalar_string _ _ _ _) h|exact eqM_keeps h
 |unOp op t x=>simp only[zh];unfold unM;(repeat' split)<;>first|exact zg|exact zG h|exact runA_scalar (scalar_unary _ _ _) h
 |extract x i=>simp only[zh];unfold extractM;(repeat' split)<;>first|exact zg|exact zG h
 |nilCheck x=>simp only[zh];unfold nilM;(repeat' split)<;>first|exact zg|exact zG h
 |sliceToArrayPointer t x=>simp only[zh];unfold arrM;(repeat' split)<;>first|exact zg|exact zG h
 |convert src dst x=>simp only[zh];unfold qE;(repeat' split)<;>first|exact zg|exact zG h|exact textM_keeps h|exact newS_keeps h
 |makeInterface t x=>simp only[zh];unfold ifaceM;(repeat' split)<;>first|exact zg|exact zG h
 |makeFunc fn f c=>simp only[zh];(repeat' split)<;>first|exact zg|exact zG h
 |makeMap t r=>
  cases r with
  |none=>
   simp only[zh];unfold mapM
   split
   ·rename_i hr;exact Kp.new h hr _
   ·exact zg
  |some r=>exact zg
 |slice t x lo hi mx=>simp only[zh];unfold xa;(repeat' split)<;>first|exact zg|exact sliceS_keeps h|exact cutB_keeps h
 |field t x f=>simp only[zh];unfold fieldV;(repeat' split)<;>first|exact zg|exact zG h
 |index t x i=>simp only[zh];unfold indexV;(repeat' split)<;>first|exact zg|exact zG h
 |panic x=>simp only[zh];unfold panicM;(repeat' split)<;>first|exact zg|exact Kp.refl h
 |call c=>
  simp only[zh]
  split
  ·unfold callV;(repeat' split)<;>first|exact zg|exact Kp.refl h
  ·exact builtinM_keeps h
  ·exact zg
 |build t parts=>simp only[zh];unfold buildM;(repeat' split)<;>first|exact zg|exact zG h
 |buildSlice t len parts=>simp only[zh];unfold xE;(repeat' split)<;>first|exact zg|exact newK_keeps h
 |makeSlice t l c=>simp only[zh];unfold xw;(repeat' split)<;>first|exact zg|exact newK_keeps h
 |lookup t x i ok=>simp only[zh];unfold lookupM;(repeat' split)<;>first|exact zg|exact okPair_keeps h
 |mapUpdate t m k x=>
  simp only[zh];unfold updateM
  split
  ·split
   ·rename_i hg
    (repeat' split)<;>first|exact zg|(unfold setM;split<;>first|exact zg|(rename_i hm;exact Kp.put h hg hm _))
   ·exact zg
  ·exact zg
 |insert t m k x=>
  simp only[zh];unfold updateM
  split
  ·split
   ·rename_i hg
    (repeat' split)<;>first|exact zg|(unfold setM;split<;>first|exact zg|(rename_i hm;exact Kp.put h hg hm _))
   ·exact zg
  ·exact zg
 |_=>exact zg
theorem CallOut.keeps_trans{s₁:St}{r:CallOut}(h:Kp s s₁)(hr:r.keeps s₁):r.keeps s:=by
 cases r with
 |ret a s'=>exact h.trans hr
 |panic v s'=>exact h.trans hr
 |stuck=>trivial
theorem Out.keeps_trans{s₁:St}{r:Out}(h:Kp s s₁)(hr:r.keeps s₁):r.keeps s:=by
 cases r with
 |normal a s'=>exact h.trans hr
 |exit id a s'=>exact h.trans hr
 |ret a s'=>exact h.trans hr
 |panic c a s'=>exact h.trans hr
 |stuck=>trivial
variable{call:FuncId→Array Value→St→CallOut}
theorem opM_keeps(hc:∀f args s,WF s→(call f args s).keeps s)(h:WF s)(o:Oper)(a:Fr):(opM P call o a s).keeps s:=by
 unfold opM
 have hk:=stepM_keeps (P:=P) h a.eval o.op
 cases hs:zh P a.eval o.op s with
 |stuck=>trivial
 |panic v s'=>rw[hs]at hk;exact hk
 |ok n s'=>
  rw[hs]at hk
  cases n<;>simp only[]<;>first|exact hk|trivial|skip
  ·rename_i f args
   have hk:Kp s s':=hk
   have h2:=hc f args s' hk.wf
   split
   ·trivial
   ·cases hr:call f args s' with
    |ret v s''=>rw[hr]at h2;exact hk.trans h2
    |panic c s''=>rw[hr]at h2;exact hk.trans h2
    |stuck=>trivial
  ·rename_i b _ args _ _
   have hk:Kp s s':=hk
   have h2:=hc (zo+b) args s' hk.wf
   cases hr:call (zo+b) args s' with
   |ret v s''=>rw[hr]at h2;exact hk.trans h2
   |panic c s''=>rw[hr]at h2;exact hk.trans h2
   |stuck=>trivial
theorem opsM_keeps(hc:∀f args s,WF s→(call f args s).keeps s)(ops:List Oper):∀(l:List Oper) (a:Fr) (s:St),WF s→(opsM P call ops l a s).keeps s
 | [],a,s,h=>Kp.refl h
 |o::l,a,s,h=>by
  unfold opsM
  split
  ·have h1:=opM_keeps (P:=P) hc h o a
   cases hr:opM P call o a s with
   |normal a₁ s₁=>
    rw[hr]at h1
    have h1:Kp s s₁:=h1
    exact Out.keeps_trans h1 (opsM_keeps hc ops l a₁ s₁ h1.wf)
   |exit id a₁ s₁=>rw[hr]at h1;exact h1
   |ret a₁ s₁=>rw[hr]at h1;exact h1
   |panic c a₁ s₁=>rw[hr]at h1;exact h1
   |stuck=>trivial
  ·exact opsM_keeps hc ops l _ s h
theorem Kp.relax{s s₀ s₁:St}(hh:s₀.heap=s.heap)(hn:s₀.next=s.next)(hm:∀b,s.may b=false→b<s.next→s₀.may b=false)(h:Kp s₀ s₁) :
  Kp s {next:=s₁.next,bar:=s.bar,prot:=s.prot,heap:=s₁.heap}:=by
 have hg:∀b,s₀.get b=s.get b:=fun b=>by simp only[St.get,hh]
 refine⟨⟨h.wf.room,h.wf.top⟩,by have:=h.next;simp only;omega,rfl,rfl,fun b hb hmb=>?_,fun b hb hd=>?_⟩
 ·have:=h.same b O (hm b hmb hb)
  rw[hg]at this
  exact this
 ·have:=h.dead b O (by rw[hg];exact hd)
  exact this
theorem WF.of_heap{s s₀:St}(h:WF s)(hh:s₀.heap=s.heap)(hn:s₀.next=s.next):WF s₀:=
 ⟨by rw[hn];exact h.room,fun b hb=>by
  have:=h.top b O
  simpa only[St.get,hh]using this⟩
theorem drawOp_keeps(hc:∀f args s,WF s→(call f args s).keeps s)(h:WF s)(ops:List Oper)(d:Drawn)(o:Oper)(a:Fr):(yd P call ops d o a s).keeps s:=by
 unfold yd
 split
 ·split
  ·split
   ·split
    ·exact Kp.refl h
    ·trivial
   ·trivial
  ·have h0:WF {s with prot:=yh ops a d.free++s.prot}:=h.of_heap rfl rfl
   have h1:=opM_keeps (P:=P) hc h0 o a
   split
   ·rename_i a₁ s' hr
    rw[hr]at h1
    exact Kp.relax (s:=s) (s₀:={s with prot:=yh ops a d.free++s.prot}) rfl rfl (fun b hb _=>by
     unfold St.may at hb ⊢
     simp only[Bool.and_eq_false_iff,Bool.not_eq_false',List.any_append,Bool.or_eq_true]at hb ⊢
     rcases hb with hb|hb
     ·exact .inl hb
     ·exact .inr (.inr hb)) h1
   ·rename_i c a₁ s' hr
    rw[hr]at h1
    exact Kp.relax (s:=s) (s₀:={s with prot:=yh ops a d.free++s.prot}) rfl rfl (fun b hb _=>by
     unfold St.may at hb ⊢
     simp only[Bool.and_eq_false_iff,Bool.not_eq_false',List.any_append,Bool.or_eq_true]at hb ⊢
     rcases hb with hb|hb
     ·exact .inl hb
     ·exact .inr (.inr hb)) h1
   ·trivial
  ·have h0:WF {s with bar:=s.next}:=h.of_heap rfl rfl
   have h1:=opM_keeps (P:=P) hc h0 o a
   split
   ·rename_i a₁ s' hr
    rw[hr]at h1
    exact Kp.relax (s:=s) (s₀:={s with bar:=s.next}) rfl rfl (fun b _ hb=>by
     unfold St.may
     simp only[Bool.and_eq_false_iff]
     left
     rw[Bool.eq_false_iff]
     intro hh
     have:=Nat.le_of_ble_eq_true hh
     omega) h1
   ·trivial
  ·split
   ·split
    ·rename_i hn _ _
     split
     ·exact Kp.new h (by rw[Bool.and_eq_true]at hn;exact hn.2) _
     ·trivial
    ·trivial
   ·trivial
 ·exact Kp.refl h
theorem drawM_keeps(hc:∀f args s,WF s→(call f args s).keeps s)(ops:List Oper):∀(l:List Drawn) (a:Fr) (s:St),WF s→(drawM P call ops l a s).keeps s
 | [],a,s,h=>Kp.refl h
 |d::l,a,s,h=>by
  unfold drawM
  split
  ·rename_i o _
   have h1:=drawOp_keeps (P:=P) hc h ops d o a
   cases hr:yd P call ops d o a s with
   |normal a₁ s₁=>
    rw[hr]at h1
    have h1:Kp s s₁:=h1
    exact Out.keeps_trans h1 (drawM_keeps hc ops l a₁ s₁ h1.wf)
   |exit id a₁ s₁=>rw[hr]at h1;exact h1
   |ret a₁ s₁=>rw[hr]at h1;exact h1
   |panic c a₁ s₁=>rw[hr]at h1;exact h1
   |stuck=>trivial
  ·trivial
end
end Go.M
namespace Go.M
inductive Sched(ops:Array Oper):(Nat→Prop)→List Nat→Prop where
 |nil {L:Nat→Prop} (h:∀i,i<ops.size→L i):Sched ops L []
 |cons {L:Nat→Prop} {i:Nat} {rest:List Nat} (hi:i<ops.size) (hn:¬L i) (he:∀o,ops[i]? = some o→∀e∈o.after.toList,Region.binds .any e=true→L e.on)
   (h:Sched ops (fun k=>L k∨k=i) rest):Sched ops L (i::rest)
theorem filter_lt{p q:Nat→Bool}:∀(l:List Nat),(∀x,q x=true→p x=true)→(∃x∈l,p x=true∧q x=false)→(l.filter q).length<(l.filter p).length
 | [],_,h=>by obtain⟨x,hx,_⟩:=h;simp at hx
 |y::l,hpq,h=>by
  have le:∀l:List Nat,(l.filter q).length≤(l.filter p).length:=by
   intro l
   induction l with
   |nil=>simp
   |cons z l ih=>
    simp only[List.filter_cons]
    cases hq:q z with
    |true=>rw[hpq z hq];simp;exact ih
    |false=>cases p z<;>simp<;>omega
  obtain⟨x,hx,h1,h2⟩:=h
  simp only[List.filter_cons]
  rcases List.mem_cons.1 hx with rfl|hx
  ·rw[h1,h2]
   have:=le l
   simp;omega
  ·have ih:=filter_lt l hpq ⟨x,hx,h1,h2⟩
   cases hq:q y with
   |true=>rw[hpq y hq];simp;exact ih
   |false=>cases p y<;>simp<;>omega
section
variable(ops:Array Oper)
def readyAt(listed:Array Bool)(i:Nat):Bool:=
 !listed.getD i true&&((ops[i]?).map (·.after.all fun e=> !Region.binds .any e||listed.getD e.on false)).getD false
theorem go_sched(hb:∀i o,ops[i]? = some o→∀e∈o.after.toList,Region.binds .any e=true→e.on<i):∀(fuel t:Nat) (listed:Array Bool) (acc:List Nat),listed.size=ops.size →
  ((List.range ops.size).filter fun i=> !listed.getD i true).length≤fuel →
  ∃rest,Region.linearise.go .any ops fuel t listed acc=acc.reverse++rest∧Sched ops (fun i=>listed.getD i false=true) rest
 |0,t,listed,acc,hs,hc=>by
  refine⟨[],by simp[Region.linearise.go],.nil fun i hi=>?_⟩
  have h0:(List.range ops.size).filter (fun i=> !listed.getD i true)=[]:=List.eq_nil_of_length_eq_zero O
  have:=List.filter_eq_nil_iff.1 h0 i (by simpa using hi)
  simp only[Bool.not_eq_true',Bool.not_eq_false]at this
  rw[Array.getD_eq_getD_getElem?]at this ⊢
  rw[Array.getElem?_eq_getElem O]at this ⊢
  exact this
 |fuel+1,t,listed,acc,hs,hc=>by
  have inb:∀i,i<ops.size→∀d,listed.getD i d=listed.getD i false:=fun i hi d=>by
   rw[Array.getD_eq_getD_getElem?,Array.getD_eq_getD_getElem?,Array.getElem?_eq_getElem O];rfl
  unfold Region.linearise.go
  have hrs:((List.range ops.size).filter fun i=> !listed.getD i true&&((ops[i]?).map (·.after.all fun e=> !Region.binds .any e||listed.getD e.on false)).getD false)=(List.range ops.size).filter (readyAt ops listed):=rfl
  simp only[hrs]
  cases hr:((List.range ops.size).filter (readyAt ops listed))[t % ((List.range ops.size).filter (readyAt ops listed)).length]? with
  |none=>
   -- nothing is ready: everything is listed
   have hnil:(List.range ops.size).filter (readyAt ops listed)=[]:=by
    cases hl:(List.range ops.size).filter (readyAt ops listed)with
    |nil=>rfl
    |cons x xs=>
     rw[hl]at hr
     have:t % (x::xs).length<(x::xs).length:=Nat.mod_lt _ Y8
     rw[List.getElem?_eq_getElem this]at hr
     cases hr
   have all:∀i,i<ops.size→listed.getD i false=true:=by
    intro i
    induction i using Nat.strongRecOn with
    |_ i ih=>
     intro hi
     cases hv:listed.getD i false with
     |true=>rfl
     |false=>
      exfalso
      have hno:=List.filter_eq_nil_iff.1 hnil i (by simpa using hi)
      apply hno
      unfold readyAt
      rw[inb i hi true,hv]
      simp only[Bool.not_false,Bool.true_and]
      rw[Array.getElem?_eq_getElem hi]
      simp only[Option.map_some,Option.getD_some,Array.all_eq_true_iff_forall_mem]
      intro e he
      cases hbd:Region.binds .any e with
      |false=>rfl
      |true=>
       have hlt:=hb i ops[i] (by simp[hi]) e (by simpa using he) hbd
       simp[ih e.on hlt O]
   exact⟨[],by simp,.nil all⟩
  |some i=>
   have hmem:i∈(List.range ops.size).filter (readyAt ops listed):=List.mem_of_getElem? hr
   simp only[List.mem_filter,List.mem_range]at hmem
   obtain⟨hi,hrdy⟩:=hmem
   unfold readyAt at hrdy
   simp only[Bool.and_eq_true]at hrdy
   obtain⟨h1,h2⟩:=hrdy
   rw[inb i hi true]at h1
   have hnl:listed.getD i false=false:=by simpa using h1
   have hget:∀k d,(listed.setIfInBounds i true).getD k d=if k=i then true else listed.getD k d:=fun k d=>by
    rw[Array.getD_eq_getD_getElem?,Array.getD_eq_getD_getElem?]
    by_cases hk:k=i
    ·subst hk
     rw[Array.getElem?_setIfInBounds_self_of_lt O,if_pos rfl];rfl
    ·rw[Array.getElem?_setIfInBounds_ne (Ne.symm hk),if_neg hk]
   obtain⟨rest,g1,g2⟩:=go_sched hb fuel (t / ((List.range ops.size).filter (readyAt ops listed)).length) (listed.setIfInBounds i true) (i::acc) (by simpa using hs) (by
    have:=filter_lt (p:=fun k=> !listed.getD k true) (q:=fun k=> !(listed.setIfInBounds i true).getD k true) (List.range ops.size) (fun x hx=>by
      rw[hget]at hx
      split at hx
      ·simp at hx
      ·exact hx)
     ⟨i,by simpa using hi,by rw[inb i hi true,hnl];rfl,by rw[hget,if_pos rfl];rfl⟩
    omega)
   refine⟨i::rest,by simp[g1],.cons hi (by rw[hnl];simp) (fun o ho e he hbd=>?_) ?_⟩
   ·rw[ho]at h2
    simp only[Option.map_some,Option.getD_some,Array.all_eq_true_iff_forall_mem]at h2
    have:=h2 e (by simpa using he)
    rw[hbd]at this
    simpa using this
   ·have e1:(fun k=>listed.getD k false=true∨k=i)=(fun k=>(listed.setIfInBounds i true).getD k false=true):=by
     funext k
     rw[hget]
     by_cases hk:k=i<;>simp[hk]
    rw[e1];exact g2
theorem linearise_sched(hb:∀i o,ops[i]? = some o→∀e∈o.after.toList,Region.binds .any e=true→e.on<i)(t:Nat):Sched ops (fun _=>False) (Region.linearise .any ops t):=by
 obtain⟨rest,h1,h2⟩:=go_sched ops hb ops.size t (Array.replicate ops.size false) [] Y8 (by
  refine Nat.le_trans (List.length_filter_le _ _) ?_
  simp)
 unfold Region.linearise
 rw[h1]
 simp only[List.reverse_nil,List.nil_append]
 have e1:(fun i=>(Array.replicate ops.size false).getD i false=true)=(fun _=>False):=by
  funext i
  rw[Array.getD_eq_getD_getElem?,Array.getElem?_replicate]
  split<;>simp
 rw[e1]at h2
 exact h2
end
end Go.M
namespace Go.M
structure PlanOk(ops:Array Oper)(l:List Drawn)(anc:Nat→Nat):Prop where
  op:∀(p:Nat) (d:Drawn),l[p]? = some d→∃o,ops[d.ix]? = some o
  surj:∀i,i<ops.size→∃(p:Nat) (d:Drawn),l[p]? = some d∧d.ix=i
  ancOf:∀(p:Nat) (d:Drawn),l[p]? = some d→d.anc=anc d.ix
  edges:∀i o,ops[i]? = some o→∀e∈o.after.toList,Region.binds .any e=true→e.on<i∧(anc i).testBit e.on=true
  below:∀i o k,ops[i]? = some o→(anc i).testBit k=true→k<i
  just:∀i o k,ops[i]? = some o→(anc i).testBit k=true→∃e∈o.after.toList,Region.binds .any e=true∧(e.on=k∨(anc e.on).testBit k=true)
  reads:∀i o,ops[i]? = some o→∀t,Operand.tmp t∈o.op.operands.toList→∀u q,ops[u]? = some q→q.dst=some t→(anc i).testBit u=true∨(isLd o=false∧(u=i∨(anc u).testBit i=true))
  guard:∀i o g,ops[i]? = some o→o.guard=some g→(anc i).testBit g.1=true
  pair:∀(p q:Nat) (x y:Drawn),p<q→l[p]? = some x→l[q]? = some y→x.ix≠y.ix∧(anc x.ix).testBit y.ix=false ∧
    ((anc y.ix).testBit x.ix=false→howW x.how=false∧(howW y.how=true→(howL x.how=true∨howN x.how=true)∧∀o,ops[x.ix]? = some o→(isLd o=true∨howN x.how=true)→x.ix∈y.free))
  dst:∀(i j:Nat) (o q:Oper) (t:Tmp),ops[i]? = some o→ops[j]? = some q→o.dst=some t→q.dst=some t→i=j
  light:∀(p:Nat) (d:Drawn) o,l[p]? = some d→ops[d.ix]? = some o→howL d.how=true→isLight o=true
  alloc:∀(p:Nat) (d:Drawn) o,l[p]? = some d→ops[d.ix]? = some o→howN d.how=true→(isAlloc o||isBS o)=true
theorem distinctB_spec:∀(l:List (Option Tmp)),distinctB l=true→∀(i j:Nat) (t:Tmp),l[i]? = some (some t)→l[j]? = some (some t)→i=j
  | [],_,i,j,t,h,_=>by simp at h
  |x::l,hd,i,j,t,hi,hj=>by
    have tail:distinctB l=true:=by
      cases x with
      |none=>exact hd
      |some u=>unfold distinctB at hd;simp only[Bool.and_eq_true]at hd;exact hd.2
    have head:∀k,x=some t→l[k]? = some (some t)→False:=fun k hx hk=>by
      subst hx
      unfold distinctB at hd
      simp only[Bool.and_eq_true,List.all_eq_true]at hd
      have:=hd.1 _ (List.mem_of_getElem? hk)
      simp at this
    cases i with
    |zero=>cases j with
      |zero=>rfl
      |succ j=>simp at hi hj;exact(head j hi hj).elim
    |succ i=>cases j with
      |zero=>simp at hi hj;exact(head i hj hi).elim
      |succ j=>simp at hi hj;rw[distinctB_spec l tail i j t hi hj]
theorem pairsB_spec{ops:List Oper}:∀(l:List Drawn),pairsB ops l=true→∀(p q:Nat) (x y:Drawn),p<q→l[p]? = some x→l[q]? = some y→pairB ops x y=true
  | [],_,p,q,x,y,_,h,_=>by simp at h
  |z::l,hp,p,q,x,y,hlt,hx,hy=>by
    unfold pairsB at hp
    simp only[Bool.and_eq_true,List.all_eq_true]at hp
    cases q with
    |zero=>omega
    |succ q=>
      simp at hy
      cases p with
      |zero=>simp at hx;subst hx;exact hp.1 _ (List.mem_of_getElem? hy)
      |succ p=>simp at hx;exact pairsB_spec l hp.2 p q x y O hx hy
theorem plan_ok{ops:Array Oper}{l:List Drawn}(h:planB ops.toList l=true):∃anc,PlanOk ops l anc:=by
  unfold planB at h
  simp only[Bool.and_eq_true]at h
  obtain⟨⟨⟨⟨⟨⟨h1,h2⟩,h3⟩,h4⟩,h5⟩,h6⟩,h7⟩:=h
  have h2:=Nat.eq_of_beq_eq_true h2
  rw[zH,zH]at h2
  let anc:Nat→Nat:=fun i=>((ancs ops.toList)[i]?).getD 0
  have ancAt:∀i m,zM (ancs ops.toList) i=some m→m=anc i:=fun i m hm=>by rw[zC]at hm;simp only[anc,hm];rfl
  have each:∀i o,ops[i]? = some o→ancB (ancs ops.toList) i o (anc i)=true∧readsB ops.toList (ancs ops.toList) i (anc i) o=true:=fun i o ho=>by
    rw[List.all_eq_true]at h3
    have:=h3 (o,i) (by
      rw[List.mem_zipIdx_iff_getElem?]
      simpa using ho)
    simp only at this
    split at this
    · rename_i m hm
      rw[ancAt i m hm]at this
      simpa using this
    · cases this
  have drawn:∀(p:Nat) (d:Drawn),l[p]? = some d→(∃o,ops[d.ix]? = some o)∧d.anc=anc d.ix∧(∀o,ops[d.ix]? = some o→howL d.how=true→isLight o=true)∧(∀o,ops[d.ix]? = some o→howN d.how=true→(isAlloc o||isBS o)=true):=fun p d hd=>by
    rw[List.all_eq_true]at h4
    have:=h4 d (List.mem_of_getElem? hd)
    simp only[Bool.and_eq_true]at this
    obtain⟨g1,g2⟩:=this
    have ha:d.anc=anc d.ix:=by
      split at g1
      · rename_i m hm
        have:=Nat.eq_of_beq_eq_true g1
        rw[←this];exact ancAt _ _ hm
      · cases g1
    unfold lightB at g2
    split at g2
    · rename_i o ho
      rw[zC]at ho
      have ho':ops[d.ix]? = some o:=by simpa using ho
      rw[Bool.and_eq_true,Bool.or_eq_true,Bool.or_eq_true,Bool.not_eq_true',Bool.not_eq_true']at g2
      refine⟨⟨o,ho'⟩,ha,fun o2 ho2 hh=>?_,fun o2 ho2 hh=>?_⟩
      · rw[ho']at ho2;cases ho2
        rcases g2.1 with g|g
        · rw[hh]at g;cases g
        · exact g
      · rw[ho']at ho2;cases ho2
        rcases g2.2 with g|g
        · rw[hh]at g;cases g
        · exact g
    · cases g2
  refine⟨anc,{
    op:=fun p d hd=>(drawn p d hd).1
    surj:=fun i hi=>?_
    ancOf:=fun p d hd=>(drawn p d hd).2.1
    edges:=fun i o ho e he hb=>?_
    below:=fun i o k ho hk=>?_
    just:=fun i o k ho hk=>?_
    reads:=fun i o ho t ht u q hq hd=>?_
    guard:=fun i o g ho hg=>?_
    pair:=fun p q x y hlt hx hy=>?_
    dst:=fun i j o q t ho hq h1 h2=>?_
    light:=fun p d o hd ho hl=>(drawn p d hd).2.2.1 o ho hl
    alloc:=fun p d o hd ho hl=>(drawn p d hd).2.2.2 o ho hl}⟩
  · rw[List.all_eq_true]at h5
    have:=h5 i (by rw[zH];simpa using hi)
    rw[List.any_eq_true]at this
    obtain⟨d,hd,he⟩:=this
    obtain⟨p,hp⟩:=List.getElem?_of_mem hd
    exact⟨p,d,hp,Nat.eq_of_beq_eq_true he⟩
  · have:=(each i o ho).1
    unfold ancB at this
    simp only[Bool.and_eq_true,List.all_eq_true]at this
    have:=this.1.1 e he
    rw[hb]at this
    simp only[Bool.not_true,Bool.false_or,Bool.and_eq_true]at this
    exact⟨by simpa[Nat.blt_eq]using this.1,this.2⟩
  · have:=(each i o ho).1
    unfold ancB at this
    simp only[Bool.and_eq_true,List.all_eq_true]at this
    obtain⟨⟨_,_⟩,g3⟩:=this
    have hlt:anc i<2 ^ i:=by simpa[Nat.blt_eq]using g3
    rcases Nat.lt_or_ge k i with hh|hh
    · exact hh
    · rw[Nat.testBit_lt_two_pow (Nat.lt_of_lt_of_le hlt (Nat.pow_le_pow_right O hh))]at hk;cases hk
  · have:=(each i o ho).1
    unfold ancB at this
    simp only[Bool.and_eq_true,List.all_eq_true]at this
    obtain⟨⟨_,g2⟩,g3⟩:=this
    have hlt:anc i<2 ^ i:=by simpa[Nat.blt_eq]using g3
    have hki:k<i:=by
      rcases Nat.lt_or_ge k i with hh|hh
      · exact hh
      · rw[Nat.testBit_lt_two_pow (Nat.lt_of_lt_of_le hlt (Nat.pow_le_pow_right O hh))]at hk;cases hk
    have:=g2 k (by simpa using hki)
    rw[hk]at this
    simp only[Bool.not_true,Bool.false_or,List.any_eq_true,Bool.and_eq_true,Bool.or_eq_true]at this
    obtain⟨e,he,hb,hor⟩:=this
    refine⟨e,he,hb,?_⟩
    rcases hor with hh|hh
    · exact .inl (Nat.eq_of_beq_eq_true hh)
    · right
      split at hh
      · rename_i q hq;rw[←ancAt _ _ hq];exact hh
      · cases hh
  · have:=(each i o ho).2
    unfold readsB at this
    simp only[Bool.and_eq_true,List.all_eq_true]at this
    have:=this.1 _ ht
    simp only[List.all_eq_true]at this
    have:=this (q,u) (by rw[List.mem_zipIdx_iff_getElem?];simpa using hq)
    simp only[hd]at this
    have hb:Nat.beq t t=true:=by simp
    simp only[hb,Bool.not_true,Bool.false_or,Bool.or_eq_true,Bool.and_eq_true,Bool.not_eq_true']at this
    rcases this with hh|⟨hl,hh⟩
    · exact .inl hh
    · right
      refine⟨hl,?_⟩
      rcases hh with hh|hh
      · exact .inl (Nat.eq_of_beq_eq_true hh)
      · right
        split at hh
        · rename_i m hm;rw[←ancAt _ _ hm];exact hh
        · cases hh
  · have:=(each i o ho).2
    unfold readsB at this
    simp only[Bool.and_eq_true]at this
    rw[hg]at this
    exact this.2
  · have hpr:=pairsB_spec l h6 p q x y hlt hx hy
    unfold pairB at hpr
    have hax:=(drawn p x hx).2.1
    have hay:=(drawn q y hy).2.1
    simp only[Bool.and_eq_true,Bool.not_eq_true',Bool.or_eq_true]at hpr
    obtain⟨⟨g1,g2⟩,g3⟩:=hpr
    rw[hax]at g2
    have hne:x.ix≠y.ix:=fun e=>by rw[e]at g1;simp at g1
    refine⟨hne,g2,fun hun=>?_⟩
    have hbs:besideB x y=true:=by
      unfold besideB
      simp[g1,hax,hay,g2,hun]
    rcases g3 with g3|⟨g3,g4⟩
    · rw[hbs]at g3;cases g3
    · refine⟨g3,fun hw=>?_⟩
      rcases g4 with g4|⟨g4,g5⟩
      · rw[hw]at g4;cases g4
      · refine⟨by simpa using g4,fun o ho hl=>?_⟩
        have:zM ops.toList x.ix=some o:=by rw[zC];simpa using ho
        rw[this]at g5
        simp only[Bool.or_eq_true,Bool.not_eq_true',Bool.or_eq_false_iff,List.any_eq_true]at g5
        rcases g5 with⟨g5,g6⟩|⟨k,hk,hh⟩
        · rcases hl with hl|hl
          · rw[hl]at g5;cases g5
          · rw[hl]at g6;cases g6
        · rw[Nat.eq_of_beq_eq_true hh];exact hk
  · refine distinctB_spec _ h7 i j t ?_ ?_
    · simp[ho,h1]
    · simp[hq,h2]
section
variable{P:Program}{call:FuncId→Array Value→St→CallOut}
structure Chain(P:Program)(call:FuncId→Array Value→St→CallOut)(ops:Array Oper)(l:List Drawn)(N:Nat)(A:Nat→Fr)(S:Nat→St):Prop where
  le:N≤l.length
  step:∀p,p<N→∃d o,l[p]? = some d∧ops[d.ix]? = some o∧yd P call ops.toList d o (A p) (S p)=.normal (A (p+1)) (S (p+1))
theorem chain_of{ops:Array Oper}:∀(l:List Drawn) (a:Fr) (s:St),drawM P call ops.toList l a s≠.stuck→∃N A S,A 0=a∧S 0=s∧Chain P call ops l N A S ∧
    ((N=l.length∧drawM P call ops.toList l a s=.normal (A N) (S N)) ∨
     ∃d o c a₁ s₁,l[N]? = some d∧ops[d.ix]? = some o∧yd P call ops.toList d o (A N) (S N)=.panic c a₁ s₁∧drawM P call ops.toList l a s=.panic c a₁ s₁)
  | [],a,s,_=>⟨0,fun _=>a,fun _=>s,rfl,rfl,⟨Nat.le_refl _,fun p hp=>by omega⟩,.inl ⟨rfl,rfl⟩⟩
  |d::l,a,s,hne=>by
    unfold drawM at hne ⊢
    cases ho:zM ops.toList d.ix with
    |none=>rw[ho]at hne;exact(hne rfl).elim
    |some o=>
      rw[ho]at hne
      simp only at hne ⊢
      have ho':ops[d.ix]? = some o:=by rw[zC]at ho;simpa using ho
      cases hr:yd P call ops.toList d o a s with
      |stuck=>rw[hr]at hne;exact(hne rfl).elim
      |exit id a₁ s₁=>
        exfalso
        unfold yd at hr
        (repeat' split at hr)<;>cases hr
      |ret a₁ s₁=>
        exfalso
        unfold yd at hr
        (repeat' split at hr)<;>cases hr
      |panic c a₁ s₁=>
        exact⟨0,fun _=>a,fun _=>s,rfl,rfl,⟨Nat.zero_le _,fun p hp=>by omega⟩,.inr ⟨d,o,c,a₁,s₁,rfl,ho',hr,rfl⟩⟩
      |normal a₁ s₁=>
        rw[hr]at hne
        simp only at hne ⊢
        obtain⟨N,A,S,hA,hS,hch,hend⟩:=chain_of l a₁ s₁ hne
        refine⟨N+1,fun p=>match p with|0=>a|q+1=>A q,fun p=>match p with|0=>s|q+1=>S q,rfl,rfl,⟨by simp;exact hch.le,fun p hp=>?_⟩,?_⟩
        · cases p with
          |zero=>exact⟨d,o,rfl,ho',by rw[hr];simp only[hA,hS]⟩
          |succ p=>
            obtain⟨d',o',g1,g2,g3⟩:=hch.step p O
            exact⟨d',o',by simpa using g1,g2,g3⟩
        · rcases hend with⟨g1,g2⟩|⟨d',o',c,a₂,s₂,g1,g2,g3,g4⟩
          · exact .inl ⟨by simp[g1],g2⟩
          · exact .inr ⟨d',o',c,a₂,s₂,by simpa using g1,g2,g3,g4⟩
theorem drawOp_frame{ops:List Oper}{d:Drawn}{o:Oper}{a a₁:Fr}{s s₁:St}(h:yd P call ops d o a s=.normal a₁ s₁):∃v,a₁=a.put o.dst v:=by
  unfold yd at h
  split at h
  · split at h
    · split at h
      · rename_i a' s' hr
        split at h
        · cases h;exact(opM_frame.1 _ _ hr)
        · cases h
      · cases h
    · split at h
      · rename_i a' s' hr;cases h;exact(opM_frame.1 _ _ hr)
      · cases h
      · cases h
    · split at h
      · rename_i a' s' hr;cases h;exact(opM_frame.1 _ _ hr)
      · cases h
    · split at h
      · rename_i a' s' hr
        split at h
        · split at h
          · cases h;exact(opM_frame.1 _ _ hr)
          · cases h
        · cases h
      · cases h
  · cases h;exact⟨_,rfl⟩
theorem drawOp_new{ops:List Oper}{d:Drawn}{o:Oper}{a a₁:Fr}{s s₁:St}(h:yd P call ops d o a s=.normal a₁ s₁)(hw:yT ops a o=true)(hh:d.how=.new) :
    ∃s' ob,opM P call o a {next:=s.next,bar:=s.next,prot:=[],heap:=.nil}=.normal a₁ s'∧s'.next=s.next+1∧s.room=true∧yK a₁ o=some s.next∧s'.get s.next=some ob∧s₁=s.new ob:=by
  unfold yd at h
  rw[hw,hh]at h
  simp only at h
  split at h
  · rename_i a' s' hr
    split at h
    · rename_i b ob hn hb hg
      split at h
      · rename_i hbn
        cases h
        rw[Bool.and_eq_true]at hn
        rw[Nat.eq_of_beq_eq_true hbn]at hb
        exact⟨s',ob,hr,Nat.eq_of_beq_eq_true hn.1,hn.2,hb,hg,rfl⟩
      · cases h
    · cases h
  · cases h
theorem put_size(a:Fr)(dst:Option Tmp)(v:Value):(a.put dst v).size=a.size:=by
  unfold Fr.put
  (repeat' split)<;>rfl
theorem put_other{a:Fr}(hs:a.size≤65534){dst:Option Tmp}{v:Value}{t:Nat}(h:dst≠some t):(a.put dst v).get t=a.get t:=by
  unfold Fr.put
  split
  · rename_i d
    split
    · rename_i hlt
      change Nat at d
      have hlt:d<a.size:=by simpa[Nat.blt_eq]using hlt
      unfold Fr.get
      rw [Tr.get_put fdepth _ _ _ _ (by have : (2 : Nat) ^ fdepth = 65536 := by decide
                                        omega),if_neg (fun e=>h (by rw[e]))]
    · rfl
  · rfl
variable{ops:Array Oper}{l:List Drawn}{N:Nat}{A:Nat→Fr}{S:Nat→St}
theorem Chain.size(h:Chain P call ops l N A S):∀p,p≤N→(A p).size=(A 0).size
  |0,_=>rfl
  |p+1,hp=>by
    obtain⟨d,o,_,_,hr⟩:=h.step p O
    obtain⟨v,hv⟩:=drawOp_frame hr
    rw[hv,put_size,Chain.size h p O]
theorem Chain.keepsSlot(h:Chain P call ops l N A S)(hs:(A 0).size≤65534)(t:Nat)(p:Nat):∀q,p≤q→q≤N →
    (∀r d o,p≤r→r<q→l[r]? = some d→ops[d.ix]? = some o→o.dst≠some t)→(A q).get t=(A p).get t:=by
  intro q
  induction q with
  | zero => intro hpq _ _; have : p = 0 := by omega
            subst this;rfl
  |succ q ih=>
    intro hpq hq hno
    by_cases he:p=q+1
    · subst he;rfl
    · obtain⟨d,o,h1,h2,hr⟩:=h.step q O
      obtain⟨v,hv⟩:=drawOp_frame hr
      rw[hv,put_other (by rw[Chain.size h q O];exact hs) (hno q d o O O h1 h2)]
      exact ih O O fun r d o hr1 hr2=>hno r d o hr1 O
theorem Chain.kp(h:Chain P call ops l N A S)(hk:∀f args s,WF s→(call f args s).keeps s)(h0:WF (S 0)):∀q,q≤N→Kp (S 0) (S q)
  |0,_=>Kp.refl h0
  |q+1,hq=>by
    have ih:=Chain.kp h hk h0 q O
    obtain⟨d,o,_,_,hr⟩:=h.step q O
    have:=drawOp_keeps (P:=P) hk ih.wf ops.toList d o (A q)
    rw[hr]at this
    exact ih.trans this
theorem Chain.kp2(h:Chain P call ops l N A S)(hk:∀f args s,WF s→(call f args s).keeps s)(h0:WF (S 0))(p:Nat):∀q,p≤q→q≤N→Kp (S p) (S q):=by
  intro q
  induction q with
  | zero => intro hpq _; have : p = 0 := by omega
            subst this;exact Kp.refl h0
  |succ q ih=>
    intro hpq hq
    by_cases he:p=q+1
    · subst he;exact Kp.refl (h.kp hk h0 _ hq).wf
    · have ih:=ih O O
      obtain⟨d,o,_,_,hr⟩:=h.step q O
      have:=drawOp_keeps (P:=P) hk ih.wf ops.toList d o (A q)
      rw[hr]at this
      exact ih.trans this
theorem drawOp_below(hk:∀f args s,WF s→(call f args s).keeps s){ops:List Oper}{d:Drawn}{o:Oper}{a a₁:Fr}{s s₁:St}(hwf:WF s)(h:yd P call ops d o a s=.normal a₁ s₁)(hw:howW d.how=false) :
    ∀b,b<s.next→s₁.get b=s.get b:=by
  intro b hb
  unfold yd at h
  split at h
  · split at h
    · split at h
      · split at h
        · cases h;rfl
        · cases h
      · cases h
    · rename_i hh;rw[hh]at hw;cases hw
    · have h0:WF {s with bar:=s.next}:=hwf.of_heap rfl rfl
      have h1:=opM_keeps (P:=P) hk h0 o a
      split at h
      · rename_i a' s' hr
        cases h
        rw[hr]at h1
        have h1:Kp {s with bar:=s.next} s':=h1
        have:=h1.same b hb (by
          unfold St.may
          simp only[Bool.and_eq_false_iff]
          left
          rw[Bool.eq_false_iff]
          intro hh
          have:=Nat.le_of_ble_eq_true hh
          omega)
        exact this
      · cases h
    · split at h
      · split at h
        · rename_i hn _ _
          split at h
          · cases h
            rw[Bool.and_eq_true]at hn
            have:=room_lt hn.2
            rw[St.get_new O,if_neg O]
          · cases h
        · cases h
      · cases h
  · cases h;rfl
theorem drawOp_prot(hk:∀f args s,WF s→(call f args s).keeps s){ops:List Oper}{d:Drawn}{o:Oper}{a a₁:Fr}{s s₁:St}(hwf:WF s)(h:yd P call ops d o a s=.normal a₁ s₁)
    {b:Nat} (hb:b<s.next) (hm:howW d.how=true→b∈yh ops a d.free):s₁.get b=s.get b:=by
  cases hw:howW d.how with
  |false=>exact drawOp_below hk hwf h hw b hb
  |true=>
    have hm:=hm hw
    unfold yd at h
    split at h
    · split at h
      · rename_i hh;rw[hh]at hw;cases hw
      · have h0:WF {s with prot:=yh ops a d.free++s.prot}:=hwf.of_heap rfl rfl
        have h1:=opM_keeps (P:=P) hk h0 o a
        split at h
        · rename_i a' s' hr
          cases h
          rw[hr]at h1
          have h1:Kp {s with prot:=yh ops a d.free++s.prot} s':=h1
          exact h1.same b hb (by
            unfold St.may
            simp only[Bool.and_eq_false_iff,Bool.not_eq_false',List.any_append,Bool.or_eq_true]
            right;left
            rw[List.any_eq_true]
            exact⟨b,hm,by simp⟩)
        · cases h
        · cases h
      · rename_i hh;rw[hh]at hw;cases hw
      · rename_i hh;rw[hh]at hw;cases hw
    · cases h;rfl
end
end Go.M
