/- Operations one behind the other; calls. -/
import Derived.Test.YtocnbjjmmgolfaaGreatA06
import Derived.TacticsIn
set_option linter.unusedSimpArgs false
set_option linter.unusedVariables false
set_option linter.unusedSectionVars false
namespace Go.M
def zho(P:Program)(β:Ren):List PanicEntry→List PanicEntry→Prop
 | [],[]=>True
 |p::l,a::b=>VRel P β p.v a.v∧a.recovered=p.recovered∧a.goexit=p.goexit∧zho P β l b
 |_,_=>False
def Marks(lo:Nat)(β:Ren)(s:St)(w:World):List Deferred→Prop
 | []=>True
 |d::a=>(∃r,d={target:=.collected r,args:= #[]}∧lo≤r∧w.heap[r]? = some (.deferred (some []))∧(∀b m,β b=some m→b<s.next→m.blk≠r)∧∀c∈a,c.target≠.collected r)∧Marks lo β s w a
theorem Marks.ext{P:Program}{lo:Nat}{β β':Ren}{s s':St}{w w':World}(h:Ext P β s w β' s' w')(hf:Free β s s'):∀{i:List Deferred},Marks lo β s w i→Marks lo β' s' w' i
 | [],_=>trivial
 |_::_,⟨⟨r,h1,h0,h2,f,k⟩,l⟩=>by
  have g:r<w.heap.size:=(Array.getElem?_eq_some_iff.1 h2).1
  refine⟨⟨r,h1,h0,?_,fun b m hb c=>?_,k⟩,l.ext h hf⟩
  ·rw[h.out r g fun b m _ hb c _ _=>f b m hb c];exact h2
  ·cases a:β b with
   |some m₀=>
    have e:=h.le b m₀ a
    rw[hb]at e;cases e
    refine f b m a ?_
    rcases cM b s.next with d|d
    ·exact d
    ·have:=hf b d c
     rw[a]at this;cases this
   |none=>
    rcases h.fresh b m hb a with d|⟨b₀,m₀,_,g1,g2,_,_,j⟩
    ·omega
    ·rw[←j];exact f b₀ m₀ g1 g2
theorem Marks.same{lo:Nat}{β:Ren}{s:St}{w w':World}(h:w'.heap=w.heap):∀{a:List Deferred},Marks lo β s w a→Marks lo β s w' a
 | [],_=>trivial
 |_::_,⟨⟨r,h1,h0,h2,b,c⟩,d⟩=>⟨⟨r,h1,h0,by rw[h];exact h2,b,c⟩,d.same h⟩
abbrev FW(ro:Option Nat):Fence:={fn:=fun _=>True,depth:=none,alive:=false,round:=ro}
theorem callsFW{ro:Option Nat}{n:Nat}{P:Program}{f:FuncId}{args:Array Value}{w:World}{R:Ending→World→Prop}:CallsIn (FW ro) n P f args w R↔Calls P f args w R:=callsIn_wide (n:=n)
def OutP(P:Program)(lo:Nat)(β:Ren)(s:St)(w:World):Out→Exit→Act→World→Prop
 | .normal a s',e,a',w'=>e=.normal∧∃β',Ext P β s w β' s' w'∧FRel P β' a a'∧Marks lo β' s' w' a'.defers
 | .exit id a s',e,a',w'=>e=.exit id∧∃β',Ext P β s w β' s' w'∧FRel P β' a a'∧Marks lo β' s' w' a'.defers
 | .ret a s',e,a',w'=>e=.ret∧∃β',Ext P β s w β' s' w'∧FRel P β' a a'∧Marks lo β' s' w' a'.defers
 | .panic chain _ s',e,a',w'=>∃chain' β',e=.panic chain'∧Ext P β s w β' s' w'∧zho P β' chain chain'∧Marks lo β' s' w' a'.defers
 | .stuck,_,_,_=>False
def Out.free(β:Ren)(s:St):Out→Prop
 | .normal _ s' | .exit _ _ s' | .ret _ s' | .panic _ _ s'=>Free β s s'
 | .stuck=>True
def VQ(P:Program)(β:Ren)(s:St)(w:World):CallOut→Ending→World→Prop
 | .ret v s',e,w'=>∃β' v',e=.returned v'∧Ext P β s w β' s' w'∧VRel P β' v v'
 | .panic chain s',e,w'=>∃β' chain',e=.panicked chain'∧Ext P β s w β' s' w'∧zho P β' chain chain'
 | .stuck,_,_=>False
def CallOut.free(β:Ren)(s:St):CallOut→Prop
 | .ret _ s' | .panic _ s'=>Free β s s'
 | .stuck=>True
def Jx(P:Program)(call:FuncId→Array Value→St→CallOut):Prop:=
 (∀f args s,(call f args s).nextLe s) ∧
 (∀f args args' s β w,Nat.ble zu f=false→Rel P β s w→LRel P β args.toList args'.toList→call f args s≠.stuck→(call f args s).free β s→Calls P f args' w (VQ P β s w (call f args s))) ∧
 ∀b args args' s β w m r,Rel P β s w→LRel P β args.toList args'.toList→β b=some m→w.heap[m.blk]? = some (.loop r)→call (zu+b) args s≠.stuck→(call (zu+b) args s).free β s →
  RoundIn Fence.wide 0 P m.blk r.fn (u6 r args') r.assign r.body w (VQ P β s w (call (zu+b) args s))
theorem Ext.freeOf{P:Program}{β β₁:Ren}{s s₁ s₂:St}{w w₁:World}(h:Ext P β s w β₁ s₁ w₁)(hf:Free β s s₂):Free β₁ s₁ s₂:=fun b l u=>by
 cases hb:β₁ b with
 |none=>rfl
 |some m=>
  have h0:=hf b (bH h.next l) u
  have:=(h.dom b m hb h0).2
  omega
theorem Free.sub{β:Ren}{s s₁ s₂:St}(hf:Free β s s₂)(h:s₁.next≤s₂.next):Free β s s₁:=fun b l u=>hf b l O
theorem OutP.trans{P:Program}{lo:Nat}{β β₁:Ren}{s s₁:St}{w w₁:World}(h:Ext P β s w β₁ s₁ w₁){r:Out}(hf:r.free β s){e:Exit}{a':Act}{w':World}(d:OutP P lo β₁ s₁ w₁ r e a' w'):OutP P lo β s w r e a' w':=by
 cases r with
 |normal a s'=>obtain⟨h1,β',h2,b⟩:=d;exact⟨h1,β',h.trans h2 hf,b⟩
 |exit id a s'=>obtain⟨h1,β',h2,b⟩:=d;exact⟨h1,β',h.trans h2 hf,b⟩
 |ret a s'=>obtain⟨h1,β',h2,b⟩:=d;exact⟨h1,β',h.trans h2 hf,b⟩
 |panic c a s'=>obtain⟨c',β',h1,h2,b,f⟩:=d;exact⟨c',β',h1,h.trans h2 hf,b,f⟩
 |stuck=>exact d
theorem Ext.outFree{P:Program}{β β₁:Ren}{s s₁:St}{w w₁:World}(h:Ext P β s w β₁ s₁ w₁){r:Out}(hf:r.free β s):r.free β₁ s₁:=by
 cases r<;>first|exact h.freeOf hf|trivial
theorem wN{a':Act}{dst:Option Tmp}{v':Value}:(a'.put dst v').defers=a'.defers:=by
 unfold Act.put
 split<;>rfl
section
variable{P:Program}{lo:Nat}{call:FuncId→Array Value→St→CallOut}
theorem YC(hc:∀f args s,(call f args s).nextLe s)(o:Oper)(a:Fr)(s:St):(opM P call o a s).nextLe s:=by
 unfold opM
 have h:=Kq (P:=P) (s:=s) a.eval o.op
 cases hs:zh P a.eval o.op s with
 |stuck=>trivial
 |panic v s'=>rw[hs]at h;exact h
 |ok n s'=>
  rw[hs]at h
  cases n<;>simp only[]<;>first|exact h|trivial|skip
  ·rename_i f args
   have h2:=hc f args s'
   split
   ·trivial
   ·cases e:call f args s' with
    |ret v d=>rw[e]at h2;exact bH h h2
    |panic c d=>rw[e]at h2;exact bH h h2
    |stuck=>trivial
  ·rename_i b _ args _ _
   have h2:=hc (zu+b) args s'
   cases e:call (zu+b) args s' with
   |ret v d=>rw[e]at h2;exact bH h h2
   |panic c d=>rw[e]at h2;exact bH h h2
   |stuck=>trivial
theorem wA(hc:Jx P call){o:Oper}{a:Fr}{a':Act}{s:St}{β:Ren}{w:World}(h:Rel P β s w)(hρ:∀x∈o.op.operands.toList,VRel P β (a.eval x) (a'.eval x))
 (i:opM P call o a s≠.stuck) (d:(opM P call o a s).free β s) (K:Act→World→Prop) (Q:Exit→Act→World→Prop)
 (p:∀v v' s' β' w',opM P call o a s=.normal (a.put o.dst v) s'→Ext P β s w β' s' w'→VRel P β' v v'→K (a'.put o.dst v') w')
 (q:∀chain chain' s' β' w',opM P call o a s=.panic chain a s'→Ext P β s w β' s' w'→zho P β' chain chain'→Q (.panic chain') a' w') (ro:Option Nat):o.wpIn (FW ro) 0 P a' w K Q:=by
 have hs:=zea h (ρ:=a.eval) (ρ':=a'.eval) o hρ
 unfold Oper.wpIn
 refine⟨fun _ _=>trivial,?_⟩
 have B:∀c,o.op≠.defer c:=fun c C=>by
  apply i
  unfold opM
  rw[C]
  rfl
 rw[Oper.semAt_eq _ _ _ B]
 unfold opM at i d p q
 cases y:zh P a.eval o.op s with
 |stuck=>rw[y]at i;exact(i rfl).elim
 |panic v s'=>
  rw[y]at hs d q
  obtain⟨β',w',v',h1,h2,u⟩:=hs d
  rw[h1]
  exact q _ [{v:=v',recovered:=false}] s' β' w' rfl h2 ⟨u,rfl,rfl,trivial⟩
 |ok n s₁=>
  have A:=Kq (P:=P) (s:=s) a.eval o.op
  rw[y]at hs i d p q A
  cases n with
  |value v=>
   obtain⟨β',w',z,h1,h2,v',rfl,u⟩:=hs d
   rw[h1]
   exact p v v' s₁ β' w' rfl h2 u
  |skip=>
   obtain⟨β',w',z,h1,h2,rfl⟩:=hs d
   rw[h1]
   exact p undef undef s₁ β' w' rfl h2 wn
  |enter f args=>
   have j:=hc.1 f args s₁
   simp only at i d p q
   cases t:Nat.ble zu f with
   |true=>rw[t]at i;exact(i rfl).elim
   |false=>
   rw[t]at i d p q
   simp only at i d p q
   cases k:call f args s₁ with
   |stuck=>rw[k]at i;exact(i rfl).elim
   |ret v s₂=>
    rw[k]at d p j
    simp only at d p
    obtain⟨β',w',z,h1,h2,args',rfl,u⟩:=hs (d.sub j)
    rw[h1]
    have g:=hc.2.1 f args args' s₁ β' w' t h2.rel u (by rw[k];simp) (by rw[k];exact h2.freeOf d)
    rw[k]at g
    refine⟨nofun,?_⟩
    refine(callsFW.2 g).mono fun e l ⟨β'',v',he,hx,hv⟩=>by
     subst he
     exact p v v' s₂ β'' l rfl (h2.trans hx d) hv
   |panic c s₂=>
    rw[k]at d q j
    simp only at d q
    obtain⟨β',w',z,h1,h2,args',rfl,u⟩:=hs (d.sub j)
    rw[h1]
    have g:=hc.2.1 f args args' s₁ β' w' t h2.rel u (by rw[k];simp) (by rw[k];exact h2.freeOf d)
    rw[k]at g
    refine⟨nofun,?_⟩
    refine(callsFW.2 g).mono fun e l ⟨β'',c',he,hx,hv⟩=>by
     subst he
     exact q c c' s₂ β'' l rfl (h2.trans hx d) hv
  |round b f0 args x0 y0=>
   have j:=hc.1 (zu+b) args s₁
   simp only at i d p q
   cases k:call (zu+b) args s₁ with
   |stuck=>rw[k]at i;exact(i rfl).elim
   |ret v s₂=>
    rw[k]at d p j
    simp only at d p
    obtain⟨β',w',z,h1,h2,m,r,args',hb,hg,rfl,u⟩:=hs (d.sub j)
    rw[h1]
    have g:=hc.2.2 b args args' s₁ β' w' m r h2.rel u hb hg (by rw[k];simp) (by rw[k];exact h2.freeOf d)
    rw[k]at g
    refine⟨nofun,?_⟩
    refine RoundIn.mono (F:=FW ro) g fun e l ⟨β'',v',he,hx,hv⟩=>by
     subst he
     exact p v v' s₂ β'' l rfl (h2.trans hx d) hv
   |panic c s₂=>
    rw[k]at d q j
    simp only at d q
    obtain⟨β',w',z,h1,h2,m,r,args',hb,hg,rfl,u⟩:=hs (d.sub j)
    rw[h1]
    have g:=hc.2.2 b args args' s₁ β' w' m r h2.rel u hb hg (by rw[k];simp) (by rw[k];exact h2.freeOf d)
    rw[k]at g
    refine⟨nofun,?_⟩
    refine RoundIn.mono (F:=FW ro) g fun e l ⟨β'',c',he,hx,hv⟩=>by
     subst he
     exact q c c' s₂ β'' l rfl (h2.trans hx d) hv
  |_=>exact(i rfl).elim
theorem opM_frame{o:Oper}{a:Fr}{s:St}:(∀a₁ s₁,opM P call o a s=.normal a₁ s₁→∃v,a₁=a.put o.dst v)∧(∀c a₁ s₁,opM P call o a s=.panic c a₁ s₁→a₁=a) ∧
 (∀id a₁ s₁,opM P call o a s≠.exit id a₁ s₁)∧(∀a₁ s₁,opM P call o a s≠.ret a₁ s₁):=by
 unfold opM
 cases zh P a.eval o.op s with
 |stuck=>simp
 |panic v s'=>simp
 |ok n s'=>
  cases n with
  |value v=>exact⟨fun a₁ s₁ h=>by cases h;exact⟨v,rfl⟩,by simp,by simp,by simp⟩
  |skip=>exact⟨fun a₁ s₁ h=>by cases h;exact⟨undef,rfl⟩,by simp,by simp,by simp⟩
  |enter f args=>
   simp only
   split
   ·simp
   ·cases call f args s' with
    |ret v d=>exact⟨fun a₁ s₁ h=>by cases h;exact⟨v,rfl⟩,by simp,by simp,by simp⟩
    |panic c d=>simp
    |stuck=>simp
  |round b f0 args x0 y0=>
   simp only
   cases call (zu+b) args s' with
   |ret v d=>exact⟨fun a₁ s₁ h=>by cases h;exact⟨v,rfl⟩,by simp,by simp,by simp⟩
   |panic c d=>simp
   |stuck=>simp
  |_=>simp
theorem gW(hc:∀f args s,(call f args s).nextLe s)(ops:List Oper):∀(l:List Oper) (a:Fr) (s:St),(YB P call ops l a s).nextLe s
 | [],a,s=>aO _
 |o::l,a,s=>by
  unfold YB
  split
  ·have h1:=YC (P:=P) hc o a s
   cases b:opM P call o a s with
   |normal a₁ s₁=>
    rw[b]at h1
    have h2:=gW hc ops l a₁ s₁
    simp only
    cases d:YB P call ops l a₁ s₁<;>rw[d]at h2<;>first|exact bH h1 h2|trivial
   |exit id a₁ s₁=>rw[b]at h1;exact h1
   |ret a₁ s₁=>rw[b]at h1;exact h1
   |panic c a₁ s₁=>rw[b]at h1;exact h1
   |stuck=>trivial
  ·exact gW hc ops l _ s
theorem Out.free_of{β:Ren}{s s₁:St}{r:Out}(h:r.nextLe s₁)(hf:r.free β s)(b:r≠.stuck):Free β s s₁:=by
 cases r with
 |stuck=>exact(b rfl).elim
 |normal a s'=>exact hf.sub h
 |exit id a s'=>exact hf.sub h
 |ret a s'=>exact hf.sub h
 |panic c a s'=>exact hf.sub h
theorem Xj(hc:Jx P call)(ro:Option Nat)(ops:Array Oper):∀(l:List Oper),(∀o∈l,o.op.operands.toList.all kZ=true)→∀(a:Fr) (a':Act) (s:St) (β:Ren) (w:World),Rel P β s w→FRel P β a a'→Marks lo β s w a'.defers →
 YB P call ops.toList l a s≠.stuck→(YB P call ops.toList l a s).free β s→∀Q:Exit→Act→World→Prop,(∀e a₂ w₂,OutP P lo β s w (YB P call ops.toList l a s) e a₂ w₂→Q e a₂ w₂) →
 wpListIn (FW ro) 0 P ops Q l a' w
 | [],_,a,a',s,β,w,h,hf,m,_,_,Q,f=>f _ _ _ ⟨rfl,β,Ext.refl h,hf,m⟩
 |o::l,j,a,a',s,β,w,h,hf,m,d,b,Q,f=>by
  unfold wpListIn
  unfold YB at d b f
  rw[←wanted_eq hf ops o]
  cases t:qc ops.toList a o with
  |false=>
   rw[t]at d b f
   simp only at d b f
   simp only[aX,cK]
   exact⟨fun _ _=>trivial,Xj hc ro ops l (fun o' n=>j o' (by simp[n])) _ _ s β w h (hf.put o.dst wn) (by rw[wN];exact m) d b Q f⟩
  |true=>
   rw[t]at d b f
   simp only at d b f
   simp only[dP]
   have i:=j o Y8
   rw[List.all_eq_true]at i
   have hρ:∀x∈o.op.operands.toList,VRel P β (a.eval x) (a'.eval x):=fun x hx=>hf.eval (i x hx)
   have q:=YC (P:=P) hc.1 o a s
   obtain⟨fr1,fr2,fr3,fr4⟩:=opM_frame (P:=P) (call:=call) (o:=o) (a:=a) (s:=s)
   cases g:opM P call o a s with
   |stuck=>rw[g]at d;exact(d rfl).elim
   |exit id a₁ s₁=>exact(fr3 _ _ _ g).elim
   |ret a₁ s₁=>exact(fr4 _ _ g).elim
   |panic c a₁ s₁=>
    rw[g]at b f
    simp only at b f
    have:=fr2 _ _ _ g
    subst this
    refine wA hc h hρ (by rw[g];simp) (by rw[g];exact b) _ Q (fun v v' s' β' w' e=>by rw[g]at e;cases e) (fun chain chain' s' β' w' e hx p=>?_) ro
    rw[g]at e
    cases e
    exact f _ _ _ ⟨chain',β',rfl,hx,p,m.ext hx b⟩
   |normal a₁ s₁=>
    rw[g]at b f d q
    simp only at b f d
    have r:=gW (P:=P) hc.1 ops.toList l a₁ s₁
    have k:=Out.free_of r b d
    refine wA hc h hρ (by rw[g];simp) (by rw[g];exact k) _ Q (fun v v' s' β' w' e hx hv=>?_) (fun chain chain' s' β' w' e=>by rw[g]at e;cases e) ro
    rw[g]at e
    simp only[Out.normal.injEq]at e
    obtain⟨rfl,rfl⟩:=e
    exact Xj hc ro ops l (fun o' n=>j o' (by simp[n])) _ _ s₁ β' w' hx.rel ((hf.mono hx.le).put o.dst hv) (by rw[wN];exact m.ext hx k) d (hx.outFree b) Q
     fun e a₂ w₂ ho=>f e a₂ w₂ (ho.trans hx b)
end
structure WF(s:St):Prop where
 room:s.next≤281474976710655
 top:∀b,s.next≤b→s.get b=none
structure Kp(s s':St):Prop where
 wf:WF s'
 next:s.next≤s'.next
 bar:s'.bar=s.bar
 prot:s'.prot=s.prot
 same:∀b,b<s.next→s.may b=false→s'.get b=s.get b
 dead:∀b,b<s.next→s.get b=none→s'.get b=none
def Res.keeps{α:Type}(s:St):Res α→Prop
 | .ok _ s' | .panic _ s'=>Kp s s'
 | .stuck=>True
def Out.keeps(s:St):Out→Prop
 | .normal _ s' | .exit _ _ s' | .ret _ s' | .panic _ _ s'=>Kp s s'
 | .stuck=>True
def CallOut.keeps(s:St):CallOut→Prop
 | .ret _ s' | .panic _ s'=>Kp s s'
 | .stuck=>True
theorem Kp.refl{s:St}(h:WF s):Kp s s:=⟨h,aO _,rfl,rfl,fun _ _ _=>rfl,fun _ _ h=>h⟩
theorem Kp.trans{s s₁ s₂:St}(h:Kp s s₁)(a:Kp s₁ s₂):Kp s s₂ where
 wf:=a.wf
 next:=bH h.next a.next
 bar:=a.bar.trans h.bar
 prot:=a.prot.trans h.prot
 same:=fun b hb c=>by
  rw[a.same b (bJ hb h.next) (by rw[St.may_eq h.bar h.prot];exact c),h.same b hb c]
 dead:=fun b hb hg=>a.dead b (bJ hb h.next) (h.dead b hb hg)
theorem WF.lt{s:St}(h:WF s){b:Nat}{o:MObj}(hg:s.get b=some o):b<s.next:=
 eD fun hc=>by rw[h.top b O]at hg;cases hg
theorem Kp.put{s:St}(h:WF s){b:Nat}{o:MObj}(hg:s.get b=some o)(f:s.may b=true)(o':Option MObj):Kp s (s.put b o'):=by
 have hlt:=h.lt hg
 have hr:=h.room
 have d:=fun b'=>St.get_put (s:=s) (b:=b) O o' b'
 refine⟨⟨h.room,fun b' a=>?_⟩,aO _,rfl,rfl,fun b' a c=>?_,fun b' a hd=>?_⟩
 ·simp at a;rw[d,aD O];exact h.top b' a
 ·rw[d,aD (fun e=>by rw[e,f]at c;cases c)]
 ·rw[d,aD (fun e=>by rw[e,hg]at hd;cases hd)];exact hd
theorem Kp.new{s:St}(h:WF s)(b:s.room=true)(o:MObj):Kp s (s.new o):=by
 have hr:=wh b
 have c:=fun b'=>St.get_new (s:=s) O o b'
 refine⟨⟨by simp;omega,fun b' a=>?_⟩,by simp,rfl,rfl,fun b' a hm'=>?_,fun b' a hd=>?_⟩
 ·simp at a;rw[c,aD O];exact h.top b' O
 ·rw[c,aD O]
 ·rw[c,aD O];exact hd
section
variable{P:Program}{s:St}
theorem yn(h:WF s){v:Value}:(okV v s).keeps s:=Kp.refl h
theorem zo{α:Type}:(Res.stuck:Res α).keeps s:=trivial
theorem uY{x:Sem Value}(hx:Scalar x)(h:WF s):((kY P x s).map Next.value).keeps s:=by
 cases hx with
 |val hv=>exact Kp.refl h
 |err m=>exact Kp.refl h
 |stuck m=>trivial
 |unsupported u=>trivial
theorem jV(h:WF s){b off:Nat}{vs:List Value}:(xy b off vs s).keeps s:=by
 unfold xy
 split
 ·rename_i c e hg
  split
  ·rename_i c' a _
   simp only[aG]at a
   exact Kp.put h hg a.2 _
  ·split
   ·exact Kp.refl h
   ·exact zo
 ·exact zo
theorem Wv(h:WF s){b off:Nat}{vs:List Value}{n:Next}{s':St}(a:xy b off vs s=.ok n s'):Kp s s':=by
 have:=jV h (b:=b) (off:=off) (vs:=vs)
 rw[a]at this
 exact this
theorem zet(h:WF s){e:TypeId}{c:List Value}{n:Nat}:(uK e c n s).keeps s:=by
 unfold uK
 split
 ·rename_i a;exact Kp.new h a _
 ·exact zo
theorem K0(h:WF s){e:TypeId}{c:List Value}{n k:Nat}:(newK e c n k s).keeps s:=by
 unfold newK
 split
 ·rename_i a;exact Kp.new h a _
 ·exact zo
theorem VK(h:WF s){e:TypeId}{c:List Value}:(XH e c s).keeps s:=by
 unfold XH
 split
 ·rename_i a;exact Kp.new h a _
 ·exact zo
theorem JS(h:WF s){sz:Nat}{a:Option Addr}{len c:Nat}{known:Bool}{lo hi mx:Option Value}:(xU sz a len c known lo hi mx s).keeps s:=by
 unfold xU
 (repeat' split)<;>first|exact zo|exact yn h
theorem eqM_keeps(h:WF s){op:BinOp}{t:TypeId}{x y:Value}:(eqM P op t x y s).keeps s:=by
 unfold eqM
 (repeat' split)<;>first|exact zo|exact yn h
theorem zeF(h:WF s){op:BinOp}{t:TypeId}{k k':IntKind}{a b:Int}:(qY P op t k k' a b s).keeps s:=by
 unfold qY
 (repeat' split)<;>first|exact yn h|exact uY (ZG op t _ _ a b) h
theorem Res.keeps_trans{α:Type}{s₁:St}{r:Res α}(h:Kp s s₁)(b:r.keeps s₁):r.keeps s:=by
 cases r with
 |ok a s'=>exact h.trans b
 |panic v s'=>exact h.trans b
 |stuck=>trivial
theorem zcC(h:WF s){e:TypeId}{a:Option Addr}{cap need:Nat}{c:List Value}(b:wg e a cap s=true):(Zv e a cap need c s).keeps s:=by
 unfold Zv
 split
 ·rename_i s' hk
  have d:Kp s s':=by
   unfold X0 at hk
   split at hk
   ·cases hk;exact Kp.refl h
   ·rename_i g
    split at hk
    ·rename_i a
     split at hk
     ·rename_i f
      cases hk
      unfold wg at b
      split at b
      ·rename_i h0;exact(g h0).elim
      ·simp only at b
       split at b
       ·rename_i cc e' hg
        exact Kp.put h hg f _
       ·cases b
     ·cases hk
    ·cases hk
  exact Res.keeps_trans d (zet d.wf)
 ·exact zo
theorem Wk(h:WF s){e:TypeId}{inf:TypeInfo}{base:Option Addr}{sLen cap n:Nat}{new:List Value}:(qg e inf base sLen cap n new s).keeps s:=by
 unfold qg
 split
 ·split
  ·rename_i b off
   split
   ·rename_i nx s' a
    have:=jV h (b:=b) (off:=off+sLen*inf.size) (vs:=new)
    rw[a]at this
    exact this
   ·exact zo
  ·split
   ·exact yn h
   ·exact zo
 ·split
  ·rename_i old hb _
   simp only[aG]at hb
   exact zcC h hb.2
  ·exact zo
theorem Wl(h:WF s){ts:List TypeId}{args:List Value}:(xd P ts args s).keeps s:=by
 unfold xd
 (repeat' split)<;>first|exact zo|exact Wk h
theorem zcX(h:WF s){ts:List TypeId}{args:List Value}:(Qf P ts args s).keeps s:=by
 unfold Qf
 repeat' split
 all_goals first
  |exact zo
  |(rename_i a;exact Wv h a)
theorem VI(h:WF s){b:Builtin}{ts:List TypeId}{args:List Value}:(xp P b ts args s).keeps s:=by
 unfold xp
 split
 ·exact Wl h
 ·unfold capM;(repeat' split)<;>first|exact zo|exact yn h
 ·unfold Vc;(repeat' split)<;>first|exact zo|exact yn h
 ·unfold minM;(repeat' split)<;>first|exact zo|exact yn h
 ·unfold maxM;(repeat' split)<;>first|exact zo|exact yn h
 ·exact zcX h
 ·unfold Z6;(repeat' split)<;>first|exact zo|exact yn h|(rename_i a;exact Wv h a)
 ·exact zo
theorem zbw(h:WF s)(ρ:Operand→Value)(o:Op):(zh P ρ o s).keeps s:=by
 cases o with
 |move x=>exact yn h
 |assign x=>exact yn h
 |pick c a b=>simp only[zh];unfold YA;(repeat' split)<;>first|exact zo|exact yn h
 |load t a=>simp only[zh];unfold uF;(repeat' split)<;>first|exact zo|exact yn h
 |store t a v=>simp only[zh];unfold Xb;(repeat' split)<;>first|exact zo|exact jV h
 |box e x=>exact VK h
 |alloc e=>simp only[zh];unfold wW gM;(repeat' split)<;>first|exact zo|exact VK h
 |fieldAddr t x f=>simp only[zh];unfold jj;(repeat' split)<;>first|exact zo|exact yn h
 |indexAddr t x i=>simp only[zh];unfold kU xn;(repeat' split)<;>first|exact zo|exact yn h
 |binOp op t x y yt=>simp only[zh];unfold qO;(repeat' split)<;>first|exact zeF h|exact uY (scalar_string _ _ _ _) h|exact eqM_keeps h
 |unOp op t x=>simp only[zh];unfold unM;(repeat' split)<;>first|exact zo|exact yn h|exact uY (Yx _ _ _) h
 |extract x i=>simp only[zh];unfold vB;(repeat' split)<;>first|exact zo|exact yn h
 |nilCheck x=>simp only[zh];unfold KX;(repeat' split)<;>first|exact zo|exact yn h
 |sliceToArrayPointer t x=>simp only[zh];unfold arrM;(repeat' split)<;>first|exact zo|exact yn h
 |convert src dst x=>simp only[zh];unfold vC;(repeat' split)<;>first|exact zo|exact yn h
 |makeFunc fn f c=>simp only[zh];(repeat' split)<;>first|exact zo|exact yn h
 |slice t x lo hi mx=>simp only[zh];unfold qk;(repeat' split)<;>first|exact zo|exact JS h
 |field t x f=>simp only[zh];unfold ZT;(repeat' split)<;>first|exact zo|exact yn h
 |index t x i=>simp only[zh];unfold wC;(repeat' split)<;>first|exact zo|exact yn h
 |call c=>
  simp only[zh]
  split
  ·unfold jL;(repeat' split)<;>first|exact zo|exact Kp.refl h
  ·exact VI h
  ·exact zo
 |build t parts=>simp only[zh];unfold wL;(repeat' split)<;>first|exact zo|exact yn h
 |buildSlice t len parts=>simp only[zh];unfold qL;(repeat' split)<;>first|exact zo|exact K0 h
 |makeSlice t l c=>simp only[zh];unfold qN;(repeat' split)<;>first|exact zo|exact K0 h
 |_=>exact zo
theorem CallOut.keeps_trans{s₁:St}{r:CallOut}(h:Kp s s₁)(b:r.keeps s₁):r.keeps s:=by
 cases r with
 |ret a s'=>exact h.trans b
 |panic v s'=>exact h.trans b
 |stuck=>trivial
theorem Out.keeps_trans{s₁:St}{r:Out}(h:Kp s s₁)(b:r.keeps s₁):r.keeps s:=by
 cases r with
 |normal a s'=>exact h.trans b
 |exit id a s'=>exact h.trans b
 |ret a s'=>exact h.trans b
 |panic c a s'=>exact h.trans b
 |stuck=>trivial
variable{call:FuncId→Array Value→St→CallOut}
theorem jB(hc:∀f args s,WF s→(call f args s).keeps s)(h:WF s)(o:Oper)(a:Fr):(opM P call o a s).keeps s:=by
 unfold opM
 have hk:=zbw (P:=P) h a.eval o.op
 cases hs:zh P a.eval o.op s with
 |stuck=>trivial
 |panic v s'=>rw[hs]at hk;exact hk
 |ok n s'=>
  rw[hs]at hk
  cases n<;>simp only[]<;>first|exact hk|trivial|skip
  ·rename_i f args
   have hk:Kp s s':=hk
   have h2:=hc f args s' hk.wf
   split
   ·trivial
   ·cases e:call f args s' with
    |ret v d=>rw[e]at h2;exact hk.trans h2
    |panic c d=>rw[e]at h2;exact hk.trans h2
    |stuck=>trivial
  ·rename_i b _ args _ _
   have hk:Kp s s':=hk
   have h2:=hc (zu+b) args s' hk.wf
   cases e:call (zu+b) args s' with
   |ret v d=>rw[e]at h2;exact hk.trans h2
   |panic c d=>rw[e]at h2;exact hk.trans h2
   |stuck=>trivial
theorem ZH(hc:∀f args s,WF s→(call f args s).keeps s)(ops:List Oper):∀(l:List Oper) (a:Fr) (s:St),WF s→(YB P call ops l a s).keeps s
 | [],a,s,h=>Kp.refl h
 |o::l,a,s,h=>by
  unfold YB
  split
  ·have h1:=jB (P:=P) hc h o a
   cases b:opM P call o a s with
   |normal a₁ s₁=>
    rw[b]at h1
    have h1:Kp s s₁:=h1
    exact Out.keeps_trans h1 (ZH hc ops l a₁ s₁ h1.wf)
   |exit id a₁ s₁=>rw[b]at h1;exact h1
   |ret a₁ s₁=>rw[b]at h1;exact h1
   |panic c a₁ s₁=>rw[b]at h1;exact h1
   |stuck=>trivial
  ·exact ZH hc ops l _ s h
theorem Kp.relax{s s₀ s₁:St}(c:s₀.heap=s.heap)(hn:s₀.next=s.next)(d:∀b,s.may b=false→b<s.next→s₀.may b=false)(h:Kp s₀ s₁) :
 Kp s {next:=s₁.next,bar:=s.bar,prot:=s.prot,heap:=s₁.heap}:=by
 have hg:∀b,s₀.get b=s.get b:=fun b=>by simp only[St.get,c]
 refine⟨⟨h.wf.room,h.wf.top⟩,by have:=h.next;simp only;omega,rfl,rfl,fun b hb a=>?_,fun b hb hd=>?_⟩
 ·have:=h.same b O (d b a hb)
  rw[hg]at this
  exact this
 ·have:=h.dead b O (by rw[hg];exact hd)
  exact this
theorem WF.of_heap{s s₀:St}(h:WF s)(a:s₀.heap=s.heap)(hn:s₀.next=s.next):WF s₀:=
 ⟨by rw[hn];exact h.room,fun b hb=>by
  have:=h.top b O
  simpa only[St.get,a]using this⟩
theorem wj(hc:∀f args s,WF s→(call f args s).keeps s)(h:WF s)(ops:List Oper)(d:Drawn)(o:Oper)(a:Fr):(yS P call ops d o a s).keeps s:=by
 unfold yS
 split
 ·split
  ·split
   ·split
    ·exact Kp.refl h
    ·trivial
   ·trivial
  ·have h0:WF {s with prot:=y9 ops a d.free++s.prot}:=h.of_heap rfl rfl
   have h1:=jB (P:=P) hc h0 o a
   split
   ·rename_i a₁ s' e
    rw[e]at h1
    exact Kp.relax (s:=s) (s₀:={s with prot:=y9 ops a d.free++s.prot}) rfl rfl (fun b hb _=>by
     unfold St.may at hb ⊢
     simp only[eK,eY,List.any_append,dA]at hb ⊢
     rcases hb with hb|hb
     ·exact .inl hb
     ·exact .inr (.inr hb)) h1
   ·rename_i c a₁ s' e
    rw[e]at h1
    exact Kp.relax (s:=s) (s₀:={s with prot:=y9 ops a d.free++s.prot}) rfl rfl (fun b hb _=>by
     unfold St.may at hb ⊢
     simp only[eK,eY,List.any_append,dA]at hb ⊢
     rcases hb with hb|hb
     ·exact .inl hb
     ·exact .inr (.inr hb)) h1
   ·trivial
  ·have h0:WF {s with bar:=s.next}:=h.of_heap rfl rfl
   have h1:=jB (P:=P) hc h0 o a
   split
   ·rename_i a₁ s' e
    rw[e]at h1
    exact Kp.relax (s:=s) (s₀:={s with bar:=s.next}) rfl rfl (fun b _ hb=>by
     unfold St.may
     simp only[eK]
     left
     rw[cL]
     intro g
     have:=aR g
     omega) h1
   ·trivial
  ·split
   ·split
    ·rename_i hn _ _
     split
     ·exact Kp.new h (by rw[aG]at hn;exact hn.2) _
     ·trivial
    ·trivial
   ·trivial
 ·exact Kp.refl h
theorem Qc(hc:∀f args s,WF s→(call f args s).keeps s)(ops:List Oper):∀(l:List Drawn) (a:Fr) (s:St),WF s→(v6 P call ops l a s).keeps s
 | [],a,s,h=>Kp.refl h
 |d::l,a,s,h=>by
  unfold v6
  split
  ·rename_i o _
   have h1:=wj (P:=P) hc h ops d o a
   cases b:yS P call ops d o a s with
   |normal a₁ s₁=>
    rw[b]at h1
    have h1:Kp s s₁:=h1
    exact Out.keeps_trans h1 (Qc hc ops l a₁ s₁ h1.wf)
   |exit id a₁ s₁=>rw[b]at h1;exact h1
   |ret a₁ s₁=>rw[b]at h1;exact h1
   |panic c a₁ s₁=>rw[b]at h1;exact h1
   |stuck=>trivial
  ·trivial
end
inductive Sched(ops:Array Oper):(Nat→Prop)→List Nat→Prop where
 |nil {L:Nat→Prop} (h:∀i,i<ops.size→L i):Sched ops L []
 |cons {L:Nat→Prop} {i:Nat} {rest:List Nat} (hi:i<ops.size) (hn:¬L i) (he:∀o,ops[i]? = some o→∀e∈o.after.toList,Region.binds .any e=true→L e.on)
  (h:Sched ops (fun k=>L k∨k=i) rest):Sched ops L (i::rest)
theorem Jd{p q:Nat→Bool}:∀(l:List Nat),(∀x,q x=true→p x=true)→(∃x∈l,p x=true∧q x=false)→(l.filter q).length<(l.filter p).length
 | [],_,h=>by obtain⟨x,hx,_⟩:=h;simp at hx
 |y::l,a,h=>by
  have le:∀l:List Nat,(l.filter q).length≤(l.filter p).length:=by
   intro l
   induction l with
   |nil=>simp
   |cons z l c=>
    simp only[List.filter_cons]
    cases b:q z with
    |true=>rw[a z b];simp;exact c
    |false=>cases p z<;>simp<;>omega
  obtain⟨x,hx,h1,h2⟩:=h
  simp only[List.filter_cons]
  rcases aL.1 hx with rfl|hx
  ·rw[h1,h2]
   have:=le l
   simp;omega
  ·have c:=Jd l a ⟨x,hx,h1,h2⟩
   cases b:q y with
   |true=>rw[a y b];simp;exact c
   |false=>cases p y<;>simp<;>omega
section
variable(ops:Array Oper)
def wi(listed:Array Bool)(i:Nat):Bool:=
 !listed.getD i true&&((ops[i]?).map (·.after.all fun e=> !Region.binds .any e||listed.getD e.on false)).getD false
theorem zcE(hb:∀i o,ops[i]? = some o→∀e∈o.after.toList,Region.binds .any e=true→e.on<i):∀(fuel t:Nat) (listed:Array Bool) (acc:List Nat),listed.size=ops.size →
 ((List.range ops.size).filter fun i=> !listed.getD i true).length≤fuel →
 ∃rest,Region.linearise.go .any ops fuel t listed acc=acc.reverse++rest∧Sched ops (fun i=>listed.getD i false=true) rest
 |0,t,listed,acc,hs,hc=>by
  refine⟨[],by simp[Region.linearise.go],.nil fun i hi=>?_⟩
  have h0:(List.range ops.size).filter (fun i=> !listed.getD i true)=[]:=dK O
  have:=List.filter_eq_nil_iff.1 h0 i (by simpa using hi)
  simp only[bC,Bool.not_eq_false]at this
  rw[bB]at this ⊢
  rw[Array.getElem?_eq_getElem O]at this ⊢
  exact this
 |fuel+1,t,listed,acc,hs,hc=>by
  have inb:∀i,i<ops.size→∀d,listed.getD i d=listed.getD i false:=fun i hi d=>by
   rw[bB,bB,Array.getElem?_eq_getElem O];rfl
  unfold Region.linearise.go
  have n:((List.range ops.size).filter fun i=> !listed.getD i true&&((ops[i]?).map (·.after.all fun e=> !Region.binds .any e||listed.getD e.on false)).getD false)=(List.range ops.size).filter (wi ops listed):=rfl
  simp only[n]
  cases j:((List.range ops.size).filter (wi ops listed))[t % ((List.range ops.size).filter (wi ops listed)).length]? with
  |none=>
   -- nothing is ready: everything is listed
   have g:(List.range ops.size).filter (wi ops listed)=[]:=by
    cases hl:(List.range ops.size).filter (wi ops listed)with
    |nil=>rfl
    |cons x xs=>
     rw[hl]at j
     have:t % (x::xs).length<(x::xs).length:=Nat.mod_lt _ Y8
     rw[aE this]at j
     cases j
   have all:∀i,i<ops.size→listed.getD i false=true:=by
    intro i
    induction i using Nat.strongRecOn with
    |_ i r=>
     intro hi
     cases hv:listed.getD i false with
     |true=>rfl
     |false=>
      exfalso
      have m:=List.filter_eq_nil_iff.1 g i (by simpa using hi)
      apply m
      unfold wi
      rw[inb i hi true,hv]
      simp only[Bool.not_false,Bool.true_and]
      rw[Array.getElem?_eq_getElem hi]
      simp only[cP,bL,Array.all_eq_true_iff_forall_mem]
      intro e he
      cases f:Region.binds .any e with
      |false=>rfl
      |true=>
       have l:=hb i ops[i] (by simp[hi]) e (by simpa using he) f
       simp[r e.on l O]
   exact⟨[],by simp,.nil all⟩
  |some i=>
   have c:i∈(List.range ops.size).filter (wi ops listed):=List.mem_of_getElem? j
   simp only[List.mem_filter,dT]at c
   obtain⟨hi,b⟩:=c
   unfold wi at b
   simp only[aG]at b
   obtain⟨h1,h2⟩:=b
   rw[inb i hi true]at h1
   have h:listed.getD i false=false:=by simpa using h1
   have a:∀k d,(listed.setIfInBounds i true).getD k d=if k=i then true else listed.getD k d:=fun k d=>by
    rw[bB,bB]
    by_cases hk:k=i
    ·subst hk
     rw[Array.getElem?_setIfInBounds_self_of_lt O,aF rfl];rfl
    ·rw[Array.getElem?_setIfInBounds_ne (Ne.symm hk),aD hk]
   obtain⟨rest,g1,g2⟩:=zcE hb fuel (t / ((List.range ops.size).filter (wi ops listed)).length) (listed.setIfInBounds i true) (i::acc) (by simpa using hs) (by
    have:=Jd (p:=fun k=> !listed.getD k true) (q:=fun k=> !(listed.setIfInBounds i true).getD k true) (List.range ops.size) (fun x hx=>by
     rw[a]at hx
     split at hx
     ·simp at hx
     ·exact hx)
     ⟨i,by simpa using hi,by rw[inb i hi true,h];rfl,by rw[a,aF rfl];rfl⟩
    omega)
   refine⟨i::rest,by simp[g1],.cons hi (by rw[h];simp) (fun o ho e he f=>?_) ?_⟩
   ·rw[ho]at h2
    simp only[cP,bL,Array.all_eq_true_iff_forall_mem]at h2
    have:=h2 e (by simpa using he)
    rw[f]at this
    simpa using this
   ·have e1:(fun k=>listed.getD k false=true∨k=i)=(fun k=>(listed.setIfInBounds i true).getD k false=true):=by
     funext k
     rw[a]
     by_cases hk:k=i<;>simp[hk]
    rw[e1];exact g2
theorem Qt(hb:∀i o,ops[i]? = some o→∀e∈o.after.toList,Region.binds .any e=true→e.on<i)(t:Nat):Sched ops (fun _=>False) (Region.linearise .any ops t):=by
 obtain⟨rest,h1,h2⟩:=zcE ops hb ops.size t (Array.replicate ops.size false) [] Y8 (by
  refine bH (List.length_filter_le _ _) ?_
  simp)
 unfold Region.linearise
 rw[h1]
 simp only[List.reverse_nil,cI]
 have e1:(fun i=>(Array.replicate ops.size false).getD i false=true)=(fun _=>False):=by
  funext i
  rw[bB,Array.getElem?_replicate]
  split<;>simp
 rw[e1]at h2
 exact h2
end
structure PlanOk(ops:Array Oper)(l:List Drawn)(anc:Nat→Nat):Prop where
 op:∀(p:Nat) (d:Drawn),l[p]? = some d→∃o,ops[d.ix]? = some o
 surj:∀i,i<ops.size→∃(p:Nat) (d:Drawn),l[p]? = some d∧d.ix=i
 ancOf:∀(p:Nat) (d:Drawn),l[p]? = some d→d.anc=anc d.ix
 edges:∀i o,ops[i]? = some o→∀e∈o.after.toList,Region.binds .any e=true→e.on<i∧(anc i).testBit e.on=true
 below:∀i o k,ops[i]? = some o→(anc i).testBit k=true→k<i
 just:∀i o k,ops[i]? = some o→(anc i).testBit k=true→∃e∈o.after.toList,Region.binds .any e=true∧(e.on=k∨(anc e.on).testBit k=true)
 reads:∀i o,ops[i]? = some o→∀t,Operand.tmp t∈o.op.operands.toList→∀u q,ops[u]? = some q→q.dst=some t→(anc i).testBit u=true∨(zcy o=false∧(u=i∨(anc u).testBit i=true))
 guard:∀i o g,ops[i]? = some o→o.guard=some g→(anc i).testBit g.1=true
 pair:∀(p q:Nat) (x y:Drawn),p<q→l[p]? = some x→l[q]? = some y→x.ix≠y.ix∧(anc x.ix).testBit y.ix=false ∧
  ((anc y.ix).testBit x.ix=false→gi x.how=false∧(gi y.how=true→(zeI x.how=true∨VZ x.how=true)∧∀o,ops[x.ix]? = some o→(zcy o=true∨VZ x.how=true)→x.ix∈y.free))
 dst:∀(i j:Nat) (o q:Oper) (t:Tmp),ops[i]? = some o→ops[j]? = some q→o.dst=some t→q.dst=some t→i=j
 light:∀(p:Nat) (d:Drawn) o,l[p]? = some d→ops[d.ix]? = some o→zeI d.how=true→wV o=true
 alloc:∀(p:Nat) (d:Drawn) o,l[p]? = some d→ops[d.ix]? = some o→VZ d.how=true→(ui o||zeE o)=true
theorem gC:∀(l:List (Option Tmp)),vL l=true→∀(i j:Nat) (t:Tmp),l[i]? = some (some t)→l[j]? = some (some t)→i=j
 | [],_,i,j,t,h,_=>by simp at h
 |x::l,hd,i,j,t,hi,hj=>by
  have tail:vL l=true:=by
   cases x with
   |none=>exact hd
   |some u=>unfold vL at hd;simp only[aG]at hd;exact hd.2
  have a:∀k,x=some t→l[k]? = some (some t)→False:=fun k hx hk=>by
   subst hx
   unfold vL at hd
   simp only[aG,List.all_eq_true]at hd
   have:=hd.1 _ (List.mem_of_getElem? hk)
   simp at this
  cases i with
  |zero=>cases j with
   |zero=>rfl
   |succ j=>simp at hi hj;exact(a j hi hj).elim
  |succ i=>cases j with
   |zero=>simp at hi hj;exact(a i hj hi).elim
   |succ j=>simp at hi hj;rw[gC l tail i j t hi hj]
theorem XU{ops:List Oper}:∀(l:List Drawn),J2 ops l=true→∀(p q:Nat) (x y:Drawn),p<q→l[p]? = some x→l[q]? = some y→pairB ops x y=true
 | [],_,p,q,x,y,_,h,_=>by simp at h
 |z::l,hp,p,q,x,y,hlt,hx,a=>by
  unfold J2 at hp
  simp only[aG,List.all_eq_true]at hp
  cases q with
  |zero=>omega
  |succ q=>
   simp at a
   cases p with
   |zero=>simp at hx;subst hx;exact hp.1 _ (List.mem_of_getElem? a)
   |succ p=>simp at hx;exact XU l hp.2 p q x y O hx a
theorem plan_ok{ops:Array Oper}{l:List Drawn}(h:Zt ops.toList l=true):∃anc,PlanOk ops l anc:=by
 unfold Zt at h
 simp only[aG]at h
 obtain⟨⟨⟨⟨⟨⟨h1,h2⟩,J⟩,K⟩,L⟩,Q⟩,R⟩:=h
 have h2:=aJ h2
 rw[yd,yd]at h2
 let anc:Nat→Nat:=fun i=>((ancs ops.toList)[i]?).getD 0
 have ancAt:∀i m,zF (ancs ops.toList) i=some m→m=anc i:=fun i m n=>by rw[zJ]at n;simp only[anc,n];rfl
 have each:∀i o,ops[i]? = some o→ancB (ancs ops.toList) i o (anc i)=true∧JY ops.toList (ancs ops.toList) i (anc i) o=true:=fun i o ho=>by
  rw[List.all_eq_true]at J
  have:=J (o,i) (by
   rw[List.mem_zipIdx_iff_getElem?]
   simpa using ho)
  simp only at this
  split at this
  ·rename_i m n
   rw[ancAt i m n]at this
   simpa using this
  ·cases this
 have drawn:∀(p:Nat) (d:Drawn),l[p]? = some d→(∃o,ops[d.ix]? = some o)∧d.anc=anc d.ix∧(∀o,ops[d.ix]? = some o→zeI d.how=true→wV o=true)∧(∀o,ops[d.ix]? = some o→VZ d.how=true→(ui o||zeE o)=true):=fun p d hd=>by
  rw[List.all_eq_true]at K
  have:=K d (List.mem_of_getElem? hd)
  simp only[aG]at this
  obtain⟨g1,g2⟩:=this
  have ha:d.anc=anc d.ix:=by
   split at g1
   ·rename_i m n
    have:=aJ g1
    rw[←this];exact ancAt _ _ n
   ·cases g1
  unfold lightB at g2
  split at g2
  ·rename_i o ho
   rw[zJ]at ho
   have r:ops[d.ix]? = some o:=by simpa using ho
   rw[aG,dA,dA,bC,bC]at g2
   refine⟨⟨o,r⟩,ha,fun V c a=>?_,fun V c a=>?_⟩
   ·rw[r]at c;cases c
    rcases g2.1 with g|g
    ·rw[a]at g;cases g
    ·exact g
   ·rw[r]at c;cases c
    rcases g2.2 with g|g
    ·rw[a]at g;cases g
    ·exact g
  ·cases g2
 refine⟨anc,{
  op:=fun p d hd=>(drawn p d hd).1
  surj:=fun i hi=>?_
  ancOf:=fun p d hd=>(drawn p d hd).2.1
  edges:=fun i o ho e he hb=>?_
  below:=fun i o k ho hk=>?_
  just:=fun i o k ho hk=>?_
  reads:=fun i o ho t T u q B hd=>?_
  guard:=fun i o g ho hg=>?_
  pair:=fun p q x y b hx M=>?_
  dst:=fun i j o q t ho B h1 h2=>?_
  light:=fun p d o hd ho hl=>(drawn p d hd).2.2.1 o ho hl
  alloc:=fun p d o hd ho hl=>(drawn p d hd).2.2.2 o ho hl}⟩
 ·rw[List.all_eq_true]at L
  have:=L i (by rw[yd];simpa using hi)
  rw[eU]at this
  obtain⟨d,hd,he⟩:=this
  obtain⟨p,hp⟩:=List.getElem?_of_mem hd
  exact⟨p,d,hp,aJ he⟩
 ·have:=(each i o ho).1
  unfold ancB at this
  simp only[aG,List.all_eq_true]at this
  have:=this.1.1 e he
  rw[hb]at this
  simp only[eJ,Bool.false_or,aG]at this
  exact⟨by simpa[Nat.blt_eq]using this.1,this.2⟩
 ·have:=(each i o ho).1
  unfold ancB at this
  simp only[aG,List.all_eq_true]at this
  obtain⟨⟨_,_⟩,f⟩:=this
  have b:anc i<2 ^ i:=by simpa[Nat.blt_eq]using f
  rcases cM k i with a|a
  ·exact a
  ·rw[Nat.testBit_lt_two_pow (bJ b (Nat.pow_le_pow_right O a))]at hk;cases hk
 ·have:=(each i o ho).1
  unfold ancB at this
  simp only[aG,List.all_eq_true]at this
  obtain⟨⟨_,g2⟩,f⟩:=this
  have b:anc i<2 ^ i:=by simpa[Nat.blt_eq]using f
  have E:k<i:=by
   rcases cM k i with a|a
   ·exact a
   ·rw[Nat.testBit_lt_two_pow (bJ b (Nat.pow_le_pow_right O a))]at hk;cases hk
  have:=g2 k (by simpa using E)
  rw[hk]at this
  simp only[eJ,Bool.false_or,eU,aG,dA]at this
  obtain⟨e,he,hb,G⟩:=this
  refine⟨e,he,hb,?_⟩
  rcases G with a|a
  ·exact .inl (aJ a)
  ·right
   split at a
   ·rename_i q B;rw[←ancAt _ _ B];exact a
   ·cases a
 ·have:=(each i o ho).2
  unfold JY at this
  simp only[aG,List.all_eq_true]at this
  have:=this.1 _ T
  simp only[List.all_eq_true]at this
  have:=this (q,u) (by rw[List.mem_zipIdx_iff_getElem?];simpa using B)
  simp only[hd]at this
  have hb:Nat.beq t t=true:=by simp
  simp only[hb,eJ,Bool.false_or,dA,aG,bC]at this
  rcases this with a|⟨hl,a⟩
  ·exact .inl a
  ·right
   refine⟨hl,?_⟩
   rcases a with a|a
   ·exact .inl (aJ a)
   ·right
    split at a
    ·rename_i m n;rw[←ancAt _ _ n];exact a
    ·cases a
 ·have:=(each i o ho).2
  unfold JY at this
  simp only[aG]at this
  rw[hg]at this
  exact this.2
 ·have s:=XU l Q p q x y b hx M
  unfold pairB at s
  have z:=(drawn p x hx).2.1
  have C:=(drawn q y M).2.1
  simp only[aG,bC,dA]at s
  obtain⟨⟨g1,g2⟩,f⟩:=s
  rw[z]at g2
  have F:x.ix≠y.ix:=fun e=>by rw[e]at g1;simp at g1
  refine⟨F,g2,fun H=>?_⟩
  have D:zaU x y=true:=by
   unfold zaU
   simp[g1,z,C,g2,H]
  rcases f with f|⟨f,v⟩
  ·rw[D]at f;cases f
  ·refine⟨f,fun U=>?_⟩
   rcases v with v|⟨v,w⟩
   ·rw[U]at v;cases v
   ·refine⟨by simpa using v,fun o ho hl=>?_⟩
    have:zF ops.toList x.ix=some o:=by rw[zJ];simpa using ho
    rw[this]at w
    simp only[dA,bC,Bool.or_eq_false_iff,eU]at w
    rcases w with⟨w,I⟩|⟨k,hk,a⟩
    ·rcases hl with hl|hl
     ·rw[hl]at w;cases w
     ·rw[hl]at I;cases I
    ·rw[aJ a];exact hk
 ·refine gC _ R i j t ?_ ?_
  ·simp[ho,h1]
  ·simp[B,h2]
section
variable{P:Program}{call:FuncId→Array Value→St→CallOut}
structure Chain(P:Program)(call:FuncId→Array Value→St→CallOut)(ops:Array Oper)(l:List Drawn)(N:Nat)(A:Nat→Fr)(S:Nat→St):Prop where
 le:N≤l.length
 step:∀p,p<N→∃d o,l[p]? = some d∧ops[d.ix]? = some o∧yS P call ops.toList d o (A p) (S p)=.normal (A (p+1)) (S (p+1))
theorem zde{ops:Array Oper}:∀(l:List Drawn) (a:Fr) (s:St),v6 P call ops.toList l a s≠.stuck→∃N A S,A 0=a∧S 0=s∧Chain P call ops l N A S ∧
 ((N=l.length∧v6 P call ops.toList l a s=.normal (A N) (S N)) ∨
  ∃d o c a₁ s₁,l[N]? = some d∧ops[d.ix]? = some o∧yS P call ops.toList d o (A N) (S N)=.panic c a₁ s₁∧v6 P call ops.toList l a s=.panic c a₁ s₁)
 | [],a,s,_=>⟨0,fun _=>a,fun _=>s,rfl,rfl,⟨aO _,fun p hp=>by omega⟩,.inl ⟨rfl,rfl⟩⟩
 |d::l,a,s,b=>by
  unfold v6 at b ⊢
  cases ho:zF ops.toList d.ix with
  |none=>rw[ho]at b;exact(b rfl).elim
  |some o=>
   rw[ho]at b
   simp only at b ⊢
   have h:ops[d.ix]? = some o:=by rw[zJ]at ho;simpa using ho
   cases e:yS P call ops.toList d o a s with
   |stuck=>rw[e]at b;exact(b rfl).elim
   |exit id a₁ s₁=>
    exfalso
    unfold yS at e
    (repeat' split at e)<;>cases e
   |ret a₁ s₁=>
    exfalso
    unfold yS at e
    (repeat' split at e)<;>cases e
   |panic c a₁ s₁=>
    exact⟨0,fun _=>a,fun _=>s,rfl,rfl,⟨cJ _,fun p hp=>by omega⟩,.inr ⟨d,o,c,a₁,s₁,rfl,h,e,rfl⟩⟩
   |normal a₁ s₁=>
    rw[e]at b
    simp only at b ⊢
    obtain⟨N,A,S,m,n,f,g⟩:=zde l a₁ s₁ b
    refine⟨N+1,fun p=>match p with|0=>a|q+1=>A q,fun p=>match p with|0=>s|q+1=>S q,rfl,rfl,⟨by simp;exact f.le,fun p hp=>?_⟩,?_⟩
    ·cases p with
     |zero=>exact⟨d,o,rfl,h,by rw[e];simp only[m,n]⟩
     |succ p=>
      obtain⟨i,o',g1,g2,j⟩:=f.step p O
      exact⟨i,o',by simpa using g1,g2,j⟩
    ·rcases g with⟨g1,g2⟩|⟨i,o',c,a₂,s₂,g1,g2,j,k⟩
     ·exact .inl ⟨by simp[g1],g2⟩
     ·exact .inr ⟨i,o',c,a₂,s₂,by simpa using g1,g2,j,k⟩
theorem wk{ops:List Oper}{d:Drawn}{o:Oper}{a a₁:Fr}{s s₁:St}(h:yS P call ops d o a s=.normal a₁ s₁):∃v,a₁=a.put o.dst v:=by
 unfold yS at h
 split at h
 ·split at h
  ·split at h
   ·rename_i a' s' b
    split at h
    ·cases h;exact(opM_frame.1 _ _ b)
    ·cases h
   ·cases h
  ·split at h
   ·rename_i a' s' b;cases h;exact(opM_frame.1 _ _ b)
   ·cases h
   ·cases h
  ·split at h
   ·rename_i a' s' b;cases h;exact(opM_frame.1 _ _ b)
   ·cases h
  ·split at h
   ·rename_i a' s' b
    split at h
    ·split at h
     ·cases h;exact(opM_frame.1 _ _ b)
     ·cases h
    ·cases h
   ·cases h
 ·cases h;exact⟨_,rfl⟩
theorem zeZ{ops:List Oper}{d:Drawn}{o:Oper}{a a₁:Fr}{s s₁:St}(h:yS P call ops d o a s=.normal a₁ s₁)(g:qc ops a o=true)(e:d.how=.new) :
 ∃s' ob,opM P call o a {next:=s.next,bar:=s.next,prot:=[],heap:=.nil}=.normal a₁ s'∧s'.next=s.next+1∧s.room=true∧xR a₁ o=some s.next∧s'.get s.next=some ob∧s₁=s.new ob:=by
 unfold yS at h
 rw[g,e]at h
 simp only at h
 split at h
 ·rename_i a' s' f
  split at h
  ·rename_i b ob hn hb hg
   split at h
   ·rename_i c
    cases h
    rw[aG]at hn
    rw[aJ c]at hb
    exact⟨s',ob,f,aJ hn.1,hn.2,hb,hg,rfl⟩
   ·cases h
  ·cases h
 ·cases h
theorem put_size(a:Fr)(dst:Option Tmp)(v:Value):(a.put dst v).size=a.size:=by
 unfold Fr.put
 (repeat' split)<;>rfl
theorem WJ{a:Fr}(hs:a.size≤65534){dst:Option Tmp}{v:Value}{t:Nat}(h:dst≠some t):(a.put dst v).get t=a.get t:=by
 unfold Fr.put
 split
 ·rename_i d
  split
  ·rename_i b
   change Nat at d
   have b:d<a.size:=by simpa[Nat.blt_eq]using b
   unfold Fr.get
   rw[Tr.get_put vK _ _ _ _ (by have:(2:Nat) ^ vK=65536:=U;omega),aD (fun e=>h (by rw[e]))]
  ·rfl
 ·rfl
variable{ops:Array Oper}{l:List Drawn}{N:Nat}{A:Nat→Fr}{S:Nat→St}
theorem Chain.size(h:Chain P call ops l N A S):∀p,p≤N→(A p).size=(A 0).size
 |0,_=>rfl
 |p+1,hp=>by
  obtain⟨d,o,_,_,a⟩:=h.step p O
  obtain⟨v,hv⟩:=wk a
  rw[hv,put_size,Chain.size h p O]
theorem Chain.keepsSlot(h:Chain P call ops l N A S)(hs:(A 0).size≤65534)(t:Nat)(p:Nat):∀q,p≤q→q≤N →
 (∀r d o,p≤r→r<q→l[r]? = some d→ops[d.ix]? = some o→o.dst≠some t)→(A q).get t=(A p).get t:=by
 intro q
 induction q with
 |zero=>intro b _ _;have:p=0:=O;subst this;rfl
 |succ q f=>
  intro b hq a
  by_cases he:p=q+1
  ·subst he;rfl
  ·obtain⟨d,o,h1,h2,e⟩:=h.step q O
   obtain⟨v,hv⟩:=wk e
   rw[hv,WJ (by rw[Chain.size h q O];exact hs) (a q d o O O h1 h2)]
   exact f O O fun r d o c hr2=>a r d o c O
theorem Chain.kp(h:Chain P call ops l N A S)(hk:∀f args s,WF s→(call f args s).keeps s)(h0:WF (S 0)):∀q,q≤N→Kp (S 0) (S q)
 |0,_=>Kp.refl h0
 |q+1,hq=>by
  have a:=Chain.kp h hk h0 q O
  obtain⟨d,o,_,_,b⟩:=h.step q O
  have:=wj (P:=P) hk a.wf ops.toList d o (A q)
  rw[b]at this
  exact a.trans this
theorem Chain.kp2(h:Chain P call ops l N A S)(hk:∀f args s,WF s→(call f args s).keeps s)(h0:WF (S 0))(p:Nat):∀q,p≤q→q≤N→Kp (S p) (S q):=by
 intro q
 induction q with
 |zero=>intro b _;have:p=0:=O;subst this;exact Kp.refl h0
 |succ q a=>
  intro b c
  by_cases he:p=q+1
  ·subst he;exact Kp.refl (h.kp hk h0 _ c).wf
  ·have a:=a O O
   obtain⟨d,o,_,_,e⟩:=h.step q O
   have:=wj (P:=P) hk a.wf ops.toList d o (A q)
   rw[e]at this
   exact a.trans this
theorem YT(hk:∀f args s,WF s→(call f args s).keeps s){ops:List Oper}{d:Drawn}{o:Oper}{a a₁:Fr}{s s₁:St}(e:WF s)(h:yS P call ops d o a s=.normal a₁ s₁)(g:gi d.how=false) :
 ∀b,b<s.next→s₁.get b=s.get b:=by
 intro b hb
 unfold yS at h
 split at h
 ·split at h
  ·split at h
   ·split at h
    ·cases h;rfl
    ·cases h
   ·cases h
  ·rename_i c;rw[c]at g;cases g
  ·have h0:WF {s with bar:=s.next}:=e.of_heap rfl rfl
   have h1:=jB (P:=P) hk h0 o a
   split at h
   ·rename_i a' s' i
    cases h
    rw[i]at h1
    have h1:Kp {s with bar:=s.next} s':=h1
    have:=h1.same b hb (by
     unfold St.may
     simp only[eK]
     left
     rw[cL]
     intro c
     have:=aR c
     omega)
    exact this
   ·cases h
  ·split at h
   ·split at h
    ·rename_i hn _ _
     split at h
     ·cases h
      rw[aG]at hn
      have:=wh hn.2
      rw[St.get_new O,aD O]
     ·cases h
    ·cases h
   ·cases h
 ·cases h;rfl
theorem Qb(hk:∀f args s,WF s→(call f args s).keeps s){ops:List Oper}{d:Drawn}{o:Oper}{a a₁:Fr}{s s₁:St}(g:WF s)(h:yS P call ops d o a s=.normal a₁ s₁)
 {b:Nat} (hb:b<s.next) (i:gi d.how=true→b∈y9 ops a d.free):s₁.get b=s.get b:=by
 cases c:gi d.how with
 |false=>exact YT hk g h c b hb
 |true=>
  have i:=i c
  unfold yS at h
  split at h
  ·split at h
   ·rename_i e;rw[e]at c;cases c
   ·have h0:WF {s with prot:=y9 ops a d.free++s.prot}:=g.of_heap rfl rfl
    have h1:=jB (P:=P) hk h0 o a
    split at h
    ·rename_i a' s' j
     cases h
     rw[j]at h1
     have h1:Kp {s with prot:=y9 ops a d.free++s.prot} s':=h1
     exact h1.same b hb (by
      unfold St.may
      simp only[eK,eY,List.any_append,dA]
      right;left
      rw[eU]
      exact⟨b,i,by simp⟩)
    ·cases h
    ·cases h
   ·rename_i e;rw[e]at c;cases c
   ·rename_i e;rw[e]at c;cases c
  ·cases h;rfl
end
theorem Rel.of_same{P:Program}{β:Ren}{s T:St}{w:World}(h:Rel P β s w)(hn:T.next=s.next)(d:T.heap=s.heap)(e:∀b m,β b=some m→b<s.next→m.ro=true→b<T.bar):Rel P β T w:=by
 have hg:∀b,T.get b=s.get b:=fun b=>by simp only[St.get,d]
 exact{
  img:=by rw[hn];exact h.img
  obj:=fun b m o hb hlt a=>h.obj b m o hb O (by rw[←hg];exact a)
  inj:=fun b b' m f o o' h1 h2 l1 l2 g1 g2=>h.inj b b' m f o o' h1 h2 O O (by rw[←hg];exact g1) (by rw[←hg];exact g2)
  ro:=fun b m h1 h2 c=>e b m h1 O c
  room:=by rw[hn];exact h.room
  top:=fun b hb=>by rw[hg];exact h.top b O}
theorem Rel.at_state{P:Program}{β:Ren}{s T:St}{w:World}(h:Rel P β s w)(c:WF T)(a:∀b m,β b=some m→b<T.next→b<s.next)
 (hg:∀b m o,β b=some m→b<T.next→T.get b=some o→s.get b=some o) (e:∀b m,β b=some m→b<T.next→m.ro=true→b<T.bar):Rel P β T w where
 img:=fun b m hb hl=>h.img b m hb (a b m hb hl)
 obj:=fun b m o hb hl hgt=>h.obj b m o hb (a b m hb hl) (hg b m o hb hl hgt)
 inj:=fun b b' m f o o' h1 h2 d l2 g1 g2=>h.inj b b' m f o o' h1 h2 (a _ _ h1 d) (a _ _ h2 l2) (hg _ _ _ h1 d g1) (hg _ _ _ h2 l2 g2)
 ro:=e
 room:=c.room
 top:=c.top
theorem Ext.roOld{P:Program}{β β':Ren}{s s':St}{w w':World}(h:Ext P β s w β' s' w')(hb:s.bar≤s.next){b:Nat}{m:Img}(h1:β' b=some m)(h2:b<s'.next)(c:m.ro=true):β b=some m∧b<s.next:=by
 have d:=h.rel.ro b m h1 h2 c
 rw[h.bar]at d
 cases a:β b with
 |some e=>
  have:=h.le b e a
  rw[h1]at this
  cases this
  exact⟨rfl,by omega⟩
 |none=>
  have:=h.dom b m h1 a
  omega
theorem Rel.grow{P:Program}{β:Ren}{s:St}{w w':World}(h:Rel P β s w)(hs:w.heap.size≤w'.heap.size)(a:∀r,r<w.heap.size→w'.heap[r]? = w.heap[r]?):Rel P β s w' where
 img:=fun b m hb hl=>bJ (h.img b m hb hl) hs
 obj:=fun b m o hb hl hg=>by
  obtain⟨o',h1,h2⟩:=h.obj b m o hb hl hg
  exact⟨o',by rw[a _ (h.img b m hb hl)];exact h1,h2⟩
 inj:=h.inj
 ro:=h.ro
 room:=h.room
 top:=h.top
theorem zdU{P:Program}{β:Ren}{a:Fr}{a':Act}(ops:Array Oper)(o:Oper)
 (h:∀g q d,o.guard=some g→ops[g.1]? = some q→q.dst=some d→VRel P β (a.get d) (a'.tmps.getD d undef)):qc ops.toList a o=Region.wanted o (yielded ops a'.tmps):=by
 unfold qc Region.wanted
 split
 ·rename_i hg;rw[hg]
 ·rename_i j want hg
  have h:=fun q d=>h (j,want) q d hg
  rw[hg]
  simp only[yielded]
  rw[zJ]
  cases c:ops[j]? with
  |none=>
   have:ops.toList[j]? = none:=by simpa using c
   rw[this]
   simp
  |some q=>
   have:ops.toList[j]? = some q:=by simpa using c
   rw[this]
   simp only[aA]
   cases hd:q.dst with
   |none=>simp
   |some d=>
    simp only[aA]
    have hg:=h q d c hd
    cases e:a'.tmps[d]? with
    |none=>
     rw[bB,e]at hg
     simp only[Option.getD_none]at hg
     have:∀b,a.get d≠.bool b:=fun b hb=>by rw[hb]at hg;cases hg
     cases hv:a.get d<;>first|rfl|exact(this _ hv).elim
    |some v=>
     rw[bB,e]at hg
     simp only[bL]at hg
     generalize a.get d=u at hg
     cases hg<;>first|rfl|(cases want<;>rename_i b<;>cases b<;>rfl)
theorem put_ge{a:Fr}(hs:a.size≤65534){dst:Option Tmp}{v:Value}{t:Nat}(h:a.size≤t):(a.put dst v).get t=a.get t:=by
 by_cases hd:dst=some t
 ·subst hd
  unfold Fr.put
  simp only
  have:Nat.blt t a.size=false:=by
   rw[cL];intro b
   have:t<a.size:=by simpa[Nat.blt_eq]using b
   omega
  rw[this]
 ·exact WJ hs hd
section
variable{P:Program}{call:FuncId→Array Value→St→CallOut}{ops:Array Oper}{l:List Drawn}{anc:Nat→Nat}{N:Nat}{A:Nat→Fr}{S:Nat→St}{β₀:Ren}{w₀:World}{D₀:List Deferred}{ro:Option Nat}{a₀:Act}
structure Inv(P:Program)(ops:Array Oper)(l:List Drawn)(anc:Nat→Nat)(N:Nat)(A:Nat→Fr)(S:Nat→St)(β₀:Ren)(w₀:World)(D₀:List Deferred)(L:Nat→Prop)(M:Nat)(β:Ren)(a':Act)(w:World):Prop where
 closed:∀i k,i<ops.size→L i→(anc i).testBit k=true→L k
 before:∀(p:Nat) (d:Drawn),l[p]? = some d→L d.ix→p<M
 wholes:∀(p:Nat) (d:Drawn),l[p]? = some d→gi d.how=true→p<M→L d.ix
 leN:M≤N
 rel:Rel P β (S M) w
 le:β₀.le β
 dom:∀b m,β b=some m→β₀ b=some m∨∃(p:Nat) (d:Drawn),l[p]? = some d∧L d.ix∧(S p).next≤b∧b<(S (p+1)).next
 tsize:a'.tmps.size=(A 0).size
 defers:a'.defers=D₀
 filled:∀(p:Nat) (d:Drawn) (o:Oper) (t:Nat),l[p]? = some d→ops[d.ix]? = some o→L d.ix→o.dst=some t→t<(A 0).size→VRel P β ((A (p+1)).get t) (a'.tmps.getD t undef)
 old:∀t:Nat,t<(A 0).size→(∀(p:Nat) (d:Drawn) (o:Oper),l[p]? = some d→ops[d.ix]? = some o→L d.ix→o.dst≠some t)→VRel P β ((A 0).get t) (a'.tmps.getD t undef)
 size:w₀.heap.size≤w.heap.size
 out:∀r,r<w₀.heap.size→(∀b m o,β₀ b=some m→b<(S 0).next→(S 0).may b=true→(S 0).get b=some o→m.blk≠r)→w.heap[r]? = w₀.heap[r]?
 fresh:∀b m,β b=some m→β₀ b=none→w₀.heap.size≤m.blk∨∃b₁ m₁ o₁,β₀ b₁=some m₁∧b₁<(S 0).next∧(S 0).may b₁=true∧(S 0).get b₁=some o₁∧m₁.blk=m.blk
 os:w.os=w₀.os
 output:w.output=w₀.output
 tape:w.tape=w₀.tape
structure Ctx(P:Program)(call:FuncId→Array Value→St→CallOut)(ops:Array Oper)(l:List Drawn)(anc:Nat→Nat)(N:Nat)(A:Nat→Fr)(S:Nat→St)(β₀:Ren)(w₀:World)(a₀:Act):Prop where
 hc:Jx P call
 hk:∀f args s,WF s→(call f args s).keeps s
 plan:PlanOk ops l anc
 chain:Chain P call ops l N A S
 small:(A 0).size≤65534
 rel:Rel P β₀ (S 0) w₀
 fr:FRel P β₀ (A 0) a₀
 free:Free β₀ (S 0) (S N)
 opsB:∀(i:Nat) (o:Oper),ops[i]? = some o→o.op.operands.toList.all kZ=true
variable(C:Ctx P call ops l anc N A S β₀ w₀ a₀)
include C
theorem Ctx.wf0:WF (S 0):=⟨C.rel.room,C.rel.top⟩
theorem Ctx.wf{q:Nat}(a:q≤N):WF (S q):=(C.chain.kp C.hk C.wf0 q a).wf
theorem Ctx.kp{p q:Nat}(h:p≤q)(a:q≤N):Kp (S p) (S q):=C.chain.kp2 C.hk C.wf0 p q h a
theorem Ctx.pos{p q:Nat}{d e:Drawn}(hp:l[p]? = some d)(c:l[q]? = some e)(h:d.ix=e.ix):p=q:=by
 rcases Nat.lt_trichotomy p q with a|b|a
 ·exact((C.plan.pair p q d e a hp c).1 h).elim
 ·exact b
 ·exact((C.plan.pair q p e d a c hp).1 h.symm).elim
theorem Ctx.ahead{p q:Nat}{d e:Drawn}(hp:l[p]? = some d)(c:l[q]? = some e)(h:(anc e.ix).testBit d.ix=true):p<q:=by
 rcases Nat.lt_trichotomy p q with a|b|a
 ·exact a
 ·subst b
  rw[hp]at c;cases c
  obtain⟨o,ho⟩:=C.plan.op p d hp
  have:=C.plan.below _ o _ ho h
  omega
 ·have:=(C.plan.pair q p e d a c hp).2.1
  rw[h]at this;cases this
theorem Ctx.stays{p:Nat}:∀q,p≤q→q≤N→(∀(r:Nat) (d:Drawn),p≤r→r<q→l[r]? = some d→gi d.how=false)→∀b,b<(S p).next→(S q).get b=(S p).get b:=by
 intro q
 induction q with
 |zero=>intro c _ _ b _;have:p=0:=O;subst this;rfl
 |succ q f=>
  intro c hq a b hb
  by_cases he:p=q+1
  ·subst he;rfl
  ·obtain⟨d,o,h1,h2,e⟩:=C.chain.step q O
   rw[YT C.hk (C.wf O) e (a q d O O h1) b (bJ hb (C.kp O O).next)]
   exact f O O (fun r d h1 h2=>a r d h1 O) b hb
variable{L:Nat→Prop}{M:Nat}{β:Ren}{a':Act}{w:World}(I:Inv P ops l anc N A S β₀ w₀ D₀ L M β a' w)
include I
theorem Ctx.known{b:Nat}{m:Img}(hb:β b=some m){q:Nat}(f:q≤N)(c:b<(S q).next):b<(S M).next:=by
 rcases I.dom b m hb with h|⟨p,d,h1,h2,_,e⟩
 ·rcases cM b (S 0).next with a|a
  ·exact bJ a (C.kp (cJ _) I.leN).next
  ·have:=C.free b a (bJ c (C.kp f (aO N)).next)
   rw[h]at this;cases this
 ·exact bJ e (C.kp (I.before p d h1 h2) I.leN).next
theorem Ctx.done{i:Nat}{o:Oper}(ho:ops[i]? = some o)(he:∀e∈o.after.toList,Region.binds .any e=true→L e.on){k:Nat}(hk:(anc i).testBit k=true):L k:=by
 obtain⟨e,h1,h2,a⟩:=C.plan.just i o k ho hk
 have hl:=he e h1 h2
 have hlt:=(C.plan.edges i o ho e h1 h2).1
 have hi:i<ops.size:=by
  rcases cM i ops.size with b|b
  ·exact b
  ·rw[cX b]at ho;cases ho
 rcases a with a|a
 ·rw[←a];exact hl
 ·exact I.closed e.on k O hl a
theorem Ctx.slot{i j:Nat}{d:Drawn}(hj:l[j]? = some d)(hi:d.ix=i)(m:j≤N)(hn:¬L i)(hanc:∀k,(anc i).testBit k=true→L k)(t:Nat)
 (G:∀u q,ops[u]? = some q→q.dst=some t→(anc i).testBit u=true∨u=i∨(anc u).testBit i=true):VRel P β ((A j).get t) (a'.tmps.getD t undef):=by
 subst hi
 by_cases F:t<(A 0).size
 ·by_cases x:∃u q,ops[u]? = some q∧q.dst=some t∧L u
  ·obtain⟨u,q,n,hd,hl⟩:=x
   have hu:u<ops.size:=by
    rcases cM u ops.size with B|B
    ·exact B
    ·rw[cX B]at n;cases n
   obtain⟨p,e,hp,b⟩:=C.plan.surj u hu
   have g:(anc d.ix).testBit u=true:=by
    rcases G u q n hd with h|h|h
    ·exact h
    ·rw[h]at hl;exact(hn hl).elim
    ·exact(hn (I.closed u d.ix hu hl h)).elim
   have hpj:p<j:=C.ahead hp hj (by rw[b];exact g)
   have hv:=I.filled p e q t hp (by rw[b];exact n) (by rw[b];exact hl) hd F
   have:(A j).get t=(A (p+1)).get t:=C.chain.keepsSlot C.small t (p+1) j O m fun r s o' hr1 E a c f=>by
    have z:=C.plan.dst s.ix u o' q t c n f hd
    have:=C.pos a hp (by rw[z,b])
    omega
   rw[this];exact hv
  ·have y:∀(p:Nat) (e:Drawn) (o:Oper),l[p]? = some e→ops[e.ix]? = some o→L e.ix→o.dst≠some t:=fun p e o _ h2 H J=>x ⟨e.ix,o,h2,J,H⟩
   have hv:=I.old t F y
   have:(A j).get t=(A 0).get t:=C.chain.keepsSlot C.small t 0 j (cJ _) m fun r s o' _ E a c f=>by
    -- its writer is not done,so it does not lie ahead
    have D:¬L s.ix:=fun hl=>y r s o' a c hl f
    rcases G s.ix o' c f with h|h|h
    ·exact D (hanc _ h)
    ·have:=C.pos a hj h;omega
    ·have:=C.ahead hj a h;omega
   rw[this];exact hv
 ·have h1:∀q,q≤N→(A q).get t=(A 0).get t:=by
   intro q
   induction q with
   |zero=>intro _;rfl
   |succ q Q=>
    intro n
    obtain⟨d,o,_,_,K⟩:=C.chain.step q O
    obtain⟨v,hv⟩:=wk K
    rw[hv,put_ge (by rw[C.chain.size q O];exact C.small) (by rw[C.chain.size q O];omega)]
    exact Q O
  rw[h1 j m]
  have h2:a'.tmps.getD t undef=a₀.tmps.getD t undef:=by
   rw[bB,bB,cX (by rw[I.tsize];omega),cX (by rw[C.fr.size];omega)]
  rw[h2]
  exact(C.fr.get t).mono I.le
theorem Ctx.operands{i j:Nat}{d:Drawn}{o:Oper}(hj:l[j]? = some d)(hi:d.ix=i)(c:j≤N)(ho:ops[i]? = some o)(hn:¬L i)(hanc:∀k,(anc i).testBit k=true→L k) :
 ∀x∈o.op.operands.toList,VRel P β ((A j).eval x) (a'.eval x):=by
 intro x hx
 have a:=C.opsB i o ho
 rw[List.all_eq_true]at a
 have b:=a x hx
 cases x with
 |tmp t=>
  refine C.slot I hj hi c hn hanc t fun u q e hd=>?_
  rcases C.plan.reads i o ho t hx u q e hd with h|⟨_,h⟩
  ·exact .inl h
  ·exact .inr h
 |const v=>exact KI b
 |global g=>simp[kZ]at b
 |func f=>exact .func .nil .nil rfl
theorem Ctx.wants{i j:Nat}{d:Drawn}{o:Oper}(hj:l[j]? = some d)(hi:d.ix=i)(b:j≤N)(ho:ops[i]? = some o)(hn:¬L i)(hanc:∀k,(anc i).testBit k=true→L k) :
 qc ops.toList (A j) o=Region.wanted o (yielded ops a'.tmps):=by
 refine zdU (P:=P) (β:=β) ops o fun g q t hg e hd=>?_
 refine C.slot I hj hi b hn hanc t fun u f c a=>?_
 have:=C.plan.dst u g.1 f q t c e a hd
 subst this
 exact .inl (C.plan.guard i o g ho hg)
end
end Go.M
