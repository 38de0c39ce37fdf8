/- Operations one behind the other; calls. -/
import Derived.Test.YtocnbjjmmgolfaaGreatA06
import Derived.TacticsIn
set_option linter.unusedSimpArgs false
set_option linter.unusedVariables false
set_option linter.unusedSectionVars false
namespace Go.M
def SH(P:Program)(β:aS):List PanicEntry->List PanicEntry->Prop
 | [],[]=>True
 |p::l,a::b=>ao P β p.v a.v/\a.recovered=p.recovered/\a.goexit=p.goexit/\SH P β l b
 |_,_=>False
def ck(lo:Nat)(β:aS)(s:St)(w:World):List Deferred->Prop
 | []=>True
 |d::a=>(∃r,d={target:=.collected r,args:= #[]}/\lo<=r/\w.heap[r]? = some (.deferred (some []))/\(∀b m,β b=some m->b<s.next->m.blk≠r)/\∀c∈a,c.target≠.collected r)/\ck lo β s w a
theorem ck.ext{P:Program}{lo:Nat}{β β':aS}{s s':St}{w w':World}(h:bp P β s w β' s' w')(hf:cC β s s'):∀{k:List Deferred},ck lo β s w k->ck lo β' s' w' k
 | [],_=>trivial
 |_::_,⟨⟨r,h1,h0,h2,i,n⟩,o⟩=>by
  have j:r<w.heap.size:=(Array.getElem?_eq_some_iff.1 h2).1
  refine⟨⟨r,h1,h0,?_,λb m hb d=>?_,n⟩,o.ext h hf⟩
  .rw[h.out r j λb m _ hb d _ _=>i b m hb d];exact h2
  .cases c:β b with
   |some a=>
    have e:=h.le b a c
    rw[hb]at e;cases e
    refine i b m c ?_
    rcases cP b s.next with g|g
    .exact g
    .have:=hf b g d
     rw[c]at this;cases this
   |none=>
    rcases h.fresh b m hb c with g|⟨f,a,_,g1,g2,_,_,l⟩
    .omega
    .rw[<-l];exact i f a g1 g2
theorem ck.same{lo:Nat}{β:aS}{s:St}{w w':World}(h:w'.heap=w.heap):∀{a:List Deferred},ck lo β s w a->ck lo β s w' a
 | [],_=>trivial
 |_::_,⟨⟨r,h1,h0,h2,b,c⟩,d⟩=>⟨⟨r,h1,h0,by rw[h];exact h2,b,c⟩,d.same h⟩
abbrev FW(ro:Option Nat):Fence:={fn:=λ_=>True,depth:=none,alive:=false,round:=ro}
theorem eA{ro:Option Nat}{n:Nat}{P:Program}{f:FuncId}{args:Array Value}{w:World}{R:Ending->World->Prop}:CallsIn (FW ro) n P f args w R↔Calls P f args w R:=callsIn_wide (n:=n)
def fE(P:Program)(lo:Nat)(β:aS)(s:St)(w:World):cg->Exit->Act->World->Prop
 | .normal a s',e,a',w'=>e=.normal/\∃β',bp P β s w β' s' w'/\cv P β' a a'/\ck lo β' s' w' a'.defers
 | .exit id a s',e,a',w'=>e=.exit id/\∃β',bp P β s w β' s' w'/\cv P β' a a'/\ck lo β' s' w' a'.defers
 | .ret a s',e,a',w'=>e=.ret/\∃β',bp P β s w β' s' w'/\cv P β' a a'/\ck lo β' s' w' a'.defers
 | .panic chain _ s',e,a',w'=>∃b β',e=.panic b/\bp P β s w β' s' w'/\SH P β' chain b/\ck lo β' s' w' a'.defers
 | .stuck,_,_,_=>False
def cg.free(β:aS)(s:St):cg->Prop
 | .normal _ s' | .exit _ _ s' | .ret _ s' | .panic _ _ s'=>cC β s s'
 | .stuck=>True
def Wi(P:Program)(β:aS)(s:St)(w:World):aq->Ending->World->Prop
 | .ret v s',e,w'=>∃β' v',e=.returned v'/\bp P β s w β' s' w'/\ao P β' v v'
 | .panic chain s',e,w'=>∃β' a,e=.panicked a/\bp P β s w β' s' w'/\SH P β' chain a
 | .stuck,_,_=>False
def aq.free(β:aS)(s:St):aq->Prop
 | .ret _ s' | .panic _ s'=>cC β s s'
 | .stuck=>True
def JQ(P:Program)(call:FuncId->Array Value->St->aq):Prop:=
 (∀f args s,(call f args s).nextLe s) /\
 (∀f args args' s β w,Nat.ble zy f=false->bh P β s w->bc P β args.toList args'.toList->call f args s≠.stuck->(call f args s).free β s->Calls P f args' w (Wi P β s w (call f args s))) /\
 ∀b args args' s β w m r,bh P β s w->bc P β args.toList args'.toList->β b=some m->w.heap[m.blk]? = some (.loop r)->call (zy+b) args s≠.stuck->(call (zy+b) args s).free β s ->
  RoundIn Fence.wide 0 P m.blk r.fn (u6 r args') r.assign r.body w (Wi P β s w (call (zy+b) args s))
theorem bp.freeOf{P:Program}{β a:aS}{s s₁ c:St}{w d:World}(h:bp P β s w a s₁ d)(hf:cC β s c):cC a s₁ c:=λb l u=>by
 cases hb:a b with
 |none=>rfl
 |some m=>
  have h0:=hf b (bK h.next l) u
  have:=(h.dom b m hb h0).2
  omega
theorem cC.sub{β:aS}{s s₁ a:St}(hf:cC β s a)(h:s₁.next<=a.next):cC β s s₁:=λb l u=>hf b l O
theorem fE.trans{P:Program}{lo:Nat}{β b:aS}{s s₁:St}{w d:World}(h:bp P β s w b s₁ d){r:cg}(hf:r.free β s){e:Exit}{a':Act}{w':World}(g:fE P lo b s₁ d r e a' w'):fE P lo β s w r e a' w':=by
 cases r with
 |normal a s'=>obtain⟨h1,β',h2,f⟩:=g;exact⟨h1,β',h.trans h2 hf,f⟩
 |exit id a s'=>obtain⟨h1,β',h2,f⟩:=g;exact⟨h1,β',h.trans h2 hf,f⟩
 |ret a s'=>obtain⟨h1,β',h2,f⟩:=g;exact⟨h1,β',h.trans h2 hf,f⟩
 |panic c a s'=>obtain⟨c',β',h1,h2,f,i⟩:=g;exact⟨c',β',h1,h.trans h2 hf,f,i⟩
 |stuck=>exact g
theorem bp.outFree{P:Program}{β a:aS}{s s₁:St}{w b:World}(h:bp P β s w a s₁ b){r:cg}(hf:r.free β s):r.free a s₁:=by
 cases r<;>first|exact h.freeOf hf|trivial
theorem wV{a':Act}{dst:Option Tmp}{v':Value}:(a'.put dst v').defers=a'.defers:=by
 unfold Act.put
 split<;>rfl
section
variable{P:Program}{lo:Nat}{call:FuncId->Array Value->St->aq}
theorem YH(hc:∀f args s,(call f args s).nextLe s)(o:Oper)(a:Fr)(s:St):(eh P call o a s).nextLe s:=by
 unfold eh
 have h:=Kt (P:=P) (s:=s) a.eval o.op
 cases hs:zj P a.eval o.op s with
 |stuck=>trivial
 |panic v s'=>rw[hs]at h;exact h
 |ok n s'=>
  rw[hs]at h
  cases n<;>simp only[]<;>first|exact h|trivial|skip
  .rename_i f args
   have h2:=hc f args s'
   split
   .trivial
   .cases e:call f args s' with
    |ret v d=>rw[e]at h2;exact bK h h2
    |panic c d=>rw[e]at h2;exact bK h h2
    |stuck=>trivial
  .rename_i b _ args _ _
   have h2:=hc (zy+b) args s'
   cases e:call (zy+b) args s' with
   |ret v d=>rw[e]at h2;exact bK h h2
   |panic c d=>rw[e]at h2;exact bK h h2
   |stuck=>trivial
theorem wI(hc:JQ P call){o:Oper}{a:Fr}{a':Act}{s:St}{β:aS}{w:World}(h:bh P β s w)(hρ:∀x∈o.op.operands.toList,ao P β (a.eval x) (a'.eval x))
 (i:eh P call o a s≠.stuck) (d:(eh P call o a s).free β s) (K:Act->World->Prop) (Q:Exit->Act->World->Prop)
 (t:∀v v' s' β' w',eh P call o a s=.normal (a.put o.dst v) s'->bp P β s w β' s' w'->ao P β' v v'->K (a'.put o.dst v') w')
 (u:∀chain q s' β' w',eh P call o a s=.panic chain a s'->bp P β s w β' s' w'->SH P β' chain q->Q (.panic q) a' w') (ro:Option Nat):o.wpIn (FW ro) 0 P a' w K Q:=by
 have hs:=zeu h (ρ:=a.eval) (ρ':=a'.eval) o hρ
 unfold Oper.wpIn
 refine⟨λ_ _=>trivial,?_⟩
 have D:∀c,o.op≠.defer c:=λc E=>by
  apply i
  unfold eh
  rw[E]
  rfl
 rw[Oper.semAt_eq _ _ _ D]
 unfold eh at i d t u
 cases A:zj P a.eval o.op s with
 |stuck=>rw[A]at i;exact(i rfl).elim
 |panic v s'=>
  rw[A]at hs d u
  obtain⟨β',w',v',h1,h2,z⟩:=hs d
  rw[h1]
  exact u _ [{v:=v',recovered:=false}] s' β' w' rfl h2 ⟨z,rfl,rfl,trivial⟩
 |ok n s₁=>
  have C:=Kt (P:=P) (s:=s) a.eval o.op
  rw[A]at hs i d t u C
  cases n with
  |value v=>
   obtain⟨β',w',B,h1,h2,v',rfl,z⟩:=hs d
   rw[h1]
   exact t v v' s₁ β' w' rfl h2 z
  |skip=>
   obtain⟨β',w',B,h1,h2,rfl⟩:=hs d
   rw[h1]
   exact t undef undef s₁ β' w' rfl h2 wy
  |enter f args=>
   have k:=hc.1 f args s₁
   simp only at i d t u
   cases y:Nat.ble zy f with
   |true=>rw[y]at i;exact(i rfl).elim
   |false=>
   rw[y]at i d t u
   simp only at i d t u
   cases l:call f args s₁ with
   |stuck=>rw[l]at i;exact(i rfl).elim
   |ret v j=>
    rw[l]at d t k
    simp only at d t
    obtain⟨β',w',B,h1,h2,args',rfl,z⟩:=hs (d.sub k)
    rw[h1]
    have g:=hc.2.1 f args args' s₁ β' w' y h2.rel z (by rw[l];simp) (by rw[l];exact h2.freeOf d)
    rw[l]at g
    refine⟨nofun,?_⟩
    refine(eA.2 g).mono λe p ⟨β'',v',he,hx,hv⟩=>by
     subst he
     exact t v v' j β'' p rfl (h2.trans hx d) hv
   |panic c j=>
    rw[l]at d u k
    simp only at d u
    obtain⟨β',w',B,h1,h2,args',rfl,z⟩:=hs (d.sub k)
    rw[h1]
    have g:=hc.2.1 f args args' s₁ β' w' y h2.rel z (by rw[l];simp) (by rw[l];exact h2.freeOf d)
    rw[l]at g
    refine⟨nofun,?_⟩
    refine(eA.2 g).mono λe p ⟨β'',c',he,hx,hv⟩=>by
     subst he
     exact u c c' j β'' p rfl (h2.trans hx d) hv
  |round b f0 args x0 y0=>
   have k:=hc.1 (zy+b) args s₁
   simp only at i d t u
   cases l:call (zy+b) args s₁ with
   |stuck=>rw[l]at i;exact(i rfl).elim
   |ret v j=>
    rw[l]at d t k
    simp only at d t
    obtain⟨β',w',B,h1,h2,m,r,args',hb,hg,rfl,z⟩:=hs (d.sub k)
    rw[h1]
    have g:=hc.2.2 b args args' s₁ β' w' m r h2.rel z hb hg (by rw[l];simp) (by rw[l];exact h2.freeOf d)
    rw[l]at g
    refine⟨nofun,?_⟩
    refine RoundIn.mono (F:=FW ro) g λe p ⟨β'',v',he,hx,hv⟩=>by
     subst he
     exact t v v' j β'' p rfl (h2.trans hx d) hv
   |panic c j=>
    rw[l]at d u k
    simp only at d u
    obtain⟨β',w',B,h1,h2,m,r,args',hb,hg,rfl,z⟩:=hs (d.sub k)
    rw[h1]
    have g:=hc.2.2 b args args' s₁ β' w' m r h2.rel z hb hg (by rw[l];simp) (by rw[l];exact h2.freeOf d)
    rw[l]at g
    refine⟨nofun,?_⟩
    refine RoundIn.mono (F:=FW ro) g λe p ⟨β'',c',he,hx,hv⟩=>by
     subst he
     exact u c c' j β'' p rfl (h2.trans hx d) hv
  |_=>exact(i rfl).elim
theorem dt{o:Oper}{a:Fr}{s:St}:(∀d s₁,eh P call o a s=.normal d s₁->∃v,d=a.put o.dst v)/\(∀c d s₁,eh P call o a s=.panic c d s₁->d=a) /\
 (∀id d s₁,eh P call o a s≠.exit id d s₁)/\(∀d s₁,eh P call o a s≠.ret d s₁):=by
 unfold eh
 cases zj P a.eval o.op s with
 |stuck=>simp
 |panic v s'=>simp
 |ok n s'=>
  cases n with
  |value v=>exact⟨λd s₁ h=>by cases h;exact⟨v,rfl⟩,by simp,by simp,by simp⟩
  |skip=>exact⟨λd s₁ h=>by cases h;exact⟨undef,rfl⟩,by simp,by simp,by simp⟩
  |enter f args=>
   simp only
   split
   .simp
   .cases call f args s' with
    |ret v e=>exact⟨λd s₁ h=>by cases h;exact⟨v,rfl⟩,by simp,by simp,by simp⟩
    |panic c e=>simp
    |stuck=>simp
  |round b f0 args x0 y0=>
   simp only
   cases call (zy+b) args s' with
   |ret v e=>exact⟨λd s₁ h=>by cases h;exact⟨v,rfl⟩,by simp,by simp,by simp⟩
   |panic c e=>simp
   |stuck=>simp
  |_=>simp
theorem gR(hc:∀f args s,(call f args s).nextLe s)(ops:List Oper):∀(l:List Oper) (a:Fr) (s:St),(YG P call ops l a s).nextLe s
 | [],a,s=>aN _
 |o::l,a,s=>by
  unfold YG
  split
  .have h1:=YH (P:=P) hc o a s
   cases d:eh P call o a s with
   |normal b s₁=>
    rw[d]at h1
    have h2:=gR hc ops l b s₁
    simp only
    cases e:YG P call ops l b s₁<;>rw[e]at h2<;>first|exact bK h1 h2|trivial
   |exit id b s₁=>rw[d]at h1;exact h1
   |ret b s₁=>rw[d]at h1;exact h1
   |panic c b s₁=>rw[d]at h1;exact h1
   |stuck=>trivial
  .exact gR hc ops l _ s
theorem cg.free_of{β:aS}{s s₁:St}{r:cg}(h:r.nextLe s₁)(hf:r.free β s)(b:r≠.stuck):cC β s s₁:=by
 cases r with
 |stuck=>exact(b rfl).elim
 |normal a s'=>exact hf.sub h
 |exit id a s'=>exact hf.sub h
 |ret a s'=>exact hf.sub h
 |panic c a s'=>exact hf.sub h
theorem Xt(hc:JQ P call)(ro:Option Nat)(ops:Array Oper):∀(l:List Oper),(∀o∈l,o.op.operands.toList.all k8=true)->∀(a:Fr) (a':Act) (s:St) (β:aS) (w:World),bh P β s w->cv P β a a'->ck lo β s w a'.defers ->
 YG P call ops.toList l a s≠.stuck->(YG P call ops.toList l a s).free β s->∀Q:Exit->Act->World->Prop,(∀e g m,fE P lo β s w (YG P call ops.toList l a s) e g m->Q e g m) ->
 wpListIn (FW ro) 0 P ops Q l a' w
 | [],_,a,a',s,β,w,h,hf,hm,_,_,Q,j=>j _ _ _ ⟨rfl,β,bp.refl h,hf,hm⟩
 |o::l,p,a,a',s,β,w,h,hf,hm,d,b,Q,j=>by
  unfold wpListIn
  unfold YG at d b j
  rw[<-mG hf ops o]
  cases hw:xZ ops.toList a o with
  |false=>
   rw[hw]at d b j
   simp only at d b j
   simp only[aV,cK]
   exact⟨λ_ _=>trivial,Xt hc ro ops l (λo' y=>p o' (by simp[y])) _ _ s β w h (hf.put o.dst wy) (by rw[wV];exact hm) d b Q j⟩
  |true=>
   rw[hw]at d b j
   simp only at d b j
   simp only[dQ]
   have n:=p o Y8
   rw[List.all_eq_true]at n
   have hρ:∀x∈o.op.operands.toList,ao P β (a.eval x) (a'.eval x):=λx hx=>hf.eval (n x hx)
   have A:=YH (P:=P) hc.1 o a s
   obtain⟨fr1,r,t,u⟩:=dt (P:=P) (call:=call) (o:=o) (a:=a) (s:=s)
   cases k:eh P call o a s with
   |stuck=>rw[k]at d;exact(d rfl).elim
   |exit id f s₁=>exact(t _ _ _ k).elim
   |ret f s₁=>exact(u _ _ k).elim
   |panic c f s₁=>
    rw[k]at b j
    simp only at b j
    have:=r _ _ _ k
    subst this
    refine wI hc h hρ (by rw[k];simp) (by rw[k];exact b) _ Q (λv v' s' β' w' e=>by rw[k]at e;cases e) (λchain i s' β' w' e hx z=>?_) ro
    rw[k]at e
    cases e
    exact j _ _ _ ⟨i,β',rfl,hx,z,hm.ext hx b⟩
   |normal f s₁=>
    rw[k]at b j d A
    simp only at b j d
    have B:=gR (P:=P) hc.1 ops.toList l f s₁
    have q:=cg.free_of B b d
    refine wI hc h hρ (by rw[k];simp) (by rw[k];exact q) _ Q (λv v' s' β' w' e hx hv=>?_) (λchain i s' β' w' e=>by rw[k]at e;cases e) ro
    rw[k]at e
    simp only[cg.normal.injEq]at e
    obtain⟨rfl,rfl⟩:=e
    exact Xt hc ro ops l (λo' y=>p o' (by simp[y])) _ _ s₁ β' w' hx.rel ((hf.mono hx.le).put o.dst hv) (by rw[wV];exact hm.ext hx q) d (hx.outFree b) Q
     λe g m ho=>j e g m (ho.trans hx b)
end
structure WF(s:St):Prop where
 room:s.next<=281474976710655
 top:∀b,s.next<=b->s.get b=none
structure Kp(s s':St):Prop where
 wf:WF s'
 next:s.next<=s'.next
 bar:s'.bar=s.bar
 prot:s'.prot=s.prot
 same:∀b,b<s.next->s.may b=false->s'.get b=s.get b
 dead:∀b,b<s.next->s.get b=none->s'.get b=none
def cE.keeps{α:Type}(s:St):cE α->Prop
 | .ok _ s' | .panic _ s'=>Kp s s'
 | .stuck=>True
def cg.keeps(s:St):cg->Prop
 | .normal _ s' | .exit _ _ s' | .ret _ s' | .panic _ _ s'=>Kp s s'
 | .stuck=>True
def aq.keeps(s:St):aq->Prop
 | .ret _ s' | .panic _ s'=>Kp s s'
 | .stuck=>True
theorem Kp.refl{s:St}(h:WF s):Kp s s:=⟨h,aN _,rfl,rfl,λ_ _ _=>rfl,λ_ _ h=>h⟩
theorem Kp.trans{s s₁ a:St}(h:Kp s s₁)(c:Kp s₁ a):Kp s a where
 wf:=c.wf
 next:=bK h.next c.next
 bar:=c.bar.trans h.bar
 prot:=c.prot.trans h.prot
 same:=λb hb hm=>by
  rw[c.same b (bL hb h.next) (by rw[St.may_eq h.bar h.prot];exact hm),h.same b hb hm]
 dead:=λb hb hg=>c.dead b (bL hb h.next) (h.dead b hb hg)
theorem WF.lt{s:St}(h:WF s){b:Nat}{o:ak}(hg:s.get b=some o):b<s.next:=
 eB λhc=>by rw[h.top b O]at hg;cases hg
theorem Kp.put{s:St}(h:WF s){b:Nat}{o:ak}(hg:s.get b=some o)(hm:s.may b=true)(o':Option ak):Kp s (s.put b o'):=by
 have hlt:=h.lt hg
 have hr:=h.room
 have d:=λb'=>St.get_put (s:=s) (b:=b) O o' b'
 refine⟨⟨h.room,λb' a=>?_⟩,aN _,rfl,rfl,λb' a c=>?_,λb' a hd=>?_⟩
 .simp at a;rw[d,aD O];exact h.top b' a
 .rw[d,aD (λe=>by rw[e,hm]at c;cases c)]
 .rw[d,aD (λe=>by rw[e,hg]at hd;cases hd)];exact hd
theorem Kp.new{s:St}(h:WF s)(b:s.room=true)(o:ak):Kp s (s.new o):=by
 have hr:=wp b
 have c:=λb'=>St.get_new (s:=s) O o b'
 refine⟨⟨by simp;omega,λb' a=>?_⟩,by simp,rfl,rfl,λb' a hm'=>?_,λb' a hd=>?_⟩
 .simp at a;rw[c,aD O];exact h.top b' O
 .rw[c,aD O]
 .rw[c,aD O];exact hd
section
variable{P:Program}{s:St}
theorem yp(h:WF s){v:Value}:(di v s).keeps s:=Kp.refl h
theorem zt{α:Type}:(cE.stuck:cE α).keeps s:=trivial
theorem uX{x:Sem Value}(hx:dB x)(h:WF s):((k6 P x s).map Next.value).keeps s:=by
 cases hx with
 |val hv=>exact Kp.refl h
 |err m=>exact Kp.refl h
 |stuck m=>trivial
 |unsupported u=>trivial
theorem j5(h:WF s){b off:Nat}{vs:List Value}:(xu b off vs s).keeps s:=by
 unfold xu
 split
 .rename_i c e hg
  split
  .rename_i c' hm _
   simp only[aF]at hm
   exact Kp.put h hg hm.2 _
  .split
   .exact Kp.refl h
   .exact zt
 .exact zt
theorem WK(h:WF s){b off:Nat}{vs:List Value}{n:Next}{s':St}(a:xu b off vs s=.ok n s'):Kp s s':=by
 have:=j5 h (b:=b) (off:=off) (vs:=vs)
 rw[a]at this
 exact this
theorem zeQ(h:WF s){e:TypeId}{c:List Value}{n:Nat}:(uP e c n s).keeps s:=by
 unfold uP
 split
 .rename_i a;exact Kp.new h a _
 .exact zt
theorem K6(h:WF s){e:TypeId}{c:List Value}{n k:Nat}:(newK e c n k s).keeps s:=by
 unfold newK
 split
 .rename_i a;exact Kp.new h a _
 .exact zt
theorem VU(h:WF s){e:TypeId}{c:List Value}:(XN e c s).keeps s:=by
 unfold XN
 split
 .rename_i a;exact Kp.new h a _
 .exact zt
theorem J8(h:WF s){sz:Nat}{a:Option Addr}{len c:Nat}{known:Bool}{lo hi mx:Option Value}:(xR sz a len c known lo hi mx s).keeps s:=by
 unfold xR
 (repeat' split)<;>first|exact zt|exact yp h
theorem lz(h:WF s){op:BinOp}{t:TypeId}{x y:Value}:(tK P op t x y s).keeps s:=by
 unfold tK
 (repeat' split)<;>first|exact zt|exact yp h
theorem zfe(h:WF s){op:BinOp}{t:TypeId}{k k':IntKind}{a b:Int}:(qU P op t k k' a b s).keeps s:=by
 unfold qU
 (repeat' split)<;>first|exact yp h|exact uX (ZG op t _ _ a b) h
theorem cE.keeps_trans{α:Type}{s₁:St}{r:cE α}(h:Kp s s₁)(b:r.keeps s₁):r.keeps s:=by
 cases r with
 |ok a s'=>exact h.trans b
 |panic v s'=>exact h.trans b
 |stuck=>trivial
theorem zcW(h:WF s){e:TypeId}{a:Option Addr}{cap need:Nat}{c:List Value}(b:wo e a cap s=true):(Zv e a cap need c s).keeps s:=by
 unfold Zv
 split
 .rename_i s' hk
  have d:Kp s s':=by
   unfold X8 at hk
   split at hk
   .cases hk;exact Kp.refl h
   .rename_i g
    split at hk
    .rename_i a
     split at hk
     .rename_i f
      cases hk
      unfold wo at b
      split at b
      .rename_i h0;exact(g h0).elim
      .simp only at b
       split at b
       .rename_i cc e' hg
        exact Kp.put h hg f _
       .cases b
     .cases hk
    .cases hk
  exact cE.keeps_trans d (zeQ d.wf)
 .exact zt
theorem WB(h:WF s){e:TypeId}{inf:TypeInfo}{base:Option Addr}{a cap n:Nat}{new:List Value}:(qc e inf base a cap n new s).keeps s:=by
 unfold qc
 split
 .split
  .rename_i b off
   split
   .rename_i nx s' c
    have:=j5 h (b:=b) (off:=off+a*inf.size) (vs:=new)
    rw[c]at this
    exact this
   .exact zt
  .split
   .exact yp h
   .exact zt
 .split
  .rename_i old hb _
   simp only[aF]at hb
   exact zcW h hb.2
  .exact zt
theorem WC(h:WF s){ts:List TypeId}{args:List Value}:(xe P ts args s).keeps s:=by
 unfold xe
 (repeat' split)<;>first|exact zt|exact WB h
theorem zdw(h:WF s){ts:List TypeId}{args:List Value}:(Qo P ts args s).keeps s:=by
 unfold Qo
 repeat' split
 all_goals first
  |exact zt
  |(rename_i a;exact WK h a)
theorem VS(h:WF s){b:Builtin}{ts:List TypeId}{args:List Value}:(xn P b ts args s).keeps s:=by
 unfold xn
 split
 .exact WC h
 .unfold nU;(repeat' split)<;>first|exact zt|exact yp h
 .unfold Vk;(repeat' split)<;>first|exact zt|exact yp h
 .unfold lW;(repeat' split)<;>first|exact zt|exact yp h
 .unfold lU;(repeat' split)<;>first|exact zt|exact yp h
 .exact zdw h
 .unfold Z7;(repeat' split)<;>first|exact zt|exact yp h|(rename_i a;exact WK h a)
 .exact zt
theorem zbT(h:WF s)(ρ:Operand->Value)(o:Op):(zj P ρ o s).keeps s:=by
 cases o with
 |move x=>exact yp h
 |assign x=>exact yp h
 |pick c a b=>simp only[zj];unfold YE;(repeat' split)<;>first|exact zt|exact yp h
 |load t a=>simp only[zj];unfold uI;(repeat' split)<;>first|exact zt|exact yp h
 |store t a v=>simp only[zj];unfold Xl;(repeat' split)<;>first|exact zt|exact j5 h
 |box e x=>exact VU h
 |alloc e=>simp only[zj];unfold jh gJ;(repeat' split)<;>first|exact zt|exact VU h
 |fieldAddr t x f=>simp only[zj];unfold ju;(repeat' split)<;>first|exact zt|exact yp h
 |indexAddr t x i=>simp only[zj];unfold kS xl;(repeat' split)<;>first|exact zt|exact yp h
 |binOp op t x y yt=>simp only[zj];unfold qM;(repeat' split)<;>first|exact zfe h|exact uX (scalar_string _ _ _ _) h|exact lz h
 |unOp op t x=>simp only[zj];unfold BS;(repeat' split)<;>first|exact zt|exact yp h|exact uX (YB _ _ _) h
 |extract x i=>simp only[zj];unfold vF;(repeat' split)<;>first|exact zt|exact yp h
 |nilCheck x=>simp only[zj];unfold K3;(repeat' split)<;>first|exact zt|exact yp h
 |sliceToArrayPointer t x=>simp only[zj];unfold iN;(repeat' split)<;>first|exact zt|exact yp h
 |convert src dst x=>simp only[zj];unfold vG;(repeat' split)<;>first|exact zt|exact yp h
 |makeFunc fn f c=>simp only[zj];(repeat' split)<;>first|exact zt|exact yp h
 |slice t x lo hi mx=>simp only[zj];unfold qf;(repeat' split)<;>first|exact zt|exact J8 h
 |field t x f=>simp only[zj];unfold ZV;(repeat' split)<;>first|exact zt|exact yp h
 |index t x i=>simp only[zj];unfold wK;(repeat' split)<;>first|exact zt|exact yp h
 |call c=>
  simp only[zj]
  split
  .unfold jV;(repeat' split)<;>first|exact zt|exact Kp.refl h
  .exact VS h
  .exact zt
 |build t parts=>simp only[zj];unfold wT;(repeat' split)<;>first|exact zt|exact yp h
 |buildSlice t len parts=>simp only[zj];unfold qJ;(repeat' split)<;>first|exact zt|exact K6 h
 |makeSlice t l c=>simp only[zj];unfold qL;(repeat' split)<;>first|exact zt|exact K6 h
 |_=>exact zt
theorem aq.keeps_trans{s₁:St}{r:aq}(h:Kp s s₁)(b:r.keeps s₁):r.keeps s:=by
 cases r with
 |ret a s'=>exact h.trans b
 |panic v s'=>exact h.trans b
 |stuck=>trivial
theorem cg.keeps_trans{s₁:St}{r:cg}(h:Kp s s₁)(b:r.keeps s₁):r.keeps s:=by
 cases r with
 |normal a s'=>exact h.trans b
 |exit id a s'=>exact h.trans b
 |ret a s'=>exact h.trans b
 |panic c a s'=>exact h.trans b
 |stuck=>trivial
variable{call:FuncId->Array Value->St->aq}
theorem jK(hc:∀f args s,WF s->(call f args s).keeps s)(h:WF s)(o:Oper)(a:Fr):(eh P call o a s).keeps s:=by
 unfold eh
 have hk:=zbT (P:=P) h a.eval o.op
 cases hs:zj P a.eval o.op s with
 |stuck=>trivial
 |panic v s'=>rw[hs]at hk;exact hk
 |ok n s'=>
  rw[hs]at hk
  cases n<;>simp only[]<;>first|exact hk|trivial|skip
  .rename_i f args
   have hk:Kp s s':=hk
   have h2:=hc f args s' hk.wf
   split
   .trivial
   .cases e:call f args s' with
    |ret v d=>rw[e]at h2;exact hk.trans h2
    |panic c d=>rw[e]at h2;exact hk.trans h2
    |stuck=>trivial
  .rename_i b _ args _ _
   have hk:Kp s s':=hk
   have h2:=hc (zy+b) args s' hk.wf
   cases e:call (zy+b) args s' with
   |ret v d=>rw[e]at h2;exact hk.trans h2
   |panic c d=>rw[e]at h2;exact hk.trans h2
   |stuck=>trivial
theorem ZH(hc:∀f args s,WF s->(call f args s).keeps s)(ops:List Oper):∀(l:List Oper) (a:Fr) (s:St),WF s->(YG P call ops l a s).keeps s
 | [],a,s,h=>Kp.refl h
 |o::l,a,s,h=>by
  unfold YG
  split
  .have h1:=jK (P:=P) hc h o a
   cases d:eh P call o a s with
   |normal b s₁=>
    rw[d]at h1
    have h1:Kp s s₁:=h1
    exact cg.keeps_trans h1 (ZH hc ops l b s₁ h1.wf)
   |exit id b s₁=>rw[d]at h1;exact h1
   |ret b s₁=>rw[d]at h1;exact h1
   |panic c b s₁=>rw[d]at h1;exact h1
   |stuck=>trivial
  .exact ZH hc ops l _ s h
theorem Kp.relax{s s₀ s₁:St}(c:s₀.heap=s.heap)(hn:s₀.next=s.next)(hm:∀b,s.may b=false->b<s.next->s₀.may b=false)(h:Kp s₀ s₁) :
 Kp s {next:=s₁.next,bar:=s.bar,prot:=s.prot,heap:=s₁.heap}:=by
 have hg:∀b,s₀.get b=s.get b:=λb=>by simp only[St.get,c]
 refine⟨⟨h.wf.room,h.wf.top⟩,by have:=h.next;simp only;omega,rfl,rfl,λb hb a=>?_,λb hb hd=>?_⟩
 .have:=h.same b O (hm b a hb)
  rw[hg]at this
  exact this
 .have:=h.dead b O (by rw[hg];exact hd)
  exact this
theorem WF.of_heap{s s₀:St}(h:WF s)(a:s₀.heap=s.heap)(hn:s₀.next=s.next):WF s₀:=
 ⟨by rw[hn];exact h.room,λb hb=>by
  have:=h.top b O
  simpa only[St.get,a]using this⟩
theorem ws(hc:∀f args s,WF s->(call f args s).keeps s)(h:WF s)(ops:List Oper)(d:an)(o:Oper)(a:Fr):(yO P call ops d o a s).keeps s:=by
 unfold yO
 split
 .split
  .split
   .split
    .exact Kp.refl h
    .trivial
   .trivial
  .have h0:WF {s with prot:=xa ops a d.free++s.prot}:=h.of_heap rfl rfl
   have h1:=jK (P:=P) hc h0 o a
   split
   .rename_i e s' g
    rw[g]at h1
    exact Kp.relax (s:=s) (s₀:={s with prot:=xa ops a d.free++s.prot}) rfl rfl (λb hb _=>by
     unfold St.may at hb |-
     simp only[eK,eU,List.any_append,dA]at hb |-
     rcases hb with hb|hb
     .exact .inl hb
     .exact .inr (.inr hb)) h1
   .rename_i c e s' g
    rw[g]at h1
    exact Kp.relax (s:=s) (s₀:={s with prot:=xa ops a d.free++s.prot}) rfl rfl (λb hb _=>by
     unfold St.may at hb |-
     simp only[eK,eU,List.any_append,dA]at hb |-
     rcases hb with hb|hb
     .exact .inl hb
     .exact .inr (.inr hb)) h1
   .trivial
  .have h0:WF {s with bar:=s.next}:=h.of_heap rfl rfl
   have h1:=jK (P:=P) hc h0 o a
   split
   .rename_i e s' g
    rw[g]at h1
    exact Kp.relax (s:=s) (s₀:={s with bar:=s.next}) rfl rfl (λb _ hb=>by
     unfold St.may
     simp only[eK]
     left
     rw[cM]
     intro i
     have:=aR i
     omega) h1
   .trivial
  .split
   .split
    .rename_i hn _ _
     split
     .exact Kp.new h (by rw[aF]at hn;exact hn.2) _
     .trivial
    .trivial
   .trivial
 .exact Kp.refl h
theorem Ql(hc:∀f args s,WF s->(call f args s).keeps s)(ops:List Oper):∀(l:List an) (a:Fr) (s:St),WF s->(wh P call ops l a s).keeps s
 | [],a,s,h=>Kp.refl h
 |d::l,a,s,h=>by
  unfold wh
  split
  .rename_i o _
   have h1:=ws (P:=P) hc h ops d o a
   cases e:yO P call ops d o a s with
   |normal b s₁=>
    rw[e]at h1
    have h1:Kp s s₁:=h1
    exact cg.keeps_trans h1 (Ql hc ops l b s₁ h1.wf)
   |exit id b s₁=>rw[e]at h1;exact h1
   |ret b s₁=>rw[e]at h1;exact h1
   |panic c b s₁=>rw[e]at h1;exact h1
   |stuck=>trivial
  .trivial
end
inductive fI(ops:Array Oper):(Nat->Prop)->List Nat->Prop where
 |nil {L:Nat->Prop} (h:∀i,i<ops.size->L i):fI ops L []
 |cons {L:Nat->Prop} {i:Nat} {rest:List Nat} (hi:i<ops.size) (hn:¬L i) (he:∀o,ops[i]? = some o->∀e∈o.after.toList,Region.binds .any e=true->L e.on)
  (h:fI ops (λk=>L k\/k=i) rest):fI ops L (i::rest)
theorem Jv{p q:Nat->Bool}:∀(l:List Nat),(∀x,q x=true->p x=true)->(∃x∈l,p x=true/\q x=false)->(l.filter q).length<(l.filter p).length
 | [],_,h=>by obtain⟨x,hx,_⟩:=h;simp at hx
 |y::l,a,h=>by
  have le:∀l:List Nat,(l.filter q).length<=(l.filter p).length:=by
   intro l
   induction l with
   |nil=>simp
   |cons z l c=>
    simp only[List.filter_cons]
    cases b:q z with
    |true=>rw[a z b];simp;exact c
    |false=>cases p z<;>simp<;>omega
  obtain⟨x,hx,h1,h2⟩:=h
  simp only[List.filter_cons]
  rcases aJ.1 hx with rfl|hx
  .rw[h1,h2]
   have:=le l
   simp;omega
  .have c:=Jv l a ⟨x,hx,h1,h2⟩
   cases b:q y with
   |true=>rw[a y b];simp;exact c
   |false=>cases p y<;>simp<;>omega
section
variable(ops:Array Oper)
def wq(a:Array Bool)(i:Nat):Bool:=
 !a.getD i true&&((ops[i]?).map (·.after.all λe=> !Region.binds .any e||a.getD e.on false)).getD false
theorem zcY(hb:∀i o,ops[i]? = some o->∀e∈o.after.toList,Region.binds .any e=true->e.on<i):∀(fuel t:Nat) (a:Array Bool) (acc:List Nat),a.size=ops.size ->
 ((List.range ops.size).filter λi=> !a.getD i true).length<=fuel ->
 ∃rest,Region.linearise.go .any ops fuel t a acc=acc.reverse++rest/\fI ops (λi=>a.getD i false=true) rest
 |0,t,a,acc,hs,hc=>by
  refine⟨[],by simp[Region.linearise.go],.nil λi hi=>?_⟩
  have h0:(List.range ops.size).filter (λi=> !a.getD i true)=[]:=dL O
  have:=List.filter_eq_nil_iff.1 h0 i (by simpa using hi)
  simp only[bB,Bool.not_eq_false]at this
  rw[bD]at this |-
  rw[Array.getElem?_eq_getElem O]at this |-
  exact this
 |fuel+1,t,a,acc,hs,hc=>by
  have h:∀i,i<ops.size->∀d,a.getD i d=a.getD i false:=λi hi d=>by
   rw[bD,bD,Array.getElem?_eq_getElem O];rfl
  unfold Region.linearise.go
  have s:((List.range ops.size).filter λi=> !a.getD i true&&((ops[i]?).map (·.after.all λe=> !Region.binds .any e||a.getD e.on false)).getD false)=(List.range ops.size).filter (wq ops a):=rfl
  simp only[s]
  cases m:((List.range ops.size).filter (wq ops a))[t % ((List.range ops.size).filter (wq ops a)).length]? with
  |none=>
   -- nothing is ready: everything is listed
   have j:(List.range ops.size).filter (wq ops a)=[]:=by
    cases hl:(List.range ops.size).filter (wq ops a)with
    |nil=>rfl
    |cons x xs=>
     rw[hl]at m
     have:t % (x::xs).length<(x::xs).length:=Nat.mod_lt _ Y8
     rw[aE this]at m
     cases m
   have all:∀i,i<ops.size->a.getD i false=true:=by
    intro i
    induction i using Nat.strongRecOn with
    |_ i u=>
     intro hi
     cases hv:a.getD i false with
     |true=>rfl
     |false=>
      exfalso
      have r:=List.filter_eq_nil_iff.1 j i (by simpa using hi)
      apply r
      unfold wq
      rw[h i hi true,hv]
      simp only[Bool.not_false,Bool.true_and]
      rw[Array.getElem?_eq_getElem hi]
      simp only[cQ,bN,Array.all_eq_true_iff_forall_mem]
      intro e he
      cases g:Region.binds .any e with
      |false=>rfl
      |true=>
       have n:=hb i ops[i] (by simp[hi]) e (by simpa using he) g
       simp[u e.on n O]
   exact⟨[],by simp,.nil all⟩
  |some i=>
   have f:i∈(List.range ops.size).filter (wq ops a):=List.mem_of_getElem? m
   simp only[List.mem_filter,dX]at f
   obtain⟨hi,c⟩:=f
   unfold wq at c
   simp only[aF]at c
   obtain⟨h1,h2⟩:=c
   rw[h i hi true]at h1
   have l:a.getD i false=false:=by simpa using h1
   have b:∀k d,(a.setIfInBounds i true).getD k d=if k=i then true else a.getD k d:=λk d=>by
    rw[bD,bD]
    by_cases hk:k=i
    .subst hk
     rw[Array.getElem?_setIfInBounds_self_of_lt O,aG rfl];rfl
    .rw[Array.getElem?_setIfInBounds_ne (Ne.symm hk),aD hk]
   obtain⟨rest,g1,g2⟩:=zcY hb fuel (t / ((List.range ops.size).filter (wq ops a)).length) (a.setIfInBounds i true) (i::acc) (by simpa using hs) (by
    have:=Jv (p:=λk=> !a.getD k true) (q:=λk=> !(a.setIfInBounds i true).getD k true) (List.range ops.size) (λx hx=>by
     rw[b]at hx
     split at hx
     .simp at hx
     .exact hx)
     ⟨i,by simpa using hi,by rw[h i hi true,l];rfl,by rw[b,aG rfl];rfl⟩
    omega)
   refine⟨i::rest,by simp[g1],.cons hi (by rw[l];simp) (λo ho e he g=>?_) ?_⟩
   .rw[ho]at h2
    simp only[cQ,bN,Array.all_eq_true_iff_forall_mem]at h2
    have:=h2 e (by simpa using he)
    rw[g]at this
    simpa using this
   .have e1:(λk=>a.getD k false=true\/k=i)=(λk=>(a.setIfInBounds i true).getD k false=true):=by
     funext k
     rw[b]
     by_cases hk:k=i<;>simp[hk]
    rw[e1];exact g2
theorem QC(hb:∀i o,ops[i]? = some o->∀e∈o.after.toList,Region.binds .any e=true->e.on<i)(t:Nat):fI ops (λ_=>False) (Region.linearise .any ops t):=by
 obtain⟨rest,h1,h2⟩:=zcY ops hb ops.size t (Array.replicate ops.size false) [] Y8 (by
  refine bK (List.length_filter_le _ _) ?_
  simp)
 unfold Region.linearise
 rw[h1]
 simp only[List.reverse_nil,cJ]
 have e1:(λi=>(Array.replicate ops.size false).getD i false=true)=(λ_=>False):=by
  funext i
  rw[bD,Array.getElem?_replicate]
  split<;>simp
 rw[e1]at h2
 exact h2
end
structure nk(ops:Array Oper)(l:List an)(anc:Nat->Nat):Prop where
 op:∀(p:Nat) (d:an),l[p]? = some d->∃o,ops[d.ix]? = some o
 surj:∀i,i<ops.size->∃(p:Nat) (d:an),l[p]? = some d/\d.ix=i
 ancOf:∀(p:Nat) (d:an),l[p]? = some d->d.anc=anc d.ix
 edges:∀i o,ops[i]? = some o->∀e∈o.after.toList,Region.binds .any e=true->e.on<i/\(anc i).testBit e.on=true
 below:∀i o k,ops[i]? = some o->(anc i).testBit k=true->k<i
 just:∀i o k,ops[i]? = some o->(anc i).testBit k=true->∃e∈o.after.toList,Region.binds .any e=true/\(e.on=k\/(anc e.on).testBit k=true)
 reads:∀i o,ops[i]? = some o->∀t,Operand.tmp t∈o.op.operands.toList->∀u q,ops[u]? = some q->q.dst=some t->(anc i).testBit u=true\/(FX o=false/\(u=i\/(anc u).testBit i=true))
 guard:∀i o g,ops[i]? = some o->o.guard=some g->(anc i).testBit g.1=true
 pair:∀(p q:Nat) (x y:an),p<q->l[p]? = some x->l[q]? = some y->x.ix≠y.ix/\(anc x.ix).testBit y.ix=false /\
  ((anc y.ix).testBit x.ix=false->gi x.how=false/\(gi y.how=true->(Ke x.how=true\/Wu x.how=true)/\∀o,ops[x.ix]? = some o->(FX o=true\/Wu x.how=true)->x.ix∈y.free))
 dst:∀(i j:Nat) (o q:Oper) (t:Tmp),ops[i]? = some o->ops[j]? = some q->o.dst=some t->q.dst=some t->i=j
 light:∀(p:Nat) (d:an) o,l[p]? = some d->ops[d.ix]? = some o->Ke d.how=true->jg o=true
 alloc:∀(p:Nat) (d:an) o,l[p]? = some d->ops[d.ix]? = some o->Wu d.how=true->(uo o||zfd o)=true
theorem gu:∀(l:List (Option Tmp)),vS l=true->∀(i j:Nat) (t:Tmp),l[i]? = some (some t)->l[j]? = some (some t)->i=j
 | [],_,i,j,t,h,_=>by simp at h
 |x::l,hd,i,j,t,hi,hj=>by
  have tail:vS l=true:=by
   cases x with
   |none=>exact hd
   |some u=>unfold vS at hd;simp only[aF]at hd;exact hd.2
  have head:∀k,x=some t->l[k]? = some (some t)->False:=λk hx hk=>by
   subst hx
   unfold vS at hd
   simp only[aF,List.all_eq_true]at hd
   have:=hd.1 _ (List.mem_of_getElem? hk)
   simp at this
  cases i with
  |zero=>cases j with
   |zero=>rfl
   |succ j=>simp at hi hj;exact(head j hi hj).elim
  |succ i=>cases j with
   |zero=>simp at hi hj;exact(head i hj hi).elim
   |succ j=>simp at hi hj;rw[gu l tail i j t hi hj]
theorem X1{ops:List Oper}:∀(l:List an),R8 ops l=true->∀(p q:Nat) (x y:an),p<q->l[p]? = some x->l[q]? = some y->qs ops x y=true
 | [],_,p,q,x,y,_,h,_=>by simp at h
 |z::l,hp,p,q,x,y,hlt,hx,a=>by
  unfold R8 at hp
  simp only[aF,List.all_eq_true]at hp
  cases q with
  |zero=>omega
  |succ q=>
   simp at a
   cases p with
   |zero=>simp at hx;subst hx;exact hp.1 _ (List.mem_of_getElem? a)
   |succ p=>simp at hx;exact X1 l hp.2 p q x y O hx a
theorem Bv{ops:Array Oper}{l:List an}(h:Zt ops.toList l=true):∃anc,nk ops l anc:=by
 unfold Zt at h
 simp only[aF]at h
 obtain⟨⟨⟨⟨⟨⟨h1,h2⟩,J⟩,K⟩,L⟩,Q⟩,R⟩:=h
 have h2:=aK h2
 rw[yf,yf]at h2
 let anc:Nat->Nat:=λi=>((iI ops.toList)[i]?).getD 0
 have b:∀i m,zH (iI ops.toList) i=some m->m=anc i:=λi m hm=>by rw[zN]at hm;simp only[anc,hm];rfl
 have each:∀i o,ops[i]? = some o->nJ (iI ops.toList) i o (anc i)=true/\R6 ops.toList (iI ops.toList) i (anc i) o=true:=λi o ho=>by
  rw[List.all_eq_true]at J
  have:=J (o,i) (by
   rw[List.mem_zipIdx_iff_getElem?]
   simpa using ho)
  simp only at this
  split at this
  .rename_i m hm
   rw[b i m hm]at this
   simpa using this
  .cases this
 have drawn:∀(p:Nat) (d:an),l[p]? = some d->(∃o,ops[d.ix]? = some o)/\d.anc=anc d.ix/\(∀o,ops[d.ix]? = some o->Ke d.how=true->jg o=true)/\(∀o,ops[d.ix]? = some o->Wu d.how=true->(uo o||zfd o)=true):=λp d hd=>by
  rw[List.all_eq_true]at K
  have:=K d (List.mem_of_getElem? hd)
  simp only[aF]at this
  obtain⟨g1,g2⟩:=this
  have ha:d.anc=anc d.ix:=by
   split at g1
   .rename_i m hm
    have:=aK g1
    rw[<-this];exact b _ _ hm
   .cases g1
  unfold pk at g2
  split at g2
  .rename_i o ho
   rw[zN]at ho
   have r:ops[d.ix]? = some o:=by simpa using ho
   rw[aF,dA,dA,bB,bB]at g2
   refine⟨⟨o,r⟩,ha,λU f a=>?_,λU f a=>?_⟩
   .rw[r]at f;cases f
    rcases g2.1 with g|g
    .rw[a]at g;cases g
    .exact g
   .rw[r]at f;cases f
    rcases g2.2 with g|g
    .rw[a]at g;cases g
    .exact g
  .cases g2
 refine⟨anc,{
  op:=λp d hd=>(drawn p d hd).1
  surj:=λi hi=>?_
  ancOf:=λp d hd=>(drawn p d hd).2.1
  edges:=λi o ho e he hb=>?_
  below:=λi o k ho hk=>?_
  just:=λi o k ho hk=>?_
  reads:=λi o ho t T u q B hd=>?_
  guard:=λi o g ho hg=>?_
  pair:=λp q x y c hx M=>?_
  dst:=λi j o q t ho B h1 h2=>?_
  light:=λp d o hd ho hl=>(drawn p d hd).2.2.1 o ho hl
  alloc:=λp d o hd ho hl=>(drawn p d hd).2.2.2 o ho hl}⟩
 .rw[List.all_eq_true]at L
  have:=L i (by rw[yf];simpa using hi)
  rw[dT]at this
  obtain⟨d,hd,he⟩:=this
  obtain⟨p,hp⟩:=List.getElem?_of_mem hd
  exact⟨p,d,hp,aK he⟩
 .have:=(each i o ho).1
  unfold nJ at this
  simp only[aF,List.all_eq_true]at this
  have:=this.1.1 e he
  rw[hb]at this
  simp only[eJ,Bool.false_or,aF]at this
  exact⟨by simpa[Nat.blt_eq]using this.1,this.2⟩
 .have:=(each i o ho).1
  unfold nJ at this
  simp only[aF,List.all_eq_true]at this
  obtain⟨⟨_,_⟩,n⟩:=this
  have c:anc i<2 ^ i:=by simpa[Nat.blt_eq]using n
  rcases cP k i with a|a
  .exact a
  .rw[Nat.testBit_lt_two_pow (bL c (Nat.pow_le_pow_right O a))]at hk;cases hk
 .have:=(each i o ho).1
  unfold nJ at this
  simp only[aF,List.all_eq_true]at this
  obtain⟨⟨_,g2⟩,n⟩:=this
  have c:anc i<2 ^ i:=by simpa[Nat.blt_eq]using n
  have E:k<i:=by
   rcases cP k i with a|a
   .exact a
   .rw[Nat.testBit_lt_two_pow (bL c (Nat.pow_le_pow_right O a))]at hk;cases hk
  have:=g2 k (by simpa using E)
  rw[hk]at this
  simp only[eJ,Bool.false_or,dT,aF,dA]at this
  obtain⟨e,he,hb,G⟩:=this
  refine⟨e,he,hb,?_⟩
  rcases G with a|a
  .exact .inl (aK a)
  .right
   split at a
   .rename_i q B;rw[<-b _ _ B];exact a
   .cases a
 .have:=(each i o ho).2
  unfold R6 at this
  simp only[aF,List.all_eq_true]at this
  have:=this.1 _ T
  simp only[List.all_eq_true]at this
  have:=this (q,u) (by rw[List.mem_zipIdx_iff_getElem?];simpa using B)
  simp only[hd]at this
  have hb:Nat.beq t t=true:=by simp
  simp only[hb,eJ,Bool.false_or,dA,aF,bB]at this
  rcases this with a|⟨hl,a⟩
  .exact .inl a
  .right
   refine⟨hl,?_⟩
   rcases a with a|a
   .exact .inl (aK a)
   .right
    split at a
    .rename_i m hm;rw[<-b _ _ hm];exact a
    .cases a
 .have:=(each i o ho).2
  unfold R6 at this
  simp only[aF]at this
  rw[hg]at this
  exact this.2
 .have s:=X1 l Q p q x y c hx M
  unfold qs at s
  have z:=(drawn p x hx).2.1
  have C:=(drawn q y M).2.1
  simp only[aF,bB,dA]at s
  obtain⟨⟨g1,g2⟩,n⟩:=s
  rw[z]at g2
  have F:x.ix≠y.ix:=λe=>by rw[e]at g1;simp at g1
  refine⟨F,g2,λH=>?_⟩
  have D:zbn x y=true:=by
   unfold zbn
   simp[g1,z,C,g2,H]
  rcases n with n|⟨n,v⟩
  .rw[D]at n;cases n
  .refine⟨n,λhw=>?_⟩
   rcases v with v|⟨v,w⟩
   .rw[hw]at v;cases v
   .refine⟨by simpa using v,λo ho hl=>?_⟩
    have:zH ops.toList x.ix=some o:=by rw[zN];simpa using ho
    rw[this]at w
    simp only[dA,bB,Bool.or_eq_false_iff,dT]at w
    rcases w with⟨w,I⟩|⟨k,hk,a⟩
    .rcases hl with hl|hl
     .rw[hl]at w;cases w
     .rw[hl]at I;cases I
    .rw[aK a];exact hk
 .refine gu _ R i j t ?_ ?_
  .simp[ho,h1]
  .simp[B,h2]
section
variable{P:Program}{call:FuncId->Array Value->St->aq}
structure dq(P:Program)(call:FuncId->Array Value->St->aq)(ops:Array Oper)(l:List an)(N:Nat)(A:Nat->Fr)(S:Nat->St):Prop where
 le:N<=l.length
 step:∀p,p<N->∃d o,l[p]? = some d/\ops[d.ix]? = some o/\yO P call ops.toList d o (A p) (S p)=.normal (A (p+1)) (S (p+1))
theorem zdD{ops:Array Oper}:∀(l:List an) (a:Fr) (s:St),wh P call ops.toList l a s≠.stuck->∃N A S,A 0=a/\S 0=s/\dq P call ops l N A S /\
 ((N=l.length/\wh P call ops.toList l a s=.normal (A N) (S N)) \/
  ∃d o c b s₁,l[N]? = some d/\ops[d.ix]? = some o/\yO P call ops.toList d o (A N) (S N)=.panic c b s₁/\wh P call ops.toList l a s=.panic c b s₁)
 | [],a,s,_=>⟨0,λ_=>a,λ_=>s,rfl,rfl,⟨aN _,λp hp=>by omega⟩,.inl ⟨rfl,rfl⟩⟩
 |d::l,a,s,e=>by
  unfold wh at e |-
  cases ho:zH ops.toList d.ix with
  |none=>rw[ho]at e;exact(e rfl).elim
  |some o=>
   rw[ho]at e
   simp only at e |-
   have j:ops[d.ix]? = some o:=by rw[zN]at ho;simpa using ho
   cases f:yO P call ops.toList d o a s with
   |stuck=>rw[f]at e;exact(e rfl).elim
   |exit id b s₁=>
    exfalso
    unfold yO at f
    (repeat' split at f)<;>cases f
   |ret b s₁=>
    exfalso
    unfold yO at f
    (repeat' split at f)<;>cases f
   |panic c b s₁=>
    exact⟨0,λ_=>a,λ_=>s,rfl,rfl,⟨cH _,λp hp=>by omega⟩,.inr ⟨d,o,c,b,s₁,rfl,j,f,rfl⟩⟩
   |normal b s₁=>
    rw[f]at e
    simp only at e |-
    obtain⟨N,A,S,t,u,h,i⟩:=zdD l b s₁ e
    refine⟨N+1,λp=>match p with|0=>a|q+1=>A q,λp=>match p with|0=>s|q+1=>S q,rfl,rfl,⟨by simp;exact h.le,λp hp=>?_⟩,?_⟩
    .cases p with
     |zero=>exact⟨d,o,rfl,j,by rw[f];simp only[t,u]⟩
     |succ p=>
      obtain⟨m,o',g1,g2,n⟩:=h.step p O
      exact⟨m,o',by simpa using g1,g2,n⟩
    .rcases i with⟨g1,g2⟩|⟨m,o',c,g,k,g1,g2,n,r⟩
     .exact .inl ⟨by simp[g1],g2⟩
     .exact .inr ⟨m,o',c,g,k,by simpa using g1,g2,n,r⟩
theorem wu{ops:List Oper}{d:an}{o:Oper}{a b:Fr}{s s₁:St}(h:yO P call ops d o a s=.normal b s₁):∃v,b=a.put o.dst v:=by
 unfold yO at h
 split at h
 .split at h
  .split at h
   .rename_i a' s' c
    split at h
    .cases h;exact(dt.1 _ _ c)
    .cases h
   .cases h
  .split at h
   .rename_i a' s' c;cases h;exact(dt.1 _ _ c)
   .cases h
   .cases h
  .split at h
   .rename_i a' s' c;cases h;exact(dt.1 _ _ c)
   .cases h
  .split at h
   .rename_i a' s' c
    split at h
    .split at h
     .cases h;exact(dt.1 _ _ c)
     .cases h
    .cases h
   .cases h
 .cases h;exact⟨_,rfl⟩
theorem zfy{ops:List Oper}{d:an}{o:Oper}{a c:Fr}{s s₁:St}(h:yO P call ops d o a s=.normal c s₁)(hw:xZ ops a o=true)(f:d.how=.new) :
 ∃s' ob,eh P call o a {next:=s.next,bar:=s.next,prot:=[],heap:=.nil}=.normal c s'/\s'.next=s.next+1/\s.room=true/\xN c o=some s.next/\s'.get s.next=some ob/\s₁=s.new ob:=by
 unfold yO at h
 rw[hw,f]at h
 simp only at h
 split at h
 .rename_i a' s' g
  split at h
  .rename_i b ob hn hb hg
   split at h
   .rename_i e
    cases h
    rw[aF]at hn
    rw[aK e]at hb
    exact⟨s',ob,g,aK hn.1,hn.2,hb,hg,rfl⟩
   .cases h
  .cases h
 .cases h
theorem put_size(a:Fr)(dst:Option Tmp)(v:Value):(a.put dst v).size=a.size:=by
 unfold Fr.put
 (repeat' split)<;>rfl
theorem WX{a:Fr}(hs:a.size<=65534){dst:Option Tmp}{v:Value}{t:Nat}(h:dst≠some t):(a.put dst v).get t=a.get t:=by
 unfold Fr.put
 split
 .rename_i d
  split
  .rename_i b
   change Nat at d
   have b:d<a.size:=by simpa[Nat.blt_eq]using b
   unfold Fr.get
   rw[Tr.get_put vR _ _ _ _ (by have:(2:Nat) ^ vR=65536:=U;omega),aD (λe=>h (by rw[e]))]
  .rfl
 .rfl
variable{ops:Array Oper}{l:List an}{N:Nat}{A:Nat->Fr}{S:Nat->St}
theorem dq.size(h:dq P call ops l N A S):∀p,p<=N->(A p).size=(A 0).size
 |0,_=>rfl
 |p+1,hp=>by
  obtain⟨d,o,_,_,a⟩:=h.step p O
  obtain⟨v,hv⟩:=wu a
  rw[hv,put_size,dq.size h p O]
theorem dq.keepsSlot(h:dq P call ops l N A S)(hs:(A 0).size<=65534)(t:Nat)(p:Nat):∀q,p<=q->q<=N ->
 (∀r d o,p<=r->r<q->l[r]? = some d->ops[d.ix]? = some o->o.dst≠some t)->(A q).get t=(A p).get t:=by
 intro q
 induction q with
 |zero=>intro b _ _;have:p=0:=O;subst this;rfl
 |succ q f=>
  intro b hq a
  by_cases he:p=q+1
  .subst he;rfl
  .obtain⟨d,o,h1,h2,e⟩:=h.step q O
   obtain⟨v,hv⟩:=wu e
   rw[hv,WX (by rw[dq.size h q O];exact hs) (a q d o O O h1 h2)]
   exact f O O λr d o c hr2=>a r d o c O
theorem dq.kp(h:dq P call ops l N A S)(hk:∀f args s,WF s->(call f args s).keeps s)(h0:WF (S 0)):∀q,q<=N->Kp (S 0) (S q)
 |0,_=>Kp.refl h0
 |q+1,hq=>by
  have a:=dq.kp h hk h0 q O
  obtain⟨d,o,_,_,b⟩:=h.step q O
  have:=ws (P:=P) hk a.wf ops.toList d o (A q)
  rw[b]at this
  exact a.trans this
theorem dq.kp2(h:dq P call ops l N A S)(hk:∀f args s,WF s->(call f args s).keeps s)(h0:WF (S 0))(p:Nat):∀q,p<=q->q<=N->Kp (S p) (S q):=by
 intro q
 induction q with
 |zero=>intro b _;have:p=0:=O;subst this;exact Kp.refl h0
 |succ q a=>
  intro b c
  by_cases he:p=q+1
  .subst he;exact Kp.refl (h.kp hk h0 _ c).wf
  .have a:=a O O
   obtain⟨d,o,_,_,e⟩:=h.step q O
   have:=ws (P:=P) hk a.wf ops.toList d o (A q)
   rw[e]at this
   exact a.trans this
theorem YX(hk:∀f args s,WF s->(call f args s).keeps s){ops:List Oper}{d:an}{o:Oper}{a c:Fr}{s s₁:St}(g:WF s)(h:yO P call ops d o a s=.normal c s₁)(hw:gi d.how=false) :
 ∀b,b<s.next->s₁.get b=s.get b:=by
 intro b hb
 unfold yO at h
 split at h
 .split at h
  .split at h
   .split at h
    .cases h;rfl
    .cases h
   .cases h
  .rename_i e;rw[e]at hw;cases hw
  .have h0:WF {s with bar:=s.next}:=g.of_heap rfl rfl
   have h1:=jK (P:=P) hk h0 o a
   split at h
   .rename_i a' s' i
    cases h
    rw[i]at h1
    have h1:Kp {s with bar:=s.next} s':=h1
    have:=h1.same b hb (by
     unfold St.may
     simp only[eK]
     left
     rw[cM]
     intro e
     have:=aR e
     omega)
    exact this
   .cases h
  .split at h
   .split at h
    .rename_i hn _ _
     split at h
     .cases h
      rw[aF]at hn
      have:=wp hn.2
      rw[St.get_new O,aD O]
     .cases h
    .cases h
   .cases h
 .cases h;rfl
theorem Qk(hk:∀f args s,WF s->(call f args s).keeps s){ops:List Oper}{d:an}{o:Oper}{a c:Fr}{s s₁:St}(g:WF s)(h:yO P call ops d o a s=.normal c s₁)
 {b:Nat} (hb:b<s.next) (hm:gi d.how=true->b∈xa ops a d.free):s₁.get b=s.get b:=by
 cases hw:gi d.how with
 |false=>exact YX hk g h hw b hb
 |true=>
  have hm:=hm hw
  unfold yO at h
  split at h
  .split at h
   .rename_i e;rw[e]at hw;cases hw
   .have h0:WF {s with prot:=xa ops a d.free++s.prot}:=g.of_heap rfl rfl
    have h1:=jK (P:=P) hk h0 o a
    split at h
    .rename_i a' s' i
     cases h
     rw[i]at h1
     have h1:Kp {s with prot:=xa ops a d.free++s.prot} s':=h1
     exact h1.same b hb (by
      unfold St.may
      simp only[eK,eU,List.any_append,dA]
      right;left
      rw[dT]
      exact⟨b,hm,by simp⟩)
    .cases h
    .cases h
   .rename_i e;rw[e]at hw;cases hw
   .rename_i e;rw[e]at hw;cases hw
  .cases h;rfl
end
theorem bh.of_same{P:Program}{β:aS}{s T:St}{w:World}(h:bh P β s w)(hn:T.next=s.next)(d:T.heap=s.heap)(e:∀b m,β b=some m->b<s.next->m.ro=true->b<T.bar):bh P β T w:=by
 have hg:∀b,T.get b=s.get b:=λb=>by simp only[St.get,d]
 exact{
  img:=by rw[hn];exact h.img
  obj:=λb m o hb hlt a=>h.obj b m o hb O (by rw[<-hg];exact a)
  inj:=λb b' m f o o' h1 h2 l1 l2 g1 g2=>h.inj b b' m f o o' h1 h2 O O (by rw[<-hg];exact g1) (by rw[<-hg];exact g2)
  ro:=λb m h1 h2 c=>e b m h1 O c
  room:=by rw[hn];exact h.room
  top:=λb hb=>by rw[hg];exact h.top b O}
theorem bh.at_state{P:Program}{β:aS}{s T:St}{w:World}(h:bh P β s w)(c:WF T)(a:∀b m,β b=some m->b<T.next->b<s.next)
 (hg:∀b m o,β b=some m->b<T.next->T.get b=some o->s.get b=some o) (f:∀b m,β b=some m->b<T.next->m.ro=true->b<T.bar):bh P β T w where
 img:=λb m hb hl=>h.img b m hb (a b m hb hl)
 obj:=λb m o hb hl hgt=>h.obj b m o hb (a b m hb hl) (hg b m o hb hl hgt)
 inj:=λb b' m g o o' h1 h2 d e g1 g2=>h.inj b b' m g o o' h1 h2 (a _ _ h1 d) (a _ _ h2 e) (hg _ _ _ h1 d g1) (hg _ _ _ h2 e g2)
 ro:=f
 room:=c.room
 top:=c.top
theorem bp.roOld{P:Program}{β β':aS}{s s':St}{w w':World}(h:bp P β s w β' s' w')(hb:s.bar<=s.next){b:Nat}{m:dm}(h1:β' b=some m)(h2:b<s'.next)(c:m.ro=true):β b=some m/\b<s.next:=by
 have d:=h.rel.ro b m h1 h2 c
 rw[h.bar]at d
 cases a:β b with
 |some e=>
  have:=h.le b e a
  rw[h1]at this
  cases this
  exact⟨rfl,by omega⟩
 |none=>
  have:=h.dom b m h1 a
  omega
theorem bh.grow{P:Program}{β:aS}{s:St}{w w':World}(h:bh P β s w)(hs:w.heap.size<=w'.heap.size)(a:∀r,r<w.heap.size->w'.heap[r]? = w.heap[r]?):bh P β s w' where
 img:=λb m hb hl=>bL (h.img b m hb hl) hs
 obj:=λb m o hb hl hg=>by
  obtain⟨o',h1,h2⟩:=h.obj b m o hb hl hg
  exact⟨o',by rw[a _ (h.img b m hb hl)];exact h1,h2⟩
 inj:=h.inj
 ro:=h.ro
 room:=h.room
 top:=h.top
theorem zem{P:Program}{β:aS}{a:Fr}{a':Act}(ops:Array Oper)(o:Oper)
 (h:∀g q d,o.guard=some g->ops[g.1]? = some q->q.dst=some d->ao P β (a.get d) (a'.tmps.getD d undef)):xZ ops.toList a o=Region.wanted o (yielded ops a'.tmps):=by
 unfold xZ Region.wanted
 split
 .rename_i hg;rw[hg]
 .rename_i j want hg
  have h:=λq d=>h (j,want) q d hg
  rw[hg]
  simp only[yielded]
  rw[zN]
  cases c:ops[j]? with
  |none=>
   have:ops.toList[j]? = none:=by simpa using c
   rw[this]
   simp
  |some q=>
   have:ops.toList[j]? = some q:=by simpa using c
   rw[this]
   simp only[aA]
   cases hd:q.dst with
   |none=>simp
   |some d=>
    simp only[aA]
    have hg:=h q d c hd
    cases e:a'.tmps[d]? with
    |none=>
     rw[bD,e]at hg
     simp only[Option.getD_none]at hg
     have:∀b,a.get d≠.bool b:=λb hb=>by rw[hb]at hg;cases hg
     cases hv:a.get d<;>first|rfl|exact(this _ hv).elim
    |some v=>
     rw[bD,e]at hg
     simp only[bN]at hg
     generalize a.get d=u at hg
     cases hg<;>first|rfl|(cases want<;>rename_i b<;>cases b<;>rfl)
theorem rj{a:Fr}(hs:a.size<=65534){dst:Option Tmp}{v:Value}{t:Nat}(h:a.size<=t):(a.put dst v).get t=a.get t:=by
 by_cases hd:dst=some t
 .subst hd
  unfold Fr.put
  simp only
  have:Nat.blt t a.size=false:=by
   rw[cM];intro b
   have:t<a.size:=by simpa[Nat.blt_eq]using b
   omega
  rw[this]
 .exact WX hs hd
section
variable{P:Program}{call:FuncId->Array Value->St->aq}{ops:Array Oper}{l:List an}{anc:Nat->Nat}{N:Nat}{A:Nat->Fr}{S:Nat->St}{β₀:aS}{w₀:World}{D₀:List Deferred}{ro:Option Nat}{a₀:Act}
structure eR(P:Program)(ops:Array Oper)(l:List an)(anc:Nat->Nat)(N:Nat)(A:Nat->Fr)(S:Nat->St)(β₀:aS)(w₀:World)(D₀:List Deferred)(L:Nat->Prop)(M:Nat)(β:aS)(a':Act)(w:World):Prop where
 closed:∀i k,i<ops.size->L i->(anc i).testBit k=true->L k
 before:∀(p:Nat) (d:an),l[p]? = some d->L d.ix->p<M
 wholes:∀(p:Nat) (d:an),l[p]? = some d->gi d.how=true->p<M->L d.ix
 leN:M<=N
 rel:bh P β (S M) w
 le:β₀.le β
 dom:∀b m,β b=some m->β₀ b=some m\/∃(p:Nat) (d:an),l[p]? = some d/\L d.ix/\(S p).next<=b/\b<(S (p+1)).next
 tsize:a'.tmps.size=(A 0).size
 defers:a'.defers=D₀
 filled:∀(p:Nat) (d:an) (o:Oper) (t:Nat),l[p]? = some d->ops[d.ix]? = some o->L d.ix->o.dst=some t->t<(A 0).size->ao P β ((A (p+1)).get t) (a'.tmps.getD t undef)
 old:∀t:Nat,t<(A 0).size->(∀(p:Nat) (d:an) (o:Oper),l[p]? = some d->ops[d.ix]? = some o->L d.ix->o.dst≠some t)->ao P β ((A 0).get t) (a'.tmps.getD t undef)
 size:w₀.heap.size<=w.heap.size
 out:∀r,r<w₀.heap.size->(∀b m o,β₀ b=some m->b<(S 0).next->(S 0).may b=true->(S 0).get b=some o->m.blk≠r)->w.heap[r]? = w₀.heap[r]?
 fresh:∀b m,β b=some m->β₀ b=none->w₀.heap.size<=m.blk\/∃b₁ m₁ o₁,β₀ b₁=some m₁/\b₁<(S 0).next/\(S 0).may b₁=true/\(S 0).get b₁=some o₁/\m₁.blk=m.blk
 os:w.os=w₀.os
 output:w.output=w₀.output
 tape:w.tape=w₀.tape
structure dU(P:Program)(call:FuncId->Array Value->St->aq)(ops:Array Oper)(l:List an)(anc:Nat->Nat)(N:Nat)(A:Nat->Fr)(S:Nat->St)(β₀:aS)(w₀:World)(a₀:Act):Prop where
 hc:JQ P call
 hk:∀f args s,WF s->(call f args s).keeps s
 plan:nk ops l anc
 chain:dq P call ops l N A S
 small:(A 0).size<=65534
 rel:bh P β₀ (S 0) w₀
 fr:cv P β₀ (A 0) a₀
 free:cC β₀ (S 0) (S N)
 opsB:∀(i:Nat) (o:Oper),ops[i]? = some o->o.op.operands.toList.all k8=true
variable(C:dU P call ops l anc N A S β₀ w₀ a₀)
include C
theorem dU.wf0:WF (S 0):=⟨C.rel.room,C.rel.top⟩
theorem dU.wf{q:Nat}(a:q<=N):WF (S q):=(C.chain.kp C.hk C.wf0 q a).wf
theorem dU.kp{p q:Nat}(h:p<=q)(a:q<=N):Kp (S p) (S q):=C.chain.kp2 C.hk C.wf0 p q h a
theorem dU.pos{p q:Nat}{d e:an}(hp:l[p]? = some d)(b:l[q]? = some e)(h:d.ix=e.ix):p=q:=by
 rcases Nat.lt_trichotomy p q with a|heq|a
 .exact((C.plan.pair p q d e a hp b).1 h).elim
 .exact heq
 .exact((C.plan.pair q p e d a b hp).1 h.symm).elim
theorem dU.ahead{p q:Nat}{d e:an}(hp:l[p]? = some d)(b:l[q]? = some e)(h:(anc e.ix).testBit d.ix=true):p<q:=by
 rcases Nat.lt_trichotomy p q with a|heq|a
 .exact a
 .subst heq
  rw[hp]at b;cases b
  obtain⟨o,ho⟩:=C.plan.op p d hp
  have:=C.plan.below _ o _ ho h
  omega
 .have:=(C.plan.pair q p e d a b hp).2.1
  rw[h]at this;cases this
theorem dU.stays{p:Nat}:∀q,p<=q->q<=N->(∀(r:Nat) (d:an),p<=r->r<q->l[r]? = some d->gi d.how=false)->∀b,b<(S p).next->(S q).get b=(S p).get b:=by
 intro q
 induction q with
 |zero=>intro c _ _ b _;have:p=0:=O;subst this;rfl
 |succ q f=>
  intro c hq a b hb
  by_cases he:p=q+1
  .subst he;rfl
  .obtain⟨d,o,h1,h2,e⟩:=C.chain.step q O
   rw[YX C.hk (C.wf O) e (a q d O O h1) b (bL hb (C.kp O O).next)]
   exact f O O (λr d h1 h2=>a r d h1 O) b hb
variable{L:Nat->Prop}{M:Nat}{β:aS}{a':Act}{w:World}(I:eR P ops l anc N A S β₀ w₀ D₀ L M β a' w)
include I
theorem dU.known{b:Nat}{m:dm}(hb:β b=some m){q:Nat}(f:q<=N)(c:b<(S q).next):b<(S M).next:=by
 rcases I.dom b m hb with h|⟨p,d,h1,h2,_,e⟩
 .rcases cP b (S 0).next with a|a
  .exact bL a (C.kp (cH _) I.leN).next
  .have:=C.free b a (bL c (C.kp f (aN N)).next)
   rw[h]at this;cases this
 .exact bL e (C.kp (I.before p d h1 h2) I.leN).next
theorem dU.done{i:Nat}{o:Oper}(ho:ops[i]? = some o)(he:∀e∈o.after.toList,Region.binds .any e=true->L e.on){k:Nat}(hk:(anc i).testBit k=true):L k:=by
 obtain⟨e,h1,h2,a⟩:=C.plan.just i o k ho hk
 have hl:=he e h1 h2
 have hlt:=(C.plan.edges i o ho e h1 h2).1
 have hi:i<ops.size:=by
  rcases cP i ops.size with b|b
  .exact b
  .rw[cV b]at ho;cases ho
 rcases a with a|a
 .rw[<-a];exact hl
 .exact I.closed e.on k O hl a
theorem dU.slot{i j:Nat}{d:an}(hj:l[j]? = some d)(hi:d.ix=i)(m:j<=N)(hn:¬L i)(hanc:∀k,(anc i).testBit k=true->L k)(t:Nat)
 (hw:∀u q,ops[u]? = some q->q.dst=some t->(anc i).testBit u=true\/u=i\/(anc u).testBit i=true):ao P β ((A j).get t) (a'.tmps.getD t undef):=by
 subst hi
 by_cases D:t<(A 0).size
 .by_cases hex:∃u q,ops[u]? = some q/\q.dst=some t/\L u
  .obtain⟨u,q,n,hd,hl⟩:=hex
   have hu:u<ops.size:=by
    rcases cP u ops.size with y|y
    .exact y
    .rw[cV y]at n;cases n
   obtain⟨p,e,hp,b⟩:=C.plan.surj u hu
   have g:(anc d.ix).testBit u=true:=by
    rcases hw u q n hd with h|h|h
    .exact h
    .rw[h]at hl;exact(hn hl).elim
    .exact(hn (I.closed u d.ix hu hl h)).elim
   have hpj:p<j:=C.ahead hp hj (by rw[b];exact g)
   have hv:=I.filled p e q t hp (by rw[b];exact n) (by rw[b];exact hl) hd D
   have:(A j).get t=(A (p+1)).get t:=C.chain.keepsSlot C.small t (p+1) j O m λr s o' hr1 B a c f=>by
    have heq:=C.plan.dst s.ix u o' q t c n f hd
    have:=C.pos a hp (by rw[heq,b])
    omega
   rw[this];exact hv
  .have x:∀(p:Nat) (e:an) (o:Oper),l[p]? = some e->ops[e.ix]? = some o->L e.ix->o.dst≠some t:=λp e o _ h2 E F=>hex ⟨e.ix,o,h2,F,E⟩
   have hv:=I.old t D x
   have:(A j).get t=(A 0).get t:=C.chain.keepsSlot C.small t 0 j (cH _) m λr s o' _ B a c f=>by
    -- its writer is not done,so it does not lie ahead
    have z:¬L s.ix:=λhl=>x r s o' a c hl f
    rcases hw s.ix o' c f with h|h|h
    .exact z (hanc _ h)
    .have:=C.pos a hj h;omega
    .have:=C.ahead hj a h;omega
   rw[this];exact hv
 .have h1:∀q,q<=N->(A q).get t=(A 0).get t:=by
   intro q
   induction q with
   |zero=>intro _;rfl
   |succ q H=>
    intro n
    obtain⟨d,o,_,_,G⟩:=C.chain.step q O
    obtain⟨v,hv⟩:=wu G
    rw[hv,rj (by rw[C.chain.size q O];exact C.small) (by rw[C.chain.size q O];omega)]
    exact H O
  rw[h1 j m]
  have h2:a'.tmps.getD t undef=a₀.tmps.getD t undef:=by
   rw[bD,bD,cV (by rw[I.tsize];omega),cV (by rw[C.fr.size];omega)]
  rw[h2]
  exact(C.fr.get t).mono I.le
theorem dU.operands{i j:Nat}{d:an}{o:Oper}(hj:l[j]? = some d)(hi:d.ix=i)(c:j<=N)(ho:ops[i]? = some o)(hn:¬L i)(hanc:∀k,(anc i).testBit k=true->L k) :
 ∀x∈o.op.operands.toList,ao P β ((A j).eval x) (a'.eval x):=by
 intro x hx
 have a:=C.opsB i o ho
 rw[List.all_eq_true]at a
 have b:=a x hx
 cases x with
 |tmp t=>
  refine C.slot I hj hi c hn hanc t λu q e hd=>?_
  rcases C.plan.reads i o ho t hx u q e hd with h|⟨_,h⟩
  .exact .inl h
  .exact .inr h
 |const v=>exact KO b
 |global g=>simp[k8]at b
 |func f=>exact .func .nil .nil rfl
theorem dU.wants{i j:Nat}{d:an}{o:Oper}(hj:l[j]? = some d)(hi:d.ix=i)(b:j<=N)(ho:ops[i]? = some o)(hn:¬L i)(hanc:∀k,(anc i).testBit k=true->L k) :
 xZ ops.toList (A j) o=Region.wanted o (yielded ops a'.tmps):=by
 refine zem (P:=P) (β:=β) ops o λg q t hg e hd=>?_
 refine C.slot I hj hi b hn hanc t λu q' c a=>?_
 have:=C.plan.dst u g.1 q' q t c e a hd
 subst this
 exact .inl (C.plan.guard i o g ho hg)
end
end Go.M
