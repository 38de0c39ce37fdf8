/- What is computed with frames that are functions, the abstract machine computes. -/
import Derived.Test.YtocnbjjmmgolfaaGreatA09
set_option linter.unusedSimpArgs false
set_option linter.unusedVariables false
set_option linter.unusedSectionVars false
namespace Go.M
section
variable{P:Program}{ρ ρ':Operand->Value}{s:St}
theorem ui{l:List Operand}(h:∀x∈l,ρ x=ρ' x):qv ρ l=qv ρ' l:=by
 induction l with
 |nil=>rfl
 |cons x l b=>simp only[qv];rw[h x Y8,b λy a=>h y (by simp[a])]
theorem gm{place:Nat->Option (Nat×Nat)}:∀{l:List (Nat×Operand)} {c:List Value},(∀p∈l,ρ p.2=ρ' p.2)->qH place ρ l c=qH place ρ' l c
 | [],_,_=>rfl
 |(i,x)::l,c,h=>by
  have e:∀c,qH place ρ l c=qH place ρ' l c:=λc=>gm λp hp=>h p (aP _ hp)
  have hx:ρ x=ρ' x:=h (i,x) Y8
  simp only[qH,e,hx]
theorem j9{o:Option Operand}(h:∀x,o=some x->ρ x=ρ' x):o.map ρ=o.map ρ':=by
 cases o with
 |none=>rfl
 |some x=>simp[h x rfl]
theorem zbU(o:Op)(h:∀x∈o.operands.toList,ρ x=ρ' x):zj P ρ o s=zj P ρ' o s:=by
 cases o with
 |move x=>simp only[zj];rw[h x Y5]
 |assign x=>simp only[zj];rw[h x Y5]
 |pick c a b=>simp only[zj];rw[h c Y5,h a Y5,h b Y5]
 |load t a=>simp only[zj];rw[h a Y5]
 |store t a v=>simp only[zj];rw[h a Y5,h v Y5]
 |box e x=>simp only[zj];rw[h x Y5]
 |alloc e=>rfl
 |fieldAddr t x f=>simp only[zj];rw[h x Y5]
 |indexAddr t x i=>simp only[zj];rw[h x Y5,h i Y5]
 |binOp op t x y yt=>simp only[zj];rw[h x Y5,h y Y5]
 |unOp op t x=>simp only[zj];rw[h x Y5]
 |extract x i=>simp only[zj];rw[h x Y5]
 |nilCheck x=>simp only[zj];rw[h x Y5]
 |sliceToArrayPointer t x=>simp only[zj];rw[h x Y5]
 |convert src dst x=>simp only[zj];rw[h x Y5]
 |makeFunc fn first captured=>
  simp only[zj]
  rw[ui (l:=first.toList) λx hx=>h x (by simp[Op.operands];exact .inl (by simpa using hx)),ui (l:=captured.toList) λx hx=>h x (by simp[Op.operands];exact .inr (by simpa using hx))]
 |slice t x lo hi mx=>
  simp only[zj]
  rw[h x Y5,j9 (o:=lo) λx hx=>h x (by simp[Op.operands,hx]),j9 (o:=hi) λx hx=>h x (by simp[Op.operands,hx]),j9 (o:=mx) λx hx=>h x (by simp[Op.operands,hx])]
 |field t x f=>simp only[zj];rw[h x Y5]
 |index t x i=>simp only[zj];rw[h x Y5,h i Y5]
 |call c=>
  obtain⟨callee,args,argTypes⟩:=c
  cases callee with
  |value f=>
   simp only[zj]
   rw[h f (by simp[Op.operands,Call.operands]),ui (l:=args.toList) λx hx=>h x (by simp[Op.operands,Call.operands];exact .inr (by simpa using hx))]
  |builtin b=>
   simp only[zj]
   rw[ui (l:=args.toList) λx hx=>h x (by simp[Op.operands,Call.operands];simpa using hx)]
  |invoke r m=>rfl
 |build t parts=>
  have hp:∀p∈parts.toList,ρ p.2=ρ' p.2:=λp hp=>h p.2 V7
  simp only[zj,wT]
  have e:∀place c,qH place ρ parts.toList c=qH place ρ' parts.toList c:=λplace c=>gm hp
  simp only[e]
 |buildSlice t len parts=>
  have hp:∀p∈parts.toList,ρ p.2=ρ' p.2:=λp hp=>h p.2 V7
  simp only[zj,qJ]
  have e:∀place c,qH place ρ parts.toList c=qH place ρ' parts.toList c:=λplace c=>gm hp
  simp only[e]
 |makeSlice t l c=>simp only[zj];rw[h l Y5,h c Y5]
 |_=>rfl
end
def XQ(N:Nat):bk->cg->Prop
 | .normal F s,.normal a s'=>s'=s/\aT N F a
 | .exit id F s,.exit b a s'=>b=id/\s'=s/\aT N F a
 | .ret F s,.ret a s'=>s'=s/\aT N F a
 | .stuck,_=>True
 |_,_=>False
section
variable{P:Program}{call:FuncId->Array Value->St->aq}{N:Nat}
theorem Kl{ops:List Oper}{F:FF}{a:Fr}{o:Oper}(h:aT N F a)(hg:ZR N ops o=true):xZ ops a o=ym ops F o:=by
 unfold xZ ym
 unfold ZR at hg
 have hg:=(Bool.and_eq_true_iff.mp hg).1
 unfold zhp at hg
 cases b:o.guard with
 |none=>rfl
 |some g=>
  rw[b]at hg
  simp only at hg |-
  cases c:zH ops g.1 with
  |none=>rfl
  |some q=>
   rw[c]at hg
   simp only at hg |-
   cases hd:q.dst with
   |none=>rfl
   |some d=>
    rw[hd]at hg
    simp only at hg |-
    rw[h.get d (aR hg)]
    rfl
theorem KQ{F:FF}{a:Fr}{o:Oper}{s:St}(h:aT N F a)(ho:o.op.operands.toList.all (Yv N)=true):XQ N (fJ P call o F s) (eh P call o a s):=by
 have e:zj P a.eval o.op s=zj P (zd F) o.op s:=zbU o.op λx hx=>h.eval (by rw[List.all_eq_true]at ho;exact ho x hx)
 unfold fJ eh
 rw[e]
 cases zj P (zd F) o.op s with
 |stuck=>trivial
 |panic v s=>trivial
 |ok n s=>
  cases n with
  |value v=>exact⟨rfl,h.put _ _⟩
  |skip=>exact⟨rfl,h.put _ _⟩
  |enter f args=>
   simp only
   cases Nat.ble zy f with
   |true=>trivial
   |false=>
    simp only
    cases call f args s with
    |ret v s=>exact⟨rfl,h.put _ _⟩
    |panic c s=>trivial
    |stuck=>trivial
  |round b k args x y=>
   simp only
   cases call (zy+b) args s with
   |ret v s=>exact⟨rfl,h.put _ _⟩
   |panic c s=>trivial
   |stuck=>trivial
  |_=>trivial
theorem zal(ops:List Oper):∀(l:List Oper) (F:FF) (a:Fr) (s:St),(l.all λo=>o.op.operands.toList.all (Yv N)&&ZR N ops o)=true->aT N F a->XQ N (F5 P call ops l F s) (YG P call ops l a s)
 | [],F,a,s,_,h=>⟨rfl,h⟩
 |o::l,F,a,s,hl,h=>by
  simp only[List.all_cons,aF]at hl
  have d:(l.all λo=>o.op.operands.toList.all (Yv N)&&ZR N ops o)=true:=by simpa using hl.2
  simp only[F5,YG]
  rw[Kl h hl.1.2]
  cases ym ops F o with
  |false=>exact zal ops l _ _ s d (h.put _ _)
  |true=>
   have h1:=KQ (P:=P) (call:=call) (s:=s) h hl.1.1
   simp only
   cases hf:fJ P call o F s with
   |normal b s₁=>
    rw[hf]at h1
    cases hm:eh P call o a s with
    |normal c s₂=>
     rw[hm]at h1
     obtain⟨rfl,h2⟩:=h1
     exact zal ops l b c _ d h2
    |_=>rw[hm]at h1;exact h1.elim
   |_=>trivial
theorem XO{F:FF}{a:Fr}{o:Oper}(h:aT N F a)(ho:o.op.operands.toList.all (Yv N)=true)(ha:VZ N o=true):xN a o=yA F o:=by
 unfold xN yA
 cases b:o.op with
 |load t x=>
  simp only
  rw[h.eval (by rw[List.all_eq_true]at ho;exact ho x (by rw[b];simp[Op.operands]))]
  rfl
 |slice t x lo hi mx=>
  cases mx with
  |none=>
   simp only
   rw[h.eval (by rw[List.all_eq_true]at ho;exact ho x (by rw[b];simp[Op.operands]))]
   rfl
  |some m=>rfl
 |alloc t=>
  simp only
  unfold VZ at ha
  rw[b]at ha
  cases hd:o.dst with
  |none=>rfl
  |some u=>
   rw[hd]at ha
   simp only at ha |-
   rw[h.get u (Nat.blt_eq.mp ha)]
   rfl
 |buildSlice t n parts=>
  simp only
  unfold VZ at ha
  rw[b]at ha
  cases hd:o.dst with
  |none=>rfl
  |some u=>
   rw[hd]at ha
   simp only at ha |-
   rw[h.get u (Nat.blt_eq.mp ha)]
   rfl
 |_=>rfl
theorem Ya{ops:List Oper}{F:FF}{a:Fr}(h:aT N F a)(ho:∀o∈ops,o.op.operands.toList.all (Yv N)=true/\VZ N o=true):∀l,xa ops a l=yi ops F l
 | []=>rfl
 |i::l=>by
  simp only[xa,yi]
  cases hg:zH ops i with
  |none=>exact Ya h ho l
  |some o=>
   simp only
   rw[XO h (ho o (by rw[zN]at hg;exact List.mem_of_getElem? hg)).1 (ho o (by rw[zN]at hg;exact List.mem_of_getElem? hg)).2,Ya h ho l]
   rfl
theorem zfx{ops:List Oper}(ho:∀o∈ops,o.op.operands.toList.all (Yv N)=true/\ZR N ops o=true){d:an}{o:Oper}(c:o∈ops){F:FF}{a:Fr}{s:St}(h:aT N F a) :
 XQ N (vV P call ops d o F s) (yO P call ops d o a s):=by
 unfold vV yO
 rw[Kl h (ho o c).2]
 cases ym ops F o with
 |false=>exact⟨rfl,h.put _ _⟩
 |true=>
  simp only
  cases d.how with
  |light=>
   simp only
   rw[XO h (ho o c).1 (Bool.and_eq_true_iff.mp (ho o c).2).2]
   have h1:=KQ (P:=P) (call:=call) (s:={next:=s.next,bar:=s.next,prot:=[],heap:=only s (yA F o)}) h (ho o c).1
   cases hf:fJ P call o F {next:=s.next,bar:=s.next,prot:=[],heap:=only s (yA F o)}with
   |normal f s₁=>
    rw[hf]at h1
    cases hm:eh P call o a {next:=s.next,bar:=s.next,prot:=[],heap:=only s (yA F o)}with
    |normal g e=>
     rw[hm]at h1
     obtain⟨rfl,h2⟩:=h1
     simp only
     cases Nat.beq e.next s.next with
     |true=>exact⟨rfl,h2⟩
     |false=>trivial
    |_=>rw[hm]at h1;exact h1.elim
   |_=>trivial
  |whole=>
   simp only
   rw[Ya h (λo hm=>⟨(ho o hm).1,(Bool.and_eq_true_iff.mp (ho o hm).2).2⟩)]
   have h1:=KQ (P:=P) (call:=call) (s:={s with prot:=yi ops F d.free++s.prot}) h (ho o c).1
   cases hf:fJ P call o F {s with prot:=yi ops F d.free++s.prot}with
   |normal f s₁=>
    rw[hf]at h1
    cases hm:eh P call o a {s with prot:=yi ops F d.free++s.prot}with
    |normal g e=>
     rw[hm]at h1
     obtain⟨rfl,h2⟩:=h1
     exact⟨J,h2⟩
    |_=>rw[hm]at h1;exact h1.elim
   |_=>trivial
  |fresh=>
   simp only
   have h1:=KQ (P:=P) (call:=call) (s:={s with bar:=s.next}) h (ho o c).1
   cases hf:fJ P call o F {s with bar:=s.next}with
   |normal f s₁=>
    rw[hf]at h1
    cases hm:eh P call o a {s with bar:=s.next}with
    |normal g e=>
     rw[hm]at h1
     obtain⟨rfl,h2⟩:=h1
     exact⟨J,h2⟩
    |_=>rw[hm]at h1;exact h1.elim
   |_=>trivial
  |new=>
   simp only
   have h1:=KQ (P:=P) (call:=call) (s:={next:=s.next,bar:=s.next,prot:=[],heap:=.nil}) h (ho o c).1
   cases hf:fJ P call o F {next:=s.next,bar:=s.next,prot:=[],heap:=.nil}with
   |normal f s₁=>
    rw[hf]at h1
    cases hm:eh P call o a {next:=s.next,bar:=s.next,prot:=[],heap:=.nil}with
    |normal g e=>
     rw[hm]at h1
     obtain⟨rfl,h2⟩:=h1
     simp only
     rw[XO h2 (ho o c).1 (Bool.and_eq_true_iff.mp (ho o c).2).2]
     cases Nat.beq e.next (s.next+1)&&s.room with
     |false=>trivial
     |true=>
      cases yA f o with
      |none=>trivial
      |some b=>
       cases e.get s.next with
       |none=>trivial
       |some ob=>
        simp only
        cases Nat.beq b s.next with
        |true=>exact⟨rfl,h2⟩
        |false=>trivial
    |_=>rw[hm]at h1;exact h1.elim
   |_=>trivial
theorem zdo{ops:List Oper}(ho:∀o∈ops,o.op.operands.toList.all (Yv N)=true/\ZR N ops o=true):∀(l:List an) (F:FF) (a:Fr) (s:St),aT N F a->XQ N (gn P call ops l F s) (wh P call ops l a s)
 | [],F,a,s,h=>⟨rfl,h⟩
 |d::l,F,a,s,h=>by
  simp only[gn,wh]
  cases hg:zH ops d.ix with
  |none=>trivial
  |some o=>
   simp only
   have h1:=zfx (P:=P) (call:=call) ho (d:=d) (o:=o) (by rw[zN]at hg;exact List.mem_of_getElem? hg) (s:=s) h
   cases hf:vV P call ops d o F s with
   |normal b s₁=>
    rw[hf]at h1
    cases hm:yO P call ops d o a s with
    |normal c s₂=>
     rw[hm]at h1
     obtain⟨rfl,h2⟩:=h1
     exact zdo ho l b c _ h2
    |_=>rw[hm]at h1;exact h1.elim
   |_=>trivial
theorem kF{I:zZ}:∀(n:Nat) (c:Code) (F:FF) (a:Fr) (s:St),qX N c=true->aT N F a->XQ N (xi P I N n c F s) (zY P I n c a s)
 |0,_,_,_,_,_,_=>trivial
 |n+1,c,F,a,s,hc,h=>by
  cases c with
  |skip=>exact⟨rfl,h⟩
  |label _=>exact⟨rfl,h⟩
  |exit id=>exact⟨rfl,rfl,h⟩
  |ret=>exact⟨rfl,h⟩
  |seq x y=>
   simp only[qX,aF]at hc
   have h1:=kF (I:=I) n x F a s hc.1 h
   simp only[xi,zY]
   cases hf:xi P I N n x F s with
   |normal d s₁=>
    rw[hf]at h1
    cases hm:zY P I n x a s with
    |normal e g=>
     rw[hm]at h1
     obtain⟨rfl,h2⟩:=h1
     exact kF n y d e _ hc.2 h2
    |_=>rw[hm]at h1;exact h1.elim
   |exit id d s₁=>
    rw[hf]at h1
    cases hm:zY P I n x a s with
    |exit i e g=>rw[hm]at h1;exact h1
    |_=>rw[hm]at h1;exact h1.elim
   |ret d s₁=>
    rw[hf]at h1
    cases hm:zY P I n x a s with
    |ret e g=>rw[hm]at h1;exact h1
    |_=>rw[hm]at h1;exact h1.elim
   |stuck=>trivial
  |cond x y z=>
   simp only[qX,aF]at hc
   simp only[xi,zY]
   rw[h.eval hc.1.1]
   cases zd F x with
   |bool b=>cases b with
    |true=>exact kF n y F a s hc.1.2 h
    |false=>exact kF n z F a s hc.2 h
   |_=>trivial
  |block id b=>
   simp only[qX]at hc
   have h1:=kF (I:=I) n b F a s hc h
   simp only[xi,zY]
   cases hf:xi P I N n b F s with
   |normal d s₁=>
    rw[hf]at h1
    cases hm:zY P I n b a s with
    |normal e g=>rw[hm]at h1;exact h1
    |_=>rw[hm]at h1;exact h1.elim
   |exit id₁ d s₁=>
    rw[hf]at h1
    cases hm:zY P I n b a s with
    |exit i e g=>
     rw[hm]at h1
     obtain⟨rfl,rfl,h2⟩:=h1
     simp only
     cases Nat.beq i id with
     |true=>exact⟨rfl,h2⟩
     |false=>exact⟨rfl,rfl,h2⟩
    |_=>rw[hm]at h1;exact h1.elim
   |ret d s₁=>
    rw[hf]at h1
    cases hm:zY P I n b a s with
    |ret e g=>rw[hm]at h1;exact h1
    |_=>rw[hm]at h1;exact h1.elim
   |stuck=>trivial
  |loop b=>
   simp only[qX]at hc
   have h1:=kF (I:=I) n b F a s hc h
   simp only[xi,zY]
   cases hf:xi P I N n b F s with
   |normal d s₁=>
    rw[hf]at h1
    cases hm:zY P I n b a s with
    |normal e g=>
     rw[hm]at h1
     obtain⟨rfl,h2⟩:=h1
     exact kF n (.loop b) d e _ (by simpa only[qX]using hc) h2
    |_=>rw[hm]at h1;exact h1.elim
   |exit id d s₁=>
    rw[hf]at h1
    cases hm:zY P I n b a s with
    |exit i e g=>rw[hm]at h1;exact h1
    |_=>rw[hm]at h1;exact h1.elim
   |ret d s₁=>
    rw[hf]at h1
    cases hm:zY P I n b a s with
    |ret e g=>rw[hm]at h1;exact h1
    |_=>rw[hm]at h1;exact h1.elim
   |stuck=>trivial
  |region id ops draw=>
   simp only[qX]at hc
   simp only[xi,zY]
   cases draw with
   |false=>exact zal ops.toList ops.toList F a s hc h
   |true=>
    simp only
    cases Zt ops.toList (plan ops.toList)with
    |false=>trivial
    |true=>
     refine zdo (λo ho=>?_) _ F a s h
     unfold Ou at hc
     rw[List.all_eq_true]at hc
     simpa using hc o ho
  |scope b=>
   simp only[qX]at hc
   simp only[xi,zY]
   exact kF n b F a s hc h
  |rangeFunc f ps x y=>
   simp only[qX]at hc
   have hg:=Vu F h.small
   simp only[xi,zY,KH]
   rw[mh (a:=a) (a':=il F N) (by rw[h.eval hc,hg.eval hc]) (by rw[h.norm,hg.norm])]
   cases kR P I (zY P I n) f ps x y (il F N) s with
   |normal _ _=>exact⟨rfl,h⟩
   |ret _ _=>exact⟨rfl,h⟩
   |exit _ _ _=>exact⟨rfl,rfl,h⟩
   |_=>trivial
  |_=>trivial
end
section
variable(P:Program)(I:zZ)
def vr(f:FuncId)(args:Array Value)(s:St)(v:Value)(s':St):Prop:=∃n,∀m,n<=m->Zy P I m f args s=.ret v s'
structure br(o:Oper)(F:FF)(s:St)(Q:FF->St->Prop):Prop where
 ex:∃F' s',Q F' s'/\∃n,∀m,n<=m->fJ P (Zy P I m) o F s=.normal F' s'
def dj(ops:List Oper):List Oper->FF->St->(FF->St->Prop)->Prop
 | [],F,s,Q=>Q F s
 |o::rest,F,s,Q=>Bool.rec (motive:=λ_=>Prop) (dj ops rest (ba F o.dst undef) s Q) (br P I o F s λF s=>dj ops rest F s Q) (ym ops F o)
def yX(ops:List Oper)(l:List an)(F:FF)(s:St)(Q:FF->St->Prop):Prop:=
 ∃a s',Q a s'/\∃n,∀m,n<=m->gn P (Zy P I m) ops l F s=.normal a s'
variable(N:Nat)
def fh(c:Code)(F:FF)(s:St)(Q:bk->Prop):Prop:=
 ∃o,Q o/\∃n,∀m,n<=m->xi P I N m c F s=o
def vq(id:Nat)(Q:bk->Prop):bk->Prop
 | .exit i F s=>match Nat.beq i id with
  |true=>Q (.normal F s)
  |false=>Q (.exit i F s)
 |o=>Q o
def VV:Value->Option Bool
 | .bool b=>some b
 |_=>none
theorem zdH{v:Value}{b:Bool}(h:VV v=some b):v=.bool b:=by
 unfold VV at h
 split at h
 .cases h;rfl
 .cases h
def mu(k:FF->St->Prop)(Q:bk->Prop):bk->Prop
 | .normal F s=>k F s
 |o=>Q o
def aI:Code->FF->St->(bk->Prop)->Prop
 | .skip,F,s,Q=>Q (.normal F s)
 | .exit id,F,s,Q=>Q (.exit id F s)
 | .ret,F,s,Q=>Q (.ret F s)
 | .seq x y,F,s,Q=>aI x F s (mu (λF s=>aI y F s Q) Q)
 | .block id b,F,s,Q=>aI b F s (vq id Q)
 | .scope b,F,s,Q=>aI b F s Q
 | .cond c x y,F,s,Q=>Option.rec (motive:=λ_=>Prop) False (λb=>Bool.rec (motive:=λ_=>Prop) (aI y F s Q) (aI x F s Q) b) (VV (zd F c))
 | .region _ ops false,F,s,Q=>dj P I ops.toList ops.toList F s λF s=>Q (.normal F s)
 |c,F,s,Q=>fh P I N c F s Q
abbrev I9(y:Code)(Q:bk->Prop):bk->Prop:=mu (λF s=>aI P I N y F s Q) Q
end
section
variable{P:Program}{I:zZ}{N:Nat}
theorem br.mono{o:Oper}{F:FF}{s:St}{Q Q':FF->St->Prop}(h:br P I o F s Q)(b:∀F s,Q F s->Q' F s):br P I o F s Q':=by
 obtain⟨a,s',h1,h2⟩:=h
 exact⟨a,s',b _ _ h1,h2⟩
theorem dj.mono{ops l:List Oper}{F:FF}{s:St}{Q Q':FF->St->Prop}(h:dj P I ops l F s Q)(b:∀F s,Q F s->Q' F s):dj P I ops l F s Q':=by
 induction l generalizing F s with
 |nil=>exact b _ _ h
 |cons o r a=>
  unfold dj at h |-
  cases hw:ym ops F o with
  |true=>rw[hw]at h;exact br.mono h λ_ _ h=>a h
  |false=>rw[hw]at h;exact a h
theorem dj.ends{ops l:List Oper}{F:FF}{s:St}{Q:FF->St->Prop}(h:dj P I ops l F s Q):∃f s',Q f s'/\∃n,∀m,n<=m->F5 P (Zy P I m) ops l F s=.normal f s':=by
 induction l generalizing F s with
 |nil=>exact⟨F,s,h,0,λ_ _=>rfl⟩
 |cons o r g=>
  unfold dj at h
  cases hw:ym ops F o with
  |true=>
   rw[hw]at h
   obtain⟨F₁,s₁,h,d,h1⟩:=h
   obtain⟨a,c,e,b,h2⟩:=g h
   refine⟨a,c,e,d+b,λm hm=>?_⟩
   simp only[F5,hw,h1 m O]
   exact h2 m O
  |false=>
   rw[hw]at h
   obtain⟨a,c,e,b,h2⟩:=g h
   refine⟨a,c,e,b,λm hm=>?_⟩
   simp only[F5,hw]
   exact h2 m O
theorem fh.mono{c:Code}{F:FF}{s:St}{Q Q':bk->Prop}(h:fh P I N c F s Q)(a:∀o,Q o->Q' o):fh P I N c F s Q':=by
 obtain⟨o,h1,h2⟩:=h
 exact⟨o,a _ h1,h2⟩
theorem aI.mono{c:Code}{F:FF}{s:St}{Q Q':bk->Prop}(h:aI P I N c F s Q)(a:∀o,Q o->Q' o):aI P I N c F s Q':=by
 induction c generalizing F s Q Q' with
 |skip|exit|ret=>exact a _ h
 |seq x y hx e=>
  refine hx (Q:=I9 P I N y Q) (Q':=I9 P I N y Q') h λo ho=>?_
  cases o with
  |normal=>exact e ho a
  |_=>exact a _ ho
 |block id b hb=>
  refine hb (Q:=vq id Q) (Q':=vq id Q') h λo ho=>?_
  cases o with
  |exit i=>
   simp only[vq]at ho |-
   split at ho<;>exact a _ ho
  |_=>exact a _ ho
 |scope b hb=>exact hb (Q:=Q) (Q':=Q') h a
 |cond c x y hx e=>
  unfold aI at h |-
  cases hc:VV (zd F c)with
  |none=>rw[hc]at h;exact h.elim
  |some b=>
   rw[hc]at h
   cases b with
   |true=>exact hx h a
   |false=>exact e h a
 |region id ops d=>
  cases d
  .exact dj.mono h λ_ _=>a _
  .exact fh.mono h a
 |_=>exact fh.mono h a
theorem zb{ops:List Oper}{F:FF}{s:St}{Q:FF->St->Prop}(h:Q F s):dj P I ops [] F s Q:=h
theorem z6{ops:List Oper}{o:Oper}{rest:List Oper}{F:FF}{s:St}{Q:FF->St->Prop}(hw:ym ops F o=true)
 (h:br P I o F s λF s=>dj P I ops rest F s Q):dj P I ops (o::rest) F s Q:=by unfold dj;rw[hw];exact h
theorem xB{ops:List Oper}{o:Oper}{rest:List Oper}{F:FF}{s:St}{Q:FF->St->Prop}(hw:ym ops F o=false)
 (h:dj P I ops rest (ba F o.dst undef) s Q):dj P I ops (o::rest) F s Q:=by unfold dj;rw[hw];exact h
theorem yS{ops:List Oper}{F:FF}{s:St}{Q:FF->St->Prop}(h:Q F s):yX P I ops [] F s Q:=⟨F,s,h,0,λ_ _=>rfl⟩
theorem kD{ops:List Oper}{d:an}{o:Oper}{rest:List an}{F:FF}{s:St}{Q:FF->St->Prop}(hg:zH ops d.ix=some o)(hw:ym ops F o=false)
 (h:yX P I ops rest (ba F o.dst undef) s Q):yX P I ops (d::rest) F s Q:=by
 obtain⟨a,c,e,b,h2⟩:=h
 refine⟨a,c,e,b,λm hm=>?_⟩
 simp only[gn,hg,vV,hw]
 exact h2 m O
theorem za{ops:List Oper}{ix anc:Nat}{free:List Nat}{o:Oper}{rest:List an}{F:FF}{s:St}{Q:FF->St->Prop}(hg:zH ops ix=some o)(hw:ym ops F o=true)
 (h:br P I o F {next:=s.next,bar:=s.next,prot:=[],heap:=only s (yA F o)} λe s'=>s'.next=s.next/\yX P I ops rest e s Q) :
 yX P I ops (⟨ix,anc,.light,free⟩::rest) F s Q:=by
 obtain⟨F₁,s₁,⟨hn,a,d,f,c,h2⟩,b,h1⟩:=h
 refine⟨a,d,f,b+c,λm hm=>?_⟩
 have hb:Nat.beq s₁.next s.next=true:=by rw[hn];exact eL _
 simp only[gn,hg,vV,hw,h1 m O,hb]
 exact h2 m O
theorem yw{ops:List Oper}{ix anc:Nat}{free:List Nat}{o:Oper}{rest:List an}{F:FF}{s:St}{Q:FF->St->Prop}(hg:zH ops ix=some o)(hw:ym ops F o=true)
 (h:br P I o F {s with prot:=yi ops F free++s.prot} λe s'=>yX P I ops rest e {next:=s'.next,bar:=s.bar,prot:=s.prot,heap:=s'.heap} Q) :
 yX P I ops (⟨ix,anc,.whole,free⟩::rest) F s Q:=by
 obtain⟨F₁,s₁,⟨a,d,f,c,h2⟩,b,h1⟩:=h
 refine⟨a,d,f,b+c,λm hm=>?_⟩
 simp only[gn,hg,vV,hw,h1 m O]
 exact h2 m O
theorem vo{ops:List Oper}{ix anc:Nat}{free:List Nat}{o:Oper}{rest:List an}{F:FF}{s:St}{Q:FF->St->Prop}(hg:zH ops ix=some o)(hw:ym ops F o=true)
 (h:br P I o F {s with bar:=s.next} λe s'=>yX P I ops rest e {next:=s'.next,bar:=s.bar,prot:=s.prot,heap:=s'.heap} Q) :
 yX P I ops (⟨ix,anc,.fresh,free⟩::rest) F s Q:=by
 obtain⟨F₁,s₁,⟨a,d,f,c,h2⟩,b,h1⟩:=h
 refine⟨a,d,f,b+c,λm hm=>?_⟩
 simp only[gn,hg,vV,hw,h1 m O]
 exact h2 m O
theorem oI{ops:List Oper}{ix anc:Nat}{free:List Nat}{t:Tmp}{e:TypeId}{ty:TypeId}{pos:String}{af:Array Edge}{g:Option (Nat×Bool)}{ob:ak}{rest:List an}{F:FF}{s:St}{Q:FF->St->Prop}(hg:zH ops ix=some ⟨some t,.alloc e,ty,pos,af,g⟩)(hw:ym ops F ⟨some t,.alloc e,ty,pos,af,g⟩=true)(a:s.room=true)
 (hv:zj P (zd F) (.alloc e) {next:=s.next,bar:=s.next,prot:=[],heap:=.nil}=.ok (.value (.pointer (some ⟨s.next,0,none⟩))) (({next:=s.next,bar:=s.next,prot:=[],heap:=.nil}:St).new ob))
 (h:yX P I ops rest (ba F (some t) (.pointer (some ⟨s.next,0,none⟩))) (s.new ob) Q) :
 yX P I ops (⟨ix,anc,.new,free⟩::rest) F s Q:=by
 obtain⟨b,d,i,c,h2⟩:=h
 refine⟨b,d,i,c,λm hm=>?_⟩
 have hb:yA (ba F (some t) (.pointer (some ⟨s.next,0,none⟩))) ⟨some t,.alloc e,ty,pos,af,g⟩=some s.next:=by
  simp[yA,ba]
 have hn:(({next:=s.next,bar:=s.next,prot:=[],heap:=.nil}:St).new ob).next=s.next+1:=rfl
 have hr:=wp a
 have f:(({next:=s.next,bar:=s.next,prot:=[],heap:=.nil}:St).new ob).get s.next=some ob:=by
  rw[St.get_new (by show s.next+1<_;omega)]
  exact aG J
 simp only[gn,hg,vV,hw,fJ,hv,hb,hn,f,a,eL,Bool.and_self]
 exact h2 m hm
theorem aI.ends{c:Code}{F:FF}{s:St}{Q:bk->Prop}(h:aI P I N c F s Q):fh P I N c F s Q:=by
 induction c generalizing F s Q with
 |skip|exit|ret=>
  refine⟨_,h,1,λm hm=>?_⟩
  obtain⟨m,rfl⟩:∃k,m=k+1:=⟨m-1,by omega⟩
  rfl
 |seq x y hx p=>
  obtain⟨o,a,n,hn⟩:=hx (Q:=I9 P I N y Q) h
  cases o with
  |normal e s₁=>
   obtain⟨g,l,f,j⟩:=p a
   refine⟨g,l,n+f+1,λm hm=>?_⟩
   obtain⟨m,rfl⟩:∃k,m=k+1:=⟨m-1,by omega⟩
   simp only[xi,hn m O]
   exact j m O
  |_=>
   refine⟨_,a,n+1,λm hm=>?_⟩
   obtain⟨m,rfl⟩:∃k,m=k+1:=⟨m-1,by omega⟩
   simp only[xi,hn m O]
 |block id b hb=>
  obtain⟨o,a,n,hn⟩:=hb (Q:=vq id Q) h
  cases o with
  |exit i e s₁=>
   cases hb:Nat.beq i id with
   |_=>
    simp only[vq,hb]at a
    refine⟨_,a,n+1,λm hm=>?_⟩
    obtain⟨m,rfl⟩:∃k,m=k+1:=⟨m-1,by omega⟩
    simp only[xi,hn m O,hb]
  |_=>
   refine⟨_,a,n+1,λm hm=>?_⟩
   obtain⟨m,rfl⟩:∃k,m=k+1:=⟨m-1,by omega⟩
   simp only[xi,hn m O]
 |scope b hb=>
  obtain⟨o,a,n,hn⟩:=hb (Q:=Q) h
  refine⟨o,a,n+1,λm hm=>?_⟩
  obtain⟨m,rfl⟩:∃k,m=k+1:=⟨m-1,by omega⟩
  simp only[xi]
  exact hn m O
 |cond c x y hx p=>
  unfold aI at h
  cases hc:VV (zd F c)with
  |none=>rw[hc]at h;exact h.elim
  |some b=>
   rw[hc]at h
   have hc:=zdH hc
   cases b with
   |true=>
    obtain⟨o,a,n,hn⟩:=hx h
    refine⟨o,a,n+1,λm hm=>?_⟩
    obtain⟨m,rfl⟩:∃k,m=k+1:=⟨m-1,by omega⟩
    simp only[xi,hc]
    exact hn m O
   |false=>
    obtain⟨o,a,n,hn⟩:=p h
    refine⟨o,a,n+1,λm hm=>?_⟩
    obtain⟨m,rfl⟩:∃k,m=k+1:=⟨m-1,by omega⟩
    simp only[xi,hc]
    exact hn m O
 |region id ops d=>
  cases d with
  |true=>exact h
  |false=>
   obtain⟨e,s₁,a,n,hn⟩:=dj.ends h
   refine⟨_,a,n+1,λm hm=>?_⟩
   obtain⟨m,rfl⟩:∃k,m=k+1:=⟨m-1,by omega⟩
   simp only[xi]
   exact hn m O
 |_=>exact h
theorem yq{F:FF}{s:St}{Q:bk->Prop}(h:Q (.normal F s)):aI P I N .skip F s Q:=h
theorem qr{id:Nat}{F:FF}{s:St}{Q:bk->Prop}(h:Q (.exit id F s)):aI P I N (.exit id) F s Q:=h
theorem qE{F:FF}{s:St}{Q:bk->Prop}(h:Q (.ret F s)):aI P I N .ret F s Q:=h
theorem zO{x y:Code}{F:FF}{s:St}{Q:bk->Prop}(h:aI P I N x F s (I9 P I N y Q)):aI P I N (.seq x y) F s Q:=h
theorem yI{c:Operand}{x y:Code}{F:FF}{s:St}{Q:bk->Prop}(hc:zd F c=.bool true)(h:aI P I N x F s Q):aI P I N (.cond c x y) F s Q:=by unfold aI;rw[hc];exact h
theorem yh{c:Operand}{x y:Code}{F:FF}{s:St}{Q:bk->Prop}(hc:zd F c=.bool false)(h:aI P I N y F s Q):aI P I N (.cond c x y) F s Q:=by unfold aI;rw[hc];exact h
theorem yn{id:Nat}{b:Code}{F:FF}{s:St}{Q:bk->Prop}(h:aI P I N b F s (vq id Q)):aI P I N (.block id b) F s Q:=h
def SI(eR:Nat->FF->St->Prop)(k:Nat)(Q:bk->Prop):bk->Prop
 | .normal F s=>∃k',k'<k/\eR k' F s
 |o=>Q o
theorem kM{b:Code}{Q:bk->Prop}(eR:Nat->FF->St->Prop)(step:∀k F s,eR k F s->aI P I N b F s (SI eR k Q)) :
 ∀(k:Nat) (F:FF) (s:St),eR k F s->aI P I N (.loop b) F s Q:=by
 intro k
 induction k using Nat.strongRecOn with
 |_ k j=>
  intro F s hi
  obtain⟨o,e,n,hn⟩:=(step k F s hi).ends
  cases o with
  |normal a s₁=>
   obtain⟨k',hk,f⟩:=e
   obtain⟨d,h,c,g⟩:=j k' hk a s₁ f
   refine⟨d,h,n+c+1,λm hm=>?_⟩
   obtain⟨m,rfl⟩:∃k,m=k+1:=⟨m-1,by omega⟩
   simp only[xi,hn m O]
   exact g m O
  |exit i a s₁=>
   refine⟨_,e,n+1,λm hm=>?_⟩
   obtain⟨m,rfl⟩:∃k,m=k+1:=⟨m-1,by omega⟩
   simp only[xi,hn m O]
  |ret a s₁=>
   refine⟨_,e,n+1,λm hm=>?_⟩
   obtain⟨m,rfl⟩:∃k,m=k+1:=⟨m-1,by omega⟩
   simp only[xi,hn m O]
  |stuck=>
   refine⟨_,e,n+1,λm hm=>?_⟩
   obtain⟨m,rfl⟩:∃k,m=k+1:=⟨m-1,by omega⟩
   simp only[xi,hn m O]
theorem zW{id:Nat}{ops:Array Oper}{F:FF}{s:St}{Q:bk->Prop}(h:dj P I ops.toList ops.toList F s λF s=>Q (.normal F s)):aI P I N (.region id ops false) F s Q:=h
theorem uz{id:Nat}{ops:Array Oper}{F:FF}{s:St}{Q:bk->Prop}(l:List an)(hb:Zt ops.toList (plan ops.toList)=true)(hl:plan ops.toList=l)
 (h:yX P I ops.toList l F s λF s=>Q (.normal F s)):aI P I N (.region id ops true) F s Q:=by
 obtain⟨F₁,s₁,a,n,hn⟩:=h
 refine⟨_,a,n+1,λm hm=>?_⟩
 obtain⟨m,rfl⟩:∃k,m=k+1:=⟨m-1,by omega⟩
 simp only[xi,hb]
 rw[hl]
 exact hn m O
theorem zh{id:Nat}{ops:Array Oper}{y:Code}{F:FF}{s:St}{Q:bk->Prop}(h:dj P I ops.toList ops.toList F s λF s=>aI P I N y F s Q):aI P I N (.seq (.region id ops false) y) F s Q:=
 zO (zW h)
theorem vW{id:Nat}{ops:Array Oper}{y:Code}{F:FF}{s:St}{Q:bk->Prop}(l:List an)(hb:Zt ops.toList (plan ops.toList)=true)(hl:plan ops.toList=l)
 (h:yX P I ops.toList l F s λF s=>aI P I N y F s Q):aI P I N (.seq (.region id ops true) y) F s Q:=
 zO (uz l hb hl h)
def ns(F:FF):List (Nat×Value)->Prop
 | []=>True
 |(d,v)::l=>F d=v/\ns F l
def fT(G:FF):List (Nat×Value)->FF
 | []=>G
 |(d,v)::l=>ba (fT G l) (some d) v
theorem zcP{F:FF}:∀{l:List (Nat×Value)},ns F l->fT F l=F
 | [],_=>rfl
 |(d,v)::l,h=>by
  funext t
  simp only[fT,vk,zcP h.2]
  split
  .next e=>rw[e];exact h.1.symm
  .rfl
theorem slots{F:FF}{l:List (Nat×Value)}(h:ns F l):F=fT F l:=(zcP h).symm
def Qh:List Value->Nat->FF->FF
 | [],_,F=>F
 |v::l,n,F=>Qh l (n+1) (ba F (some n) v)
def YQ(args:Array Value):FF:=Qh args.toList 0 λ_=>undef
theorem Qq:∀(l:List Value) (n N:Nat) (F:FF) (t:Tr Value),n+l.length<=N->aT N F ⟨N,t⟩->aT N (Qh l n F) ⟨N,YT l n t⟩
 | [],_,_,_,_,_,h=>h
 |v::l,n,N,F,t,hn,h=>by
  simp only[aU]at hn
  simp only[Qh,YT]
  refine Qq l (n+1) N _ _ O ?_
  have:=h.put (some n) v
  have hb:Nat.blt n N=true:=wU O
  simpa only[Fr.put,hb]using this
theorem zdU{args:Array Value}{N:Nat}(h1:args.toList.length<=N)(h2:N<=65534):aT N (YQ args) (Fr.make args N):=by
 refine Qq _ 0 N _ _ O ⟨J,h2,λt _=>?_⟩
 simp[Fr.get,Tr.get]
def qP(P:Program)(F:FF)(s:St):List ResultVar->Option (List Value)
 | []=>some []
 | .tmp t::l=>match qP P F s l with
  |some r=>some (F t::r)
  |none=>none
 | .cell t ty::l=>match wc P ty (F t) s,qP P F s l with
  |some v,some r=>some (v::r)
  |_,_=>none
def QN(N:Nat):ResultVar->Bool
 | .tmp t=>Nat.blt t N
 | .cell t _=>Nat.blt t N
theorem ja{N:Nat}{F:FF}{a:Fr}{s:St}(h:aT N F a):∀l:List ResultVar,l.all (QN N)=true->qO P a s l=qP P F s l
 | [],_=>rfl
 | .tmp t::l,hl=>by
  simp only[List.all_cons,aF,QN]at hl
  simp only[qO,qP]
  rw[ja h l (by simpa using hl.2),h.get t (aR hl.1)]
  rfl
 | .cell t ty::l,hl=>by
  simp only[List.all_cons,aF,QN]at hl
  simp only[qO,qP]
  rw[ja h l (by simpa using hl.2),h.get t (aR hl.1)]
  rfl
structure fq(P:Program)(rs:List ResultVar)(Post:Value->St->Prop)(F:FF)(s:St):Prop where
 ex:match qP P F s rs with
 |some [v]=>Post v s
 |some l=>Post (.tuple ⟨l⟩) s
 |none=>False
def HC(P:Program)(rs:List ResultVar)(Post:Value->St->Prop):bk->Prop
 | .normal F s=>fq P rs Post F s
 | .ret F s=>fq P rs Post F s
 |_=>False
def vM(fn:Func)(c:Code)(n:Nat):Bool:=
 Nat.ble n fn.ntmps&&Nat.ble fn.ntmps 65534&&xP c&&qX fn.ntmps c&&fn.results.toList.all (QN fn.ntmps)
theorem uL{t:Nat}{F:FF}{s:St}{Post:Value->St->Prop}(h:Post (F t) s):fq P [.tmp t] Post F s:=⟨h⟩
theorem xA{rs:List ResultVar}{F:FF}{s:St}{Post:Value->St->Prop}(h:fq P rs Post F s):HC P rs Post (.ret F s):=h
theorem nrm_end{rs:List ResultVar}{F:FF}{s:St}{Post:Value->St->Prop}(h:fq P rs Post F s):HC P rs Post (.normal F s):=h
theorem zn{k:FF->St->Prop}{Q:bk->Prop}{F:FF}{s:St}(h:k F s):mu k Q (.normal F s):=h
theorem qm{k:FF->St->Prop}{Q:bk->Prop}{F:FF}{s:St}(h:Q (.ret F s)):mu k Q (.ret F s):=h
theorem xD{k:FF->St->Prop}{Q:bk->Prop}{i:Nat}{F:FF}{s:St}(h:Q (.exit i F s)):mu k Q (.exit i F s):=h
theorem xb{id:Nat}{Q:bk->Prop}{F:FF}{s:St}(h:Q (.normal F s)):vq id Q (.normal F s):=h
theorem vi{id:Nat}{Q:bk->Prop}{F:FF}{s:St}(h:Q (.ret F s)):vq id Q (.ret F s):=h
theorem xF{id:Nat}{Q:bk->Prop}{F:FF}{s:St}(h:Q (.normal F s)):vq id Q (.exit id F s):=by
 simp only[vq,eL];exact h
theorem VW{id i:Nat}{Q:bk->Prop}{F:FF}{s:St}(hi:Nat.beq i id=false)(h:Q (.exit i F s)):vq id Q (.exit i F s):=by
 simp only[vq,hi];exact h
theorem yB{eR:Nat->FF->St->Prop}{k:Nat}{Q:bk->Prop}{F:FF}{s:St}(h:∃k',k'<k/\eR k' F s):SI eR k Q (.normal F s):=h
theorem gg{eR:Nat->FF->St->Prop}{k:Nat}{Q:bk->Prop}{F:FF}{s:St}(h:Q (.ret F s)):SI eR k Q (.ret F s):=h
theorem xq{eR:Nat->FF->St->Prop}{k i:Nat}{Q:bk->Prop}{F:FF}{s:St}(h:Q (.exit i F s)):SI eR k Q (.exit i F s):=h
theorem qz{f:FuncId}{args:Array Value}{s:St}{fn:Func}{c:Code}{Post:Value->St->Prop}(n:Nat)(A:I f=none)(hf:P.funcs[f]? = some fn)(hb:fn.body=some c)(hc:vM fn c n=true)
 (hn:args.toList.length=n) (h:aI P I fn.ntmps c (YQ args) s (HC P fn.results.toList Post)) (g:Nat.ble zy f=false:=by exact rfl):∃v s',vr P I f args s v s'/\Post v s':=by
 simp only[vM,aF]at hc
 replace h:=h.ends
 obtain⟨⟨⟨⟨h1,h2⟩,B⟩,C⟩,z⟩:=hc
 obtain⟨o,u,k,hk⟩:=h
 have w:aT fn.ntmps (YQ args) (Fr.make args fn.ntmps):=zdU (by rw[hn];exact aR h1) (aR h2)
 have hgate:(Nat.ble (yD args.toList 0) fn.ntmps&&Nat.ble fn.ntmps 65534&&xP c)=true:=by
  rw[yf,hn,bM,h1,h2,B];rfl
 have e:∀F s',fq P fn.results.toList Post F s'->∃v,Post v s'/\∀a,aT fn.ntmps F a->finish P fn a s'=.ret v s':=by
  intro F s' he
  replace he:=he.ex
  split at he
  .next v hv=>exact⟨v,he,λa ha=>by unfold finish;rw[ja ha _ z,hv]⟩
  .next l hl hv=>
   refine⟨_,he,λa ha=>?_⟩
   unfold finish
   rw[ja ha _ z,hv]
   cases l with
   |nil=>rfl
   |cons x l=>cases l with
    |nil=>exact(hl x rfl).elim
    |cons y l=>rfl
  .exact he.elim
 have j:=λm=>kF (P:=P) (I:=I) m c (YQ args) (Fr.make args fn.ntmps) s C w
 cases o with
 |normal F s'=>
  obtain⟨v,r,hv⟩:=e F s' u
  refine⟨v,s',⟨k,λm q=>?_⟩,r⟩
  have h0:=j m
  rw[hk m q]at h0
  simp only[Zy,yL,g,A,hf,hb,gH,hgate]
  cases d:zY P I m c (Fr.make args fn.ntmps) s with
  |normal b t=>
   rw[d]at h0
   obtain⟨rfl,p⟩:=h0
   exact hv b p
  |_=>rw[d]at h0;exact h0.elim
 |ret F s'=>
  obtain⟨v,r,hv⟩:=e F s' u
  refine⟨v,s',⟨k,λm q=>?_⟩,r⟩
  have h0:=j m
  rw[hk m q]at h0
  simp only[Zy,yL,g,A,hf,hb,gH,hgate]
  cases d:zY P I m c (Fr.make args fn.ntmps) s with
  |ret b t=>
   rw[d]at h0
   obtain⟨rfl,p⟩:=h0
   exact hv b p
  |_=>rw[d]at h0;exact h0.elim
 |exit i F s'=>exact u.elim
 |stuck=>exact u.elim
end
abbrev au:=List (Nat×ak)
def zA:Nat:=281474976710655
structure HL(W:List Nat)(s0 s:St)(L:au)(n:Nat):Prop where
 bar:s.bar=s0.bar
 prot:s.prot=s0.prot
 wfb:s0.bar<=s0.next
 wfp:∀p,p∈s0.prot->p<s0.next
 le:s0.next<=s.next
 most:s.next<=s0.next+n
 own:∀p,p∈L->s.get p.1=some p.2/\p.1<s.next/\s.may p.1=true/\(s0.next<=p.1\/p.1∈W)
 dist:L.Pairwise λp q=>p.1≠q.1
 kept:∀b,b<s0.next->b∉W->s.get b=s0.get b
structure Fine(s:St):Prop where
 wfb:s.bar<=s.next
 wfp:∀p,p∈s.prot->p<s.next
theorem Fine.hl{s:St}(h:Fine s):HL [] s s [] 0:=
 ⟨rfl,rfl,h.wfb,h.wfp,aN _,aN _,λ_ h=>(by cases h),.nil,λ_ _ _=>rfl⟩
theorem pA{s:St}{b:Nat}(h1:s.bar<=b)(h2:b∉s.prot):s.may b=true:=by
 simp only[St.may,aF,bB]
 refine⟨aZ h1,?_⟩
 rw[cM]
 intro h
 rw[dT]at h
 obtain⟨x,hx,he⟩:=h
 have:=aK he
 subst this
 exact h2 hx
section
variable{W:List Nat}{s0 s:St}{L:au}{n:Nat}
theorem HL.fine(H:HL W s0 s L n):Fine s:=⟨by have:=H.bar;have:=H.wfb;have:=H.le;omega,λp hp=>by rw[H.prot]at hp;have:=H.wfp p hp;have:=H.le;omega⟩
theorem HL.up(H:HL W s0 s L n){a:Nat}(h:n<=a):HL W s0 s L a:={H with most:=by have:=H.most;omega}
theorem HL.sub(H:HL W s0 s L n){L':au}(h:L'.Sublist L):HL W s0 s L' n:=
 {H with own:=λp hp=>H.own p (h.subset hp),dist:=H.dist.sublist h}
theorem HL.may_next(H:HL W s0 s L n):s.may s.next=true:=by
 refine pA (by have:=H.bar;have:=H.wfb;have:=H.le;omega) λh=>?_
 rw[H.prot]at h
 have:=H.wfp _ h
 have:=H.le
 omega
theorem HL.new(H:HL W s0 s L n)(o:ak)(f:s0.next+n<zA):HL W s0 (s.new o) ((s.next,o)::L) (n+1):=by
 have hm:=H.most
 have hle:=H.le
 unfold zA at f
 have hg:=λb'=>St.get_new (s:=s) O o b'
 refine⟨H.bar,H.prot,H.wfb,H.wfp,by simp only[St.new_next];omega,by simp only[St.new_next];omega,λp hp=>?_,?_,λb hb hw=>?_⟩
 .rcases aJ.mp hp with rfl|hp
  .refine⟨by rw[hg];simp,by simp only[St.new_next];omega,?_,.inl hle⟩
   exact H.may_next
  .obtain⟨h1,h2,a,c⟩:=H.own p hp
   refine⟨by rw[hg,aD O];exact h1,by simp only[St.new_next];omega,a,c⟩
 .exact List.Pairwise.cons (λq e=>by have:=(H.own q e).2.1;simp only;omega) H.dist
 .rw[hg,aD O];exact H.kept b hb hw
theorem HL.room(H:HL W s0 s L n)(a:s0.next+n<zA):s.room=true:=by
 have hm:=H.most
 unfold zA at a
 simp only[St.room,Nat.blt_eq]
 omega
theorem HL.putAt(A:au){B:au}{b:Nat}{o:ak}(H:HL W s0 s (A++(b,o)::B) n)(o':ak)(r:s0.next+n<=zA):HL W s0 (s.put b (some o')) (A++(b,o')::B) n:=by
 have hm:=H.most
 unfold zA at r
 obtain⟨hb1,hb2,l,i⟩:=H.own (b,o) Y8
 have hg:=λb'=>St.get_put (s:=s) (b:=b) (by simp only at hb2;omega) (some o') b'
 have hd:=H.dist
 rw[List.pairwise_append,List.pairwise_cons]at hd
 obtain⟨d1,⟨d2,d3⟩,d4⟩:=hd
 refine⟨H.bar,H.prot,H.wfb,H.wfp,H.le,H.most,λp hp=>?_,?_,λb' hb hw=>?_⟩
 .rcases aW.mp hp with hp|hp
  .obtain⟨h1,h2,j,k⟩:=H.own p (by simp[hp])
   have f:p.1≠b:=d4 p hp (b,o) Y8
   exact⟨by rw[hg,aD f];exact h1,h2,j,k⟩
  .rcases aJ.mp hp with rfl|hp
   .exact⟨by rw[hg];simp,hb2,l,i⟩
   .obtain⟨h1,h2,j,k⟩:=H.own p (by simp[hp])
    have f:p.1≠b:=λe=>d2 p hp e.symm
    exact⟨by rw[hg,aD f];exact h1,h2,j,k⟩
 .rw[List.pairwise_append,List.pairwise_cons]
  refine⟨d1,⟨λq m=>d2 q m,d3⟩,λa ha c hc=>?_⟩
  rcases aJ.mp hc with rfl|hc
  .exact d4 a ha (b,o) Y8
  .exact d4 a ha c (by simp[hc])
 .rw[hg]
  split
  .next e=>
   subst e
   rcases i with h|h
   .simp only at h;omega
   .exact(hw h).elim
  .exact H.kept b' hb hw
theorem HL.killAt(A:au){B:au}{b:Nat}{o:ak}(H:HL W s0 s (A++(b,o)::B) n)(l:s0.next+n<=zA):HL W s0 (s.put b none) (A++B) n:=by
 have hm:=H.most
 unfold zA at l
 obtain⟨hb1,hb2,hb3,k⟩:=H.own (b,o) Y8
 have hg:=λb'=>St.get_put (s:=s) (b:=b) (by simp only at hb2;omega) none b'
 have hd:=H.dist
 rw[List.pairwise_append,List.pairwise_cons]at hd
 obtain⟨d1,⟨d2,d3⟩,d4⟩:=hd
 refine⟨H.bar,H.prot,H.wfb,H.wfp,H.le,H.most,λp hp=>?_,?_,λb' hb hw=>?_⟩
 .rcases aW.mp hp with hp|hp
  .obtain⟨h1,h2,i,j⟩:=H.own p (by simp[hp])
   have f:p.1≠b:=d4 p hp (b,o) Y8
   exact⟨by rw[hg,aD f];exact h1,h2,i,j⟩
  .obtain⟨h1,h2,i,j⟩:=H.own p (by simp[hp])
   have f:p.1≠b:=λe=>d2 p hp e.symm
   exact⟨by rw[hg,aD f];exact h1,h2,i,j⟩
 .rw[List.pairwise_append]
  exact⟨d1,d3,λa ha c hc=>d4 a ha c (by simp[hc])⟩
 .rw[hg]
  split
  .next e=>
   subst e
   rcases k with h|h
   .simp only at h;omega
   .exact(hw h).elim
  .exact H.kept b' hb hw
theorem HL.call(H:HL W s0 s L n){s':St}{i:au}{k:Nat}(H':HL [] s s' i k):HL W s0 s' (i++L) (n+k):=by
 have hm:=H.most
 have hm':=H'.most
 have hle:=H.le
 have hle':=H'.le
 refine⟨H'.bar.trans H.bar,H'.prot.trans H.prot,H.wfb,H.wfp,by omega,by omega,λp hp=>?_,?_,λb hb hw=>?_⟩
 .rcases aW.mp hp with hp|hp
  .obtain⟨h1,h2,e,f⟩:=H'.own p hp
   refine⟨h1,h2,e,.inl ?_⟩
   rcases f with h|h
   .omega
   .cases h
  .obtain⟨h1,h2,e,f⟩:=H.own p hp
   refine⟨by rw[H'.kept _ h2 Y8];exact h1,by omega,?_,f⟩
   rw[St.may_eq H'.bar H'.prot];exact e
 .rw[List.pairwise_append]
  refine⟨H'.dist,H.dist,λa ha c hc=>?_⟩
  have h1:=(H'.own a ha).2.2.2
  have h2:=(H.own c hc).2.1
  rcases h1 with h|h
  .omega
  .cases h
 .rw[H'.kept b O Y8];exact H.kept b hb hw
theorem HL.get(H:HL [] s0 s L n){b:Nat}(hb:b<s0.next):s.get b=s0.get b:=H.kept b hb Y8
theorem HL.old(H:HL [] s0 s L n){b:Nat}{o:Option ak}(hb:b<s0.next)(h:s0.get b=o):s.get b=o:=by rw[H.kept b hb Y8];exact h
theorem HL.own0{b:Nat}{o:ak}(H:HL W s0 s ((b,o)::L) n):s.get b=some o:=(H.own (b,o) Y8).1
theorem HL.lt0{b:Nat}{o:ak}(H:HL W s0 s ((b,o)::L) n):b<s.next:=(H.own (b,o) Y8).2.1
theorem HL.lim0{b:Nat}{o:ak}(H:HL W s0 s ((b,o)::L) n)(hr:s0.next+n<=zA):b<zA:=by have h1:=(H.own (b,o) Y8).2.1;have h2:=H.most;simp only at h1;omega
theorem HL.put0{b:Nat}{o:ak}(H:HL W s0 s ((b,o)::L) n)(o':ak)(a:s0.next+n<=zA):HL W s0 (s.put b (some o')) ((b,o')::L) n:=HL.putAt [] H o' a
theorem HL.drop0{b:Nat}{o:ak}(H:HL W s0 s ((b,o)::L) n):HL W s0 s (L) n:=H.sub (.cons _ (List.Sublist.refl _))
theorem HL.own1{a:Nat×ak}{b:Nat}{o:ak}(H:HL W s0 s (a::(b,o)::L) n):s.get b=some o:=(H.own (b,o) Y8).1
theorem HL.lt1{a:Nat×ak}{b:Nat}{o:ak}(H:HL W s0 s (a::(b,o)::L) n):b<s.next:=(H.own (b,o) Y8).2.1
theorem HL.lim1{a:Nat×ak}{b:Nat}{o:ak}(H:HL W s0 s (a::(b,o)::L) n)(hr:s0.next+n<=zA):b<zA:=by have h1:=(H.own (b,o) Y8).2.1;have h2:=H.most;simp only at h1;omega
theorem HL.put1{a:Nat×ak}{b:Nat}{o:ak}(H:HL W s0 s (a::(b,o)::L) n)(o':ak)(c:s0.next+n<=zA):HL W s0 (s.put b (some o')) (a::(b,o')::L) n:=HL.putAt [a] H o' c
theorem HL.drop1{a:Nat×ak}{b:Nat}{o:ak}(H:HL W s0 s (a::(b,o)::L) n):HL W s0 s (a::L) n:=H.sub (.cons_cons _ (.cons _ (List.Sublist.refl _)))
theorem HL.own2{a p1:Nat×ak}{b:Nat}{o:ak}(H:HL W s0 s (a::p1::(b,o)::L) n):s.get b=some o:=(H.own (b,o) Y8).1
theorem HL.lim2{a p1:Nat×ak}{b:Nat}{o:ak}(H:HL W s0 s (a::p1::(b,o)::L) n)(hr:s0.next+n<=zA):b<zA:=by have h1:=(H.own (b,o) Y8).2.1;have h2:=H.most;simp only at h1;omega
theorem HL.put2{a p1:Nat×ak}{b:Nat}{o:ak}(H:HL W s0 s (a::p1::(b,o)::L) n)(o':ak)(c:s0.next+n<=zA):HL W s0 (s.put b (some o')) (a::p1::(b,o')::L) n:=HL.putAt [a,p1] H o' c
theorem HL.own3{a p1 p2:Nat×ak}{b:Nat}{o:ak}(H:HL W s0 s (a::p1::p2::(b,o)::L) n):s.get b=some o:=(H.own (b,o) Y8).1
theorem HL.lim3{a p1 p2:Nat×ak}{b:Nat}{o:ak}(H:HL W s0 s (a::p1::p2::(b,o)::L) n)(hr:s0.next+n<=zA):b<zA:=by have h1:=(H.own (b,o) Y8).2.1;have h2:=H.most;simp only at h1;omega
theorem HL.put3{a p1 p2:Nat×ak}{b:Nat}{o:ak}(H:HL W s0 s (a::p1::p2::(b,o)::L) n)(o':ak)(c:s0.next+n<=zA):HL W s0 (s.put b (some o')) (a::p1::p2::(b,o')::L) n:=HL.putAt [a,p1,p2] H o' c
theorem HL.own4{a p1 p2 c:Nat×ak}{b:Nat}{o:ak}(H:HL W s0 s (a::p1::p2::c::(b,o)::L) n):s.get b=some o:=(H.own (b,o) Y8).1
theorem HL.put4{a p1 p2 c:Nat×ak}{b:Nat}{o:ak}(H:HL W s0 s (a::p1::p2::c::(b,o)::L) n)(o':ak)(e:s0.next+n<=zA):HL W s0 (s.put b (some o')) (a::p1::p2::c::(b,o')::L) n:=HL.putAt [a,p1,p2,c] H o' e
theorem HL.own5{a p1 p2 c e:Nat×ak}{b:Nat}{o:ak}(H:HL W s0 s (a::p1::p2::c::e::(b,o)::L) n):s.get b=some o:=(H.own (b,o) Y8).1
theorem HL.lim5{a p1 p2 c e:Nat×ak}{b:Nat}{o:ak}(H:HL W s0 s (a::p1::p2::c::e::(b,o)::L) n)(hr:s0.next+n<=zA):b<zA:=by have h1:=(H.own (b,o) Y8).2.1;have h2:=H.most;simp only at h1;omega
theorem HL.put5{a p1 p2 c e:Nat×ak}{b:Nat}{o:ak}(H:HL W s0 s (a::p1::p2::c::e::(b,o)::L) n)(o':ak)(f:s0.next+n<=zA):HL W s0 (s.put b (some o')) (a::p1::p2::c::e::(b,o')::L) n:=HL.putAt [a,p1,p2,c,e] H o' f
theorem HL.own6{a p1 p2 c e f:Nat×ak}{b:Nat}{o:ak}(H:HL W s0 s (a::p1::p2::c::e::f::(b,o)::L) n):s.get b=some o:=(H.own (b,o) Y8).1
end
section
variable{P:Program}{I:zZ}{F:FF}{s:St}{Q:FF->St->Prop}{d:Option Tmp}{ty:TypeId}{pos:String}{af:Array Edge}{g:Option (Nat×Bool)}
theorem zE{o:Oper}{v:Value}{s':St}(h:zj P (zd F) o.op s=.ok (.value v) s')(k:Q (ba F o.dst v) s'):br P I o F s Q:=
 ⟨_,_,k,0,λm _=>by simp only[fJ,h]⟩
theorem jd{o:Oper}{s':St}(h:zj P (zd F) o.op s=.ok .skip s')(k:Q (ba F o.dst undef) s'):br P I o F s Q:=
 ⟨_,_,k,0,λm _=>by simp only[fJ,h]⟩
theorem pW{o:Oper}{f:FuncId}{args:Array Value}{s₁:St}(h:zj P (zd F) o.op s=.ok (.enter f args) s₁)(c:∃v s',vr P I f args s₁ v s'/\Q (ba F o.dst v) s')(a:Nat.ble zy f=false:=by exact rfl):br P I o F s Q:=by
 obtain⟨v,s',⟨n,hn⟩,b⟩:=c
 exact⟨_,_,b,n,λm hm=>by simp only[fJ,h,a,hn m hm]⟩
theorem yF{x:Operand}(k:Q (ba F d (zd F x)) s):br P I ⟨d,.move x,ty,pos,af,g⟩ F s Q:=zE rfl k
theorem qk{x:Operand}(k:Q (ba F d (zd F x)) s):br P I ⟨d,.assign x,ty,pos,af,g⟩ F s Q:=zE rfl k
theorem zcy{c a b:Operand}(hc:zd F c=.bool true)(k:Q (ba F d (zd F a)) s):br P I ⟨d,.pick c a b,ty,pos,af,g⟩ F s Q:=zE (by simp only[zj,YE,hc];rfl) k
theorem zcz{c a b:Operand}(hc:zd F c=.bool false)(k:Q (ba F d (zd F b)) s):br P I ⟨d,.pick c a b,ty,pos,af,g⟩ F s Q:=zE (by simp only[zj,YE,hc];rfl) k
theorem wJ{v:Value}(k:Q (ba F d v) s):br P I ⟨d,.move (.const v),ty,pos,af,g⟩ F s Q:=yF k
theorem zQ{v:Value}(k:Q (ba F d v) s):br P I ⟨d,.assign (.const v),ty,pos,af,g⟩ F s Q:=qk k
theorem me{y w:Operand}{v:Value}(hc:zd F y=.bool true)(k:Q (ba F d v) s):br P I ⟨d,.pick y (.const v) w,ty,pos,af,g⟩ F s Q:=zcy hc k
theorem gU{y z:Operand}{v:Value}(hc:zd F y=.bool false)(k:Q (ba F d v) s):br P I ⟨d,.pick y z (.const v),ty,pos,af,g⟩ F s Q:=zcz hc k
theorem zg{x:Operand}{kd:IntKind}{a:Int}(hx:zd F x=.int kd a)(k:Q (ba F d (.int kd a)) s):br P I ⟨d,.move x,ty,pos,af,g⟩ F s Q:=yF V9
theorem yb{x:Operand}{kd:IntKind}{a:Int}(hx:zd F x=.int kd a)(k:Q (ba F d (.int kd a)) s):br P I ⟨d,.assign x,ty,pos,af,g⟩ F s Q:=qk V9
theorem xw{x:Operand}{b:Bool}(hx:zd F x=.bool b)(k:Q (ba F d (.bool b)) s):br P I ⟨d,.move x,ty,pos,af,g⟩ F s Q:=yF V9
theorem xj{x:Operand}{b:Bool}(hx:zd F x=.bool b)(k:Q (ba F d (.bool b)) s):br P I ⟨d,.assign x,ty,pos,af,g⟩ F s Q:=qk V9
theorem vQ{y z w:Operand}{b:Bool}(hc:zd F y=.bool true)(hx:zd F z=.bool b)(k:Q (ba F d (.bool b)) s):br P I ⟨d,.pick y z w,ty,pos,af,g⟩ F s Q:=zcy hc V9
theorem wz{y z w:Operand}{b:Bool}(hc:zd F y=.bool false)(hx:zd F w=.bool b)(k:Q (ba F d (.bool b)) s):br P I ⟨d,.pick y z w,ty,pos,af,g⟩ F s Q:=zcz hc V9
theorem zC{x:Operand}{a:Option Addr}{m c:Nat}(hx:zd F x=.slice a m c)(k:Q (ba F d (.slice a m c)) s):br P I ⟨d,.move x,ty,pos,af,g⟩ F s Q:=yF V9
theorem yv{x:Operand}{a:Option Addr}{m c:Nat}(hx:zd F x=.slice a m c)(k:Q (ba F d (.slice a m c)) s):br P I ⟨d,.assign x,ty,pos,af,g⟩ F s Q:=qk V9
theorem v7{x:Operand}{a:Option Addr}(hx:zd F x=.pointer a)(k:Q (ba F d (.pointer a)) s):br P I ⟨d,.move x,ty,pos,af,g⟩ F s Q:=yF V9
theorem zeM{x:Operand}{a:Option Addr}(hx:zd F x=.pointer a)(k:Q (ba F d (.pointer a)) s):br P I ⟨d,.assign x,ty,pos,af,g⟩ F s Q:=qk V9
theorem v6{x:Operand}{vs:Array Value}(hx:zd F x=.tuple vs)(k:Q (ba F d (.tuple vs)) s):br P I ⟨d,.move x,ty,pos,af,g⟩ F s Q:=yF V9
theorem KR{t:TypeId}{x:Operand}{b:Bool}(hx:zd F x=.bool b)(k:Q (ba F d (.bool (!b))) s):br P I ⟨d,.unOp .not t x,ty,pos,af,g⟩ F s Q:=zE (by simp only[zj,BS,hx];rfl) k
def xc(n:Int):Prop:= -9223372036854775808<=n/\n<=9223372036854775807
theorem zhn{n:Int}(h:xc n):Vn n=true:=by
 obtain⟨h1,h2⟩:=h
 cases n with
 |ofNat a=>simp only[Vn];exact aZ (by simp only[eS]at h2;omega)
 |negSucc a=>simp only[Vn];exact aZ O
theorem Yo{n:Int}(h:xc n):IntKind.i64.wrap n=n:=Kf (zhn h)
theorem YR{n:Int}(h:xc n):wd n=some (.int .i64 n):=by simp only[wd,zhn h]
theorem xU{t:TypeId}{x y:Operand}{e:TypeId}{a b:Int}(hx:zd F x=.int .i64 a)(c:zd F y=.int .i64 b)(h:xc (a+b))(k:Q (ba F d (.int .i64 (a+b))) s):br P I ⟨d,.binOp .add t x y e,ty,pos,af,g⟩ F s Q:=
 zE (by simp only[zj,qM,hx,c,qU,yT,YR h];rfl) k
theorem wi{t:TypeId}{x y:Operand}{e:TypeId}{a b:Int}(hx:zd F x=.int .i64 a)(c:zd F y=.int .i64 b)(h:xc (a-b))(k:Q (ba F d (.int .i64 (a-b))) s):br P I ⟨d,.binOp .sub t x y e,ty,pos,af,g⟩ F s Q:=
 zE (by simp only[zj,qM,hx,c,qU,yT,YR h];rfl) k
theorem qa(a b:Int):fG a b=decide (a<=b):=by
 cases a<;>cases b<;>simp only[fG]<;>rw[Bool.eq_iff_iff]<;>simp only[Nat.ble_eq,aC]<;>(try simp only[eS])<;>(try constructor)<;>(try intro)<;>(try omega)<;>simp_all<;>omega
theorem qW(a b:Int):lG a b=decide (a=b):=by
 cases a<;>cases b<;>simp only[lG]<;>rw[Bool.eq_iff_iff]<;>simp only[Nat.beq_eq,aC]<;>(try simp only[eS])<;>(try constructor)<;>(try intro)<;>(try omega)<;>simp_all
theorem kw{t:TypeId}{x y:Operand}{i:TypeId}{a b:Int}(hx:zd F x=.int .i64 a)(c:zd F y=.int .i64 b)(f:a<b->Q (ba F d (.bool true)) s)(e:¬(a<b)->Q (ba F d (.bool false)) s):br P I ⟨d,.binOp .lss t x y i,ty,pos,af,g⟩ F s Q:=by
 by_cases h:a<b
 .refine zE (v:=.bool true) (s':=s) ?_ (f h)
  have:(!(fG b a))=true:=by simp only[qa,qW,bB,aC,bO];omega
  simp only[zj,qM,hx,c,qU,yT,this];rfl
 .refine zE (v:=.bool false) (s':=s) ?_ (e h)
  have:(!(fG b a))=false:=by simp only[qa,qW,eU,aC,bO];omega
  simp only[zj,qM,hx,c,qU,yT,this];rfl
theorem Hn{t:TypeId}{x y:Operand}{i:TypeId}{a b:Int}(hx:zd F x=.int .i64 a)(c:zd F y=.int .i64 b)(f:a<=b->Q (ba F d (.bool true)) s)(e:¬(a<=b)->Q (ba F d (.bool false)) s):br P I ⟨d,.binOp .leq t x y i,ty,pos,af,g⟩ F s Q:=by
 by_cases h:a<=b
 .refine zE (v:=.bool true) (s':=s) ?_ (f h)
  have:(fG a b)=true:=by simp only[qa,qW,bB,aC,bO];omega
  simp only[zj,qM,hx,c,qU,yT,this];rfl
 .refine zE (v:=.bool false) (s':=s) ?_ (e h)
  have:(fG a b)=false:=by simp only[qa,qW,eU,aC,bO];omega
  simp only[zj,qM,hx,c,qU,yT,this];rfl
theorem R9{t:TypeId}{x y:Operand}{i:TypeId}{a b:Int}(hx:zd F x=.int .i64 a)(c:zd F y=.int .i64 b)(f:b<a->Q (ba F d (.bool true)) s)(e:¬(b<a)->Q (ba F d (.bool false)) s):br P I ⟨d,.binOp .gtr t x y i,ty,pos,af,g⟩ F s Q:=by
 by_cases h:b<a
 .refine zE (v:=.bool true) (s':=s) ?_ (f h)
  have:(!(fG a b))=true:=by simp only[qa,qW,bB,aC,bO];omega
  simp only[zj,qM,hx,c,qU,yT,this];rfl
 .refine zE (v:=.bool false) (s':=s) ?_ (e h)
  have:(!(fG a b))=false:=by simp only[qa,qW,eU,aC,bO];omega
  simp only[zj,qM,hx,c,qU,yT,this];rfl
theorem Hm{t:TypeId}{x y:Operand}{i:TypeId}{a b:Int}(hx:zd F x=.int .i64 a)(c:zd F y=.int .i64 b)(f:b<=a->Q (ba F d (.bool true)) s)(e:¬(b<=a)->Q (ba F d (.bool false)) s):br P I ⟨d,.binOp .geq t x y i,ty,pos,af,g⟩ F s Q:=by
 by_cases h:b<=a
 .refine zE (v:=.bool true) (s':=s) ?_ (f h)
  have:(fG b a)=true:=by simp only[qa,qW,bB,aC,bO];omega
  simp only[zj,qM,hx,c,qU,yT,this];rfl
 .refine zE (v:=.bool false) (s':=s) ?_ (e h)
  have:(fG b a)=false:=by simp only[qa,qW,eU,aC,bO];omega
  simp only[zj,qM,hx,c,qU,yT,this];rfl
theorem Xv{t:TypeId}{x y:Operand}{i:TypeId}{a b:Int}(hx:zd F x=.int .i64 a)(c:zd F y=.int .i64 b)(f:a=b->Q (ba F d (.bool true)) s)(e:¬(a=b)->Q (ba F d (.bool false)) s):br P I ⟨d,.binOp .eql t x y i,ty,pos,af,g⟩ F s Q:=by
 by_cases h:a=b
 .refine zE (v:=.bool true) (s':=s) ?_ (f h)
  have:(lG a b)=true:=by simp only[qa,qW,bB,aC,bO];omega
  simp only[zj,qM,hx,c,qU,yT,this];rfl
 .refine zE (v:=.bool false) (s':=s) ?_ (e h)
  have:(lG a b)=false:=by simp only[qa,qW,eU,aC,bO];omega
  simp only[zj,qM,hx,c,qU,yT,this];rfl
theorem pX{t:TypeId}{x y:Operand}{i:TypeId}{a b:Int}(hx:zd F x=.int .i64 a)(c:zd F y=.int .i64 b)(f:a≠b->Q (ba F d (.bool true)) s)(e:¬(a≠b)->Q (ba F d (.bool false)) s):br P I ⟨d,.binOp .neq t x y i,ty,pos,af,g⟩ F s Q:=by
 by_cases h:a≠b
 .refine zE (v:=.bool true) (s':=s) ?_ (f h)
  have:(!(lG a b))=true:=by simp only[qa,qW,bB,aC,bO];omega
  simp only[zj,qM,hx,c,qU,yT,this];rfl
 .refine zE (v:=.bool false) (s':=s) ?_ (e h)
  have:(!(lG a b))=false:=by simp only[qa,qW,eU,aC,bO];omega
  simp only[zj,qM,hx,c,qU,yT,this];rfl
def EP(f:BitVec 64->BitVec 64->BitVec 64)(a b:Int):Int:=IntKind.i64.wrap ((f (BitVec.ofInt 64 a) (BitVec.ofInt 64 b)).toNat:Int)
def F7(a b:Int):Int:=EP (λx y=>x &&& y) a b
def Ov(a b:Int):Int:=EP (λx y=>x |||y) a b
theorem ye{t:TypeId}{x:Operand}{b off:Nat}{c:List Value}{e:TypeId}{v:Value}(hs:z3 P t=some none)(hx:zd F x=.pointer (some ⟨b,off,none⟩))(hg:s.get b=some (.cells c e))(hc:zH c off=some v)
 (k:Q (ba F d v) s):br P I ⟨d,.load t x,ty,pos,af,g⟩ F s Q:=
 zE (by simp only[zj,uI,wc,hx,hg,hs,jv,hc];rfl) k
theorem qo{t:TypeId}{x:Operand}{b off n:Nat}{c:List Value}{e:TypeId}{l:List Value}(hs:z3 P t=some (some n))(hx:zd F x=.pointer (some ⟨b,off,none⟩))(hg:s.get b=some (.cells c e))(hc:y8 n (xr off c)=some l)
 (k:Q (ba F d (.agg ⟨l⟩)) s):br P I ⟨d,.load t x,ty,pos,af,g⟩ F s Q:=
 zE (by simp only[zj,uI,wc,hx,hg,hs,jv,hc];rfl) k
theorem zD{t:TypeId}{x:Operand}{f b off n:Nat}(hf:ZI P t f=some n)(hx:zd F x=.pointer (some ⟨b,off,none⟩))(k:Q (ba F d (.pointer (some ⟨b,off+n,none⟩))) s):br P I ⟨d,.fieldAddr t x f,ty,pos,af,g⟩ F s Q:=
 zE (by simp only[zj,ju,hx,hf];rfl) k
theorem yd{t:TypeId}{x i:Operand}{b off len cap z sz:Nat}{kd:IntKind}{a:Int}(he:wM P t=some (true,z,sz))(hx:zd F x=.slice (some ⟨b,off,none⟩) len cap)(hi:zd F i=.int kd a)(h0:0<=a)(h1:a<len)
 (k:Q (ba F d (.pointer (some ⟨b,off+a.toNat*sz,none⟩))) s):br P I ⟨d,.indexAddr t x i,ty,pos,af,g⟩ F s Q:=by
 obtain⟨n,rfl⟩:=Int.eq_ofNat_of_zero_le h0
 have hb:Nat.blt n len=true:=wU O
 refine zE (v:=.pointer (some ⟨b,off+n*sz,none⟩)) (s':=s) ?_ k
 simp only[zj,kS,hi,he,hx]
 show xl n len b off sz s=_
 simp only[xl,hb]
 rfl
theorem jJ{t:TypeId}{x i:Operand}{b off len sz:Nat}{kd:IntKind}{a:Int}(he:wM P t=some (false,len,sz))(hx:zd F x=.pointer (some ⟨b,off,none⟩))(hi:zd F i=.int kd a)(h0:0<=a)(h1:a<len)
 (k:Q (ba F d (.pointer (some ⟨b,off+a.toNat*sz,none⟩))) s):br P I ⟨d,.indexAddr t x i,ty,pos,af,g⟩ F s Q:=by
 obtain⟨n,rfl⟩:=Int.eq_ofNat_of_zero_le h0
 have hb:Nat.blt n len=true:=wU O
 refine zE (v:=.pointer (some ⟨b,off+n*sz,none⟩)) (s':=s) ?_ k
 simp only[zj,kS,hi,he,hx]
 show xl n len b off sz s=_
 simp only[xl,hb]
 rfl
theorem yC{x:Operand}{i:Nat}{vs:Array Value}{v:Value}(hx:zd F x=.tuple vs)(hv:zH vs.toList i=some v)(k:Q (ba F d v) s):br P I ⟨d,.extract x i,ty,pos,af,g⟩ F s Q:=
 zE (by simp only[zj,vF,hx,hv];rfl) k
theorem X2{fn:Fn}{a b:Array Operand}(k:Q (ba F d (.func fn ⟨qv (zd F) a.toList⟩ ⟨qv (zd F) b.toList⟩)) s)(hk:Rl fn=false:=by rfl):br P I ⟨d,.makeFunc fn a b,ty,pos,af,g⟩ F s Q:=zE (by simp only[zj,hk];rfl) k
theorem qT{as:Array Operand}{ts:Array TypeId}{t e:TypeId}{tr:List TypeId}{x:Operand}{a:Option Addr}{n c:Nat}(hu:P.underlying t=some (.slice e))(b:ts.toList=t::tr)(ha:as.toList=[x])(hx:zd F x=.slice a n c)
 (k:Q (ba F d (.int .i64 (n:Int))) s):br P I ⟨d,.call ⟨.builtin .len,as,ts⟩,ty,pos,af,g⟩ F s Q:=
 zE (v:=.int .i64 (n:Int)) (s':=s) (by simp only[zj,xn,Vk,b,ha,qv,hu,hx];rfl) k
theorem Hp{as:Array Operand}{ts:Array TypeId}{x y:Operand}{a b:Int}(ha:as.toList=[x,y])(hx:zd F x=.int .i64 a)(c:zd F y=.int .i64 b)
 (k:Q (ba F d (.int .i64 (min a b))) s):br P I ⟨d,.call ⟨.builtin .min,as,ts⟩,ty,pos,af,g⟩ F s Q:=by
 refine zE (v:=.int .i64 (min a b)) (s':=s) ?_ k
 simp only[zj,xn,ha,qv,hx,c,lW,qa]
 by_cases h:a<=b
 .simp only[h,decide_true,Int.min_eq_left h];rfl
 .simp only[h,dR,show min a b=b by omega];rfl
theorem Ho{as:Array Operand}{ts:Array TypeId}{x y:Operand}{a b:Int}(ha:as.toList=[x,y])(hx:zd F x=.int .i64 a)(c:zd F y=.int .i64 b)
 (k:Q (ba F d (.int .i64 (max a b))) s):br P I ⟨d,.call ⟨.builtin .max,as,ts⟩,ty,pos,af,g⟩ F s Q:=by
 refine zE (v:=.int .i64 (max a b)) (s':=s) ?_ k
 simp only[zj,xn,ha,qv,hx,c,lU,qa]
 by_cases h:b<=a
 .simp only[h,decide_true,Int.max_eq_left h];rfl
 .simp only[h,dR,show max a b=b by omega];rfl
theorem yo{as:Array Operand}{ts:Array TypeId}{f:Operand}{n:FuncId}{a b:Array Value}{args:Array Value}(hf:zd F f=.func (.func n) a b)(hb:xE P n=true)(ha:(⟨a.toList++qv (zd F) as.toList++b.toList⟩:Array Value)=args)
 (h:∃v s',vr P I n args s v s'/\Q (ba F d v) s') (c:Nat.ble zy n=false:=by exact rfl):br P I ⟨d,.call ⟨.value f,as,ts⟩,ty,pos,af,g⟩ F s Q:=
 pW (f:=n) (args:=args) (s₁:=s) (by simp only[zj,jV,hf,hb,<-ha]) h c
variable{W:List Nat}{s0:St}{L:au}{n:Nat}
def jy(P:Program)(t:TypeId):Option (List Value):=
 match Ss P t,P.info? t with
 |true,some i=>match i.zero with
  |some z=>some (yr z)
  |none=>none
 |_,_=>none
theorem xT{e:TypeId}{c:List Value}(H:HL W s0 s L n)(f:jy P e=some c)(j:s0.next+n<zA)
 (k:∀b s',HL W s0 s' ((b,.cells c e)::L) (n+1)->Q (ba F d (.pointer (some ⟨b,0,none⟩))) s'):br P I ⟨d,.alloc e,ty,pos,af,g⟩ F s Q:=by
 refine zE (v:=.pointer (some ⟨s.next,0,none⟩)) (s':=s.new (.cells c e)) ?_ (k _ _ (H.new _ j))
 have a:=H.room j
 simp only[jy]at f
 split at f
 .next i hb hi=>
  split at f
  .next z h=>
   cases f
   simp only[zj,hb,jh,gJ,hi,h,XN,a]
   rfl
  .cases f
 .cases f
theorem KT{e:TypeId}{x:Operand}{c:List Value}(H:HL W s0 s L n)(hc:yr (zd F x)=c)(f:s0.next+n<zA)
 (k:∀b s',HL W s0 s' ((b,.cells c e)::L) (n+1)->Q (ba F d (.pointer (some ⟨b,0,none⟩))) s'):br P I ⟨d,.box e x,ty,pos,af,g⟩ F s Q:=by
 refine zE (v:=.pointer (some ⟨s.next,0,none⟩)) (s':=s.new (.cells c e)) ?_ (k _ _ (H.new _ f))
 have a:=H.room f
 simp only[zj,XN,a,hc]
 rfl
theorem QO{e:TypeId}{x:Operand}{l:List Value}(H:HL W s0 s L n)(hx:zd F x=.agg ⟨l⟩)(a:s0.next+n<zA)
 (k:∀b s',HL W s0 s' ((b,.cells l e)::L) (n+1)->Q (ba F d (.pointer (some ⟨b,0,none⟩))) s'):br P I ⟨d,.box e x,ty,pos,af,g⟩ F s Q:=KT H (by rw[hx];rfl) a k
theorem zgU{e:TypeId}{x:Operand}{kd:IntKind}{a:Int}(H:HL W s0 s L n)(hx:zd F x=.int kd a)(c:s0.next+n<zA)
 (k:∀b s',HL W s0 s' ((b,.cells [.int kd a] e)::L) (n+1)->Q (ba F d (.pointer (some ⟨b,0,none⟩))) s'):br P I ⟨d,.box e x,ty,pos,af,g⟩ F s Q:=KT H (by rw[hx];rfl) c k
theorem A0{e:TypeId}{x:Operand}{a:Option Addr}(H:HL W s0 s L n)(hx:zd F x=.pointer a)(c:s0.next+n<zA)
 (k:∀b s',HL W s0 s' ((b,.cells [.pointer a] e)::L) (n+1)->Q (ba F d (.pointer (some ⟨b,0,none⟩))) s'):br P I ⟨d,.box e x,ty,pos,af,g⟩ F s Q:=KT H (by rw[hx];rfl) c k
def qV(P:Program)(t:TypeId):Option Nat:=(P.info? t).map (·.size)
theorem q7{t:TypeId}{x v:Operand}{b off sz:Nat}{c c':List Value}{e:TypeId}{vs:List Value}(hs:qV P t=some sz)(hx:zd F x=.pointer (some ⟨b,off,none⟩))(hv:yr (zd F v)=vs)
 (hl:Nat.beq (yD vs 0) sz=true) (hp:vs.all plainCell=true) (hg:s.get b=some (.cells c e)) (hm:s.may b=true) (hc:yK off vs c=some c'):zj P (zd F) (.store t x v) s=.ok .skip (s.put b (some (.cells c' e))):=by
 simp only[qV]at hs
 cases hi:P.info? t with
 |none=>rw[hi]at hs;cases hs
 |some i=>
  rw[hi]at hs
  simp only[cQ,bH]at hs
  simp only[zj,Xl,hx,hi,hv,hs,hl,xu,hg,hp,hm,Bool.and_self,hc]
theorem xp{t:TypeId}{x v:Operand}{b off sz:Nat}{c c':List Value}{e:TypeId}{vs:List Value}(H:HL W s0 s ((b,.cells c e)::L) n)(hs:qV P t=some sz)(hx:zd F x=.pointer (some ⟨b,off,none⟩))(hv:yr (zd F v)=vs)
 (hl:Nat.beq (yD vs 0) sz=true) (hp:vs.all plainCell=true) (hc:yK off vs c=some c') (a:s0.next+n<=zA) (k:∀s',HL W s0 s' ((b,.cells c' e)::L) n->Q (ba F d undef) s'):br P I ⟨d,.store t x v,ty,pos,af,g⟩ F s Q:=
 jd (q7 hs hx hv hl hp H.own0 (H.own (b,.cells c e) Y8).2.2.1 hc) (k _ (H.put0 _ a))
theorem W7{a p1 p2:Nat×ak}{t:TypeId}{x v:Operand}{b off sz:Nat}{c c':List Value}{e:TypeId}{vs:List Value}(H:HL W s0 s (a::p1::p2::(b,.cells c e)::L) n)(hs:qV P t=some sz)(hx:zd F x=.pointer (some ⟨b,off,none⟩))(hv:yr (zd F v)=vs)
 (hl:Nat.beq (yD vs 0) sz=true) (hp:vs.all plainCell=true) (hc:yK off vs c=some c') (f:s0.next+n<=zA) (k:∀s',HL W s0 s' (a::p1::p2::(b,.cells c' e)::L) n->Q (ba F d undef) s'):br P I ⟨d,.store t x v,ty,pos,af,g⟩ F s Q:=
 jd (q7 hs hx hv hl hp H.own3 (H.own (b,.cells c e) Y8).2.2.1 hc) (k _ (H.put3 _ f))
theorem W6{a p1 p2 f:Nat×ak}{t:TypeId}{x v:Operand}{b off sz:Nat}{c c':List Value}{e:TypeId}{vs:List Value}(H:HL W s0 s (a::p1::p2::f::(b,.cells c e)::L) n)(hs:qV P t=some sz)(hx:zd F x=.pointer (some ⟨b,off,none⟩))(hv:yr (zd F v)=vs)
 (hl:Nat.beq (yD vs 0) sz=true) (hp:vs.all plainCell=true) (hc:yK off vs c=some c') (h:s0.next+n<=zA) (k:∀s',HL W s0 s' (a::p1::p2::f::(b,.cells c' e)::L) n->Q (ba F d undef) s'):br P I ⟨d,.store t x v,ty,pos,af,g⟩ F s Q:=
 jd (q7 hs hx hv hl hp H.own4 (H.own (b,.cells c e) Y8).2.2.1 hc) (k _ (H.put4 _ h))
theorem W5{a p1 p2 f h:Nat×ak}{t:TypeId}{x v:Operand}{b off sz:Nat}{c c':List Value}{e:TypeId}{vs:List Value}(H:HL W s0 s (a::p1::p2::f::h::(b,.cells c e)::L) n)(hs:qV P t=some sz)(hx:zd F x=.pointer (some ⟨b,off,none⟩))(hv:yr (zd F v)=vs)
 (hl:Nat.beq (yD vs 0) sz=true) (hp:vs.all plainCell=true) (hc:yK off vs c=some c') (i:s0.next+n<=zA) (k:∀s',HL W s0 s' (a::p1::p2::f::h::(b,.cells c' e)::L) n->Q (ba F d undef) s'):br P I ⟨d,.store t x v,ty,pos,af,g⟩ F s Q:=
 jd (q7 hs hx hv hl hp H.own5 (H.own (b,.cells c e) Y8).2.2.1 hc) (k _ (H.put5 _ i))
end
end Go.M
