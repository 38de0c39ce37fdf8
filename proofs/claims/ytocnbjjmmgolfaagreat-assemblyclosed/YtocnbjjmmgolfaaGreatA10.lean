/- What is computed with frames that are functions, the abstract machine computes. -/
import Derived.Test.YtocnbjjmmgolfaaGreatA09
set_option linter.unusedSimpArgs false
set_option linter.unusedVariables false
set_option linter.unusedSectionVars false
namespace Go.M
section
variable{P:Program}{ρ ρ':Operand→Value}{s:St}
theorem uc{l:List Operand}(h:∀x∈l,ρ x=ρ' x):qB ρ l=qB ρ' l:=by
 induction l with
 |nil=>rfl
 |cons x l b=>simp only[qB];rw[h x Y8,b fun y a=>h y (by simp[a])]
theorem gu{place:Nat→Option (Nat×Nat)}:∀{l:List (Nat×Operand)} {c:List Value},(∀p∈l,ρ p.2=ρ' p.2)→qK place ρ l c=qK place ρ' l c
 | [],_,_=>rfl
 |(i,x)::l,c,h=>by
  have e:∀c,qK place ρ l c=qK place ρ' l c:=fun c=>gu fun p hp=>h p (aN _ hp)
  have hx:ρ x=ρ' x:=h (i,x) Y8
  simp only[qK,e,hx]
theorem j3{o:Option Operand}(h:∀x,o=some x→ρ x=ρ' x):o.map ρ=o.map ρ':=by
 cases o with
 |none=>rfl
 |some x=>simp[h x rfl]
theorem zbx(o:Op)(h:∀x∈o.operands.toList,ρ x=ρ' x):zh P ρ o s=zh P ρ' o s:=by
 cases o with
 |move x=>simp only[zh];rw[h x Y5]
 |assign x=>simp only[zh];rw[h x Y5]
 |pick c a b=>simp only[zh];rw[h c Y5,h a Y5,h b Y5]
 |load t a=>simp only[zh];rw[h a Y5]
 |store t a v=>simp only[zh];rw[h a Y5,h v Y5]
 |box e x=>simp only[zh];rw[h x Y5]
 |alloc e=>rfl
 |fieldAddr t x f=>simp only[zh];rw[h x Y5]
 |indexAddr t x i=>simp only[zh];rw[h x Y5,h i Y5]
 |binOp op t x y yt=>simp only[zh];rw[h x Y5,h y Y5]
 |unOp op t x=>simp only[zh];rw[h x Y5]
 |extract x i=>simp only[zh];rw[h x Y5]
 |nilCheck x=>simp only[zh];rw[h x Y5]
 |sliceToArrayPointer t x=>simp only[zh];rw[h x Y5]
 |convert src dst x=>simp only[zh];rw[h x Y5]
 |makeFunc fn first captured=>
  simp only[zh]
  rw[uc (l:=first.toList) fun x hx=>h x (by simp[Op.operands];exact .inl (by simpa using hx)),uc (l:=captured.toList) fun x hx=>h x (by simp[Op.operands];exact .inr (by simpa using hx))]
 |slice t x lo hi mx=>
  simp only[zh]
  rw[h x Y5,j3 (o:=lo) fun x hx=>h x (by simp[Op.operands,hx]),j3 (o:=hi) fun x hx=>h x (by simp[Op.operands,hx]),j3 (o:=mx) fun x hx=>h x (by simp[Op.operands,hx])]
 |field t x f=>simp only[zh];rw[h x Y5]
 |index t x i=>simp only[zh];rw[h x Y5,h i Y5]
 |call c=>
  obtain⟨callee,args,argTypes⟩:=c
  cases callee with
  |value f=>
   simp only[zh]
   rw[h f (by simp[Op.operands,Call.operands]),uc (l:=args.toList) fun x hx=>h x (by simp[Op.operands,Call.operands];exact .inr (by simpa using hx))]
  |builtin b=>
   simp only[zh]
   rw[uc (l:=args.toList) fun x hx=>h x (by simp[Op.operands,Call.operands];simpa using hx)]
  |invoke r m=>rfl
 |build t parts=>
  have hp:∀p∈parts.toList,ρ p.2=ρ' p.2:=fun p hp=>h p.2 V7
  simp only[zh,wL]
  have e:∀place c,qK place ρ parts.toList c=qK place ρ' parts.toList c:=fun place c=>gu hp
  simp only[e]
 |buildSlice t len parts=>
  have hp:∀p∈parts.toList,ρ p.2=ρ' p.2:=fun p hp=>h p.2 V7
  simp only[zh,qL]
  have e:∀place c,qK place ρ parts.toList c=qK place ρ' parts.toList c:=fun place c=>gu hp
  simp only[e]
 |makeSlice t l c=>simp only[zh];rw[h l Y5,h c Y5]
 |_=>rfl
end
def XK(N:Nat):FOut→Out→Prop
 | .normal F s,.normal a s'=>s'=s∧Agrees N F a
 | .exit id F s,.exit b a s'=>b=id∧s'=s∧Agrees N F a
 | .ret F s,.ret a s'=>s'=s∧Agrees N F a
 | .stuck,_=>True
 |_,_=>False
section
variable{P:Program}{call:FuncId→Array Value→St→CallOut}{N:Nat}
theorem Q8{ops:List Oper}{F:FF}{a:Fr}{o:Oper}(h:Agrees N F a)(hg:ZQ N ops o=true):qc ops a o=yi ops F o:=by
 unfold qc yi
 unfold ZQ at hg
 have hg:=(Bool.and_eq_true_iff.mp hg).1
 unfold zgI at hg
 cases b:o.guard with
 |none=>rfl
 |some g=>
  rw[b]at hg
  simp only at hg ⊢
  cases c:zF ops g.1 with
  |none=>rfl
  |some q=>
   rw[c]at hg
   simp only at hg ⊢
   cases hd:q.dst with
   |none=>rfl
   |some d=>
    rw[hd]at hg
    simp only at hg ⊢
    rw[h.get d (aR hg)]
    rfl
theorem KK{F:FF}{a:Fr}{o:Oper}{s:St}(h:Agrees N F a)(ho:o.op.operands.toList.all (Yt N)=true):XK N (opF P call o F s) (opM P call o a s):=by
 have e:zh P a.eval o.op s=zh P (zd F) o.op s:=zbx o.op fun x hx=>h.eval (by rw[List.all_eq_true]at ho;exact ho x hx)
 unfold opF opM
 rw[e]
 cases zh P (zd F) o.op s with
 |stuck=>trivial
 |panic v s=>trivial
 |ok n s=>
  cases n with
  |value v=>exact⟨rfl,h.put _ _⟩
  |skip=>exact⟨rfl,h.put _ _⟩
  |enter f args=>
   simp only
   cases Nat.ble zu f with
   |true=>trivial
   |false=>
    simp only
    cases call f args s with
    |ret v s=>exact⟨rfl,h.put _ _⟩
    |panic c s=>trivial
    |stuck=>trivial
  |round b k args x y=>
   simp only
   cases call (zu+b) args s with
   |ret v s=>exact⟨rfl,h.put _ _⟩
   |panic c s=>trivial
   |stuck=>trivial
  |_=>trivial
theorem J4(ops:List Oper):∀(l:List Oper) (F:FF) (a:Fr) (s:St),(l.all fun o=>o.op.operands.toList.all (Yt N)&&ZQ N ops o)=true→Agrees N F a→XK N (zcc P call ops l F s) (YB P call ops l a s)
 | [],F,a,s,_,h=>⟨rfl,h⟩
 |o::l,F,a,s,hl,h=>by
  simp only[List.all_cons,aG]at hl
  have b:(l.all fun o=>o.op.operands.toList.all (Yt N)&&ZQ N ops o)=true:=by simpa using hl.2
  simp only[zcc,YB]
  rw[Q8 h hl.1.2]
  cases yi ops F o with
  |false=>exact J4 ops l _ _ s b (h.put _ _)
  |true=>
   have h1:=KK (P:=P) (call:=call) (s:=s) h hl.1.1
   simp only
   cases hf:opF P call o F s with
   |normal F₁ s₁=>
    rw[hf]at h1
    cases c:opM P call o a s with
    |normal a₁ s₂=>
     rw[c]at h1
     obtain⟨rfl,h2⟩:=h1
     exact J4 ops l F₁ a₁ _ b h2
    |_=>rw[c]at h1;exact h1.elim
   |_=>trivial
theorem XI{F:FF}{a:Fr}{o:Oper}(h:Agrees N F a)(ho:o.op.operands.toList.all (Yt N)=true)(ha:VO N o=true):xR a o=yx F o:=by
 unfold xR yx
 cases b:o.op with
 |load t x=>
  simp only
  rw[h.eval (by rw[List.all_eq_true]at ho;exact ho x (by rw[b];simp[Op.operands]))]
  rfl
 |slice t x lo hi mx=>
  cases mx with
  |none=>
   simp only
   rw[h.eval (by rw[List.all_eq_true]at ho;exact ho x (by rw[b];simp[Op.operands]))]
   rfl
  |some m=>rfl
 |alloc t=>
  simp only
  unfold VO at ha
  rw[b]at ha
  cases hd:o.dst with
  |none=>rfl
  |some u=>
   rw[hd]at ha
   simp only at ha ⊢
   rw[h.get u (Nat.blt_eq.mp ha)]
   rfl
 |buildSlice t n parts=>
  simp only
  unfold VO at ha
  rw[b]at ha
  cases hd:o.dst with
  |none=>rfl
  |some u=>
   rw[hd]at ha
   simp only at ha ⊢
   rw[h.get u (Nat.blt_eq.mp ha)]
   rfl
 |_=>rfl
theorem Ya{ops:List Oper}{F:FF}{a:Fr}(h:Agrees N F a)(ho:∀o∈ops,o.op.operands.toList.all (Yt N)=true∧VO N o=true):∀l,y9 ops a l=yf ops F l
 | []=>rfl
 |i::l=>by
  simp only[y9,yf]
  cases hg:zF ops i with
  |none=>exact Ya h ho l
  |some o=>
   simp only
   rw[XI h (ho o (by rw[zJ]at hg;exact List.mem_of_getElem? hg)).1 (ho o (by rw[zJ]at hg;exact List.mem_of_getElem? hg)).2,Ya h ho l]
   rfl
theorem zeY{ops:List Oper}(ho:∀o∈ops,o.op.operands.toList.all (Yt N)=true∧ZQ N ops o=true){d:Drawn}{o:Oper}(c:o∈ops){F:FF}{a:Fr}{s:St}(h:Agrees N F a) :
 XK N (vP P call ops d o F s) (yS P call ops d o a s):=by
 unfold vP yS
 rw[Q8 h (ho o c).2]
 cases yi ops F o with
 |false=>exact⟨rfl,h.put _ _⟩
 |true=>
  simp only
  cases d.how with
  |light=>
   simp only
   rw[XI h (ho o c).1 (Bool.and_eq_true_iff.mp (ho o c).2).2]
   have h1:=KK (P:=P) (call:=call) (s:={next:=s.next,bar:=s.next,prot:=[],heap:=only s (yx F o)}) h (ho o c).1
   cases hf:opF P call o F {next:=s.next,bar:=s.next,prot:=[],heap:=only s (yx F o)}with
   |normal F₁ s₁=>
    rw[hf]at h1
    cases e:opM P call o a {next:=s.next,bar:=s.next,prot:=[],heap:=only s (yx F o)}with
    |normal a₁ s₂=>
     rw[e]at h1
     obtain⟨rfl,h2⟩:=h1
     simp only
     cases Nat.beq s₂.next s.next with
     |true=>exact⟨rfl,h2⟩
     |false=>trivial
    |_=>rw[e]at h1;exact h1.elim
   |_=>trivial
  |whole=>
   simp only
   rw[Ya h (fun o e=>⟨(ho o e).1,(Bool.and_eq_true_iff.mp (ho o e).2).2⟩)]
   have h1:=KK (P:=P) (call:=call) (s:={s with prot:=yf ops F d.free++s.prot}) h (ho o c).1
   cases hf:opF P call o F {s with prot:=yf ops F d.free++s.prot}with
   |normal F₁ s₁=>
    rw[hf]at h1
    cases e:opM P call o a {s with prot:=yf ops F d.free++s.prot}with
    |normal a₁ s₂=>
     rw[e]at h1
     obtain⟨rfl,h2⟩:=h1
     exact⟨J,h2⟩
    |_=>rw[e]at h1;exact h1.elim
   |_=>trivial
  |fresh=>
   simp only
   have h1:=KK (P:=P) (call:=call) (s:={s with bar:=s.next}) h (ho o c).1
   cases hf:opF P call o F {s with bar:=s.next}with
   |normal F₁ s₁=>
    rw[hf]at h1
    cases e:opM P call o a {s with bar:=s.next}with
    |normal a₁ s₂=>
     rw[e]at h1
     obtain⟨rfl,h2⟩:=h1
     exact⟨J,h2⟩
    |_=>rw[e]at h1;exact h1.elim
   |_=>trivial
  |new=>
   simp only
   have h1:=KK (P:=P) (call:=call) (s:={next:=s.next,bar:=s.next,prot:=[],heap:=.nil}) h (ho o c).1
   cases hf:opF P call o F {next:=s.next,bar:=s.next,prot:=[],heap:=.nil}with
   |normal F₁ s₁=>
    rw[hf]at h1
    cases e:opM P call o a {next:=s.next,bar:=s.next,prot:=[],heap:=.nil}with
    |normal a₁ s₂=>
     rw[e]at h1
     obtain⟨rfl,h2⟩:=h1
     simp only
     rw[XI h2 (ho o c).1 (Bool.and_eq_true_iff.mp (ho o c).2).2]
     cases Nat.beq s₂.next (s.next+1)&&s.room with
     |false=>trivial
     |true=>
      cases yx F₁ o with
      |none=>trivial
      |some b=>
       cases s₂.get s.next with
       |none=>trivial
       |some ob=>
        simp only
        cases Nat.beq b s.next with
        |true=>exact⟨rfl,h2⟩
        |false=>trivial
    |_=>rw[e]at h1;exact h1.elim
   |_=>trivial
theorem zcQ{ops:List Oper}(ho:∀o∈ops,o.op.operands.toList.all (Yt N)=true∧ZQ N ops o=true):∀(l:List Drawn) (F:FF) (a:Fr) (s:St),Agrees N F a→XK N (gz P call ops l F s) (v6 P call ops l a s)
 | [],F,a,s,h=>⟨rfl,h⟩
 |d::l,F,a,s,h=>by
  simp only[gz,v6]
  cases hg:zF ops d.ix with
  |none=>trivial
  |some o=>
   simp only
   have h1:=zeY (P:=P) (call:=call) ho (d:=d) (o:=o) (by rw[zJ]at hg;exact List.mem_of_getElem? hg) (s:=s) h
   cases hf:vP P call ops d o F s with
   |normal F₁ s₁=>
    rw[hf]at h1
    cases b:yS P call ops d o a s with
    |normal a₁ s₂=>
     rw[b]at h1
     obtain⟨rfl,h2⟩:=h1
     exact zcQ ho l F₁ a₁ _ h2
    |_=>rw[b]at h1;exact h1.elim
   |_=>trivial
theorem kF{I:zU}:∀(n:Nat) (c:Code) (F:FF) (a:Fr) (s:St),q7 N c=true→Agrees N F a→XK N (xj P I N n c F s) (zT P I n c a s)
 |0,_,_,_,_,_,_=>trivial
 |n+1,c,F,a,s,hc,h=>by
  cases c with
  |skip=>exact⟨rfl,h⟩
  |label _=>exact⟨rfl,h⟩
  |exit id=>exact⟨rfl,rfl,h⟩
  |ret=>exact⟨rfl,h⟩
  |seq x y=>
   simp only[q7,aG]at hc
   have h1:=kF (I:=I) n x F a s hc.1 h
   simp only[xj,zT]
   cases hf:xj P I N n x F s with
   |normal F₁ s₁=>
    rw[hf]at h1
    cases d:zT P I n x a s with
    |normal a₁ s₂=>
     rw[d]at h1
     obtain⟨rfl,h2⟩:=h1
     exact kF n y F₁ a₁ _ hc.2 h2
    |_=>rw[d]at h1;exact h1.elim
   |exit id F₁ s₁=>
    rw[hf]at h1
    cases d:zT P I n x a s with
    |exit e a₁ s₂=>rw[d]at h1;exact h1
    |_=>rw[d]at h1;exact h1.elim
   |ret F₁ s₁=>
    rw[hf]at h1
    cases d:zT P I n x a s with
    |ret a₁ s₂=>rw[d]at h1;exact h1
    |_=>rw[d]at h1;exact h1.elim
   |stuck=>trivial
  |cond x y z=>
   simp only[q7,aG]at hc
   simp only[xj,zT]
   rw[h.eval hc.1.1]
   cases zd F x with
   |bool b=>cases b with
    |true=>exact kF n y F a s hc.1.2 h
    |false=>exact kF n z F a s hc.2 h
   |_=>trivial
  |block id b=>
   simp only[q7]at hc
   have h1:=kF (I:=I) n b F a s hc h
   simp only[xj,zT]
   cases hf:xj P I N n b F s with
   |normal F₁ s₁=>
    rw[hf]at h1
    cases d:zT P I n b a s with
    |normal a₁ s₂=>rw[d]at h1;exact h1
    |_=>rw[d]at h1;exact h1.elim
   |exit id₁ F₁ s₁=>
    rw[hf]at h1
    cases d:zT P I n b a s with
    |exit e a₁ s₂=>
     rw[d]at h1
     obtain⟨rfl,rfl,h2⟩:=h1
     simp only
     cases Nat.beq e id with
     |true=>exact⟨rfl,h2⟩
     |false=>exact⟨rfl,rfl,h2⟩
    |_=>rw[d]at h1;exact h1.elim
   |ret F₁ s₁=>
    rw[hf]at h1
    cases d:zT P I n b a s with
    |ret a₁ s₂=>rw[d]at h1;exact h1
    |_=>rw[d]at h1;exact h1.elim
   |stuck=>trivial
  |loop b=>
   simp only[q7]at hc
   have h1:=kF (I:=I) n b F a s hc h
   simp only[xj,zT]
   cases hf:xj P I N n b F s with
   |normal F₁ s₁=>
    rw[hf]at h1
    cases d:zT P I n b a s with
    |normal a₁ s₂=>
     rw[d]at h1
     obtain⟨rfl,h2⟩:=h1
     exact kF n (.loop b) F₁ a₁ _ (by simpa only[q7]using hc) h2
    |_=>rw[d]at h1;exact h1.elim
   |exit id F₁ s₁=>
    rw[hf]at h1
    cases d:zT P I n b a s with
    |exit e a₁ s₂=>rw[d]at h1;exact h1
    |_=>rw[d]at h1;exact h1.elim
   |ret F₁ s₁=>
    rw[hf]at h1
    cases d:zT P I n b a s with
    |ret a₁ s₂=>rw[d]at h1;exact h1
    |_=>rw[d]at h1;exact h1.elim
   |stuck=>trivial
  |region id ops draw=>
   simp only[q7]at hc
   simp only[xj,zT]
   cases draw with
   |false=>exact J4 ops.toList ops.toList F a s hc h
   |true=>
    simp only
    cases Zt ops.toList (plan ops.toList)with
    |false=>trivial
    |true=>
     refine zcQ (fun o ho=>?_) _ F a s h
     unfold opsN at hc
     rw[List.all_eq_true]at hc
     simpa using hc o ho
  |scope b=>
   simp only[q7]at hc
   simp only[xj,zT]
   exact kF n b F a s hc h
  |rangeFunc f ps x y=>
   simp only[q7]at hc
   have hg:=Vl F h.small
   simp only[xj,zT,KC]
   rw[range_sim (a:=a) (a':=frF F N) (by rw[h.eval hc,hg.eval hc]) (by rw[h.norm,hg.norm])]
   cases kT P I (zT P I n) f ps x y (frF F N) s with
   |normal _ _=>exact⟨rfl,h⟩
   |ret _ _=>exact⟨rfl,h⟩
   |exit _ _ _=>exact⟨rfl,rfl,h⟩
   |_=>trivial
  |_=>trivial
end
section
variable(P:Program)(I:zU)
def vo(f:FuncId)(args:Array Value)(s:St)(v:Value)(s':St):Prop:=∃n,∀m,n≤m→Zx P I m f args s=.ret v s'
structure OpW(o:Oper)(F:FF)(s:St)(Q:FF→St→Prop):Prop where
 ex:∃F' s',Q F' s'∧∃n,∀m,n≤m→opF P (Zx P I m) o F s=.normal F' s'
def OpsW(ops:List Oper):List Oper→FF→St→(FF→St→Prop)→Prop
 | [],F,s,Q=>Q F s
 |o::rest,F,s,Q=>Bool.rec (motive:=fun _=>Prop) (OpsW ops rest (upd F o.dst undef) s Q) (OpW P I o F s fun F s=>OpsW ops rest F s Q) (yi ops F o)
def yZ(ops:List Oper)(l:List Drawn)(F:FF)(s:St)(Q:FF→St→Prop):Prop:=
 ∃a s',Q a s'∧∃n,∀m,n≤m→gz P (Zx P I m) ops l F s=.normal a s'
variable(N:Nat)
def Code0(c:Code)(F:FF)(s:St)(Q:FOut→Prop):Prop:=
 ∃o,Q o∧∃n,∀m,n≤m→xj P I N m c F s=o
def vn(id:Nat)(Q:FOut→Prop):FOut→Prop
 | .exit i F s=>match Nat.beq i id with
  |true=>Q (.normal F s)
  |false=>Q (.exit i F s)
 |o=>Q o
def VL:Value→Option Bool
 | .bool b=>some b
 |_=>none
theorem zdj{v:Value}{b:Bool}(h:VL v=some b):v=.bool b:=by
 unfold VL at h
 split at h
 ·cases h;rfl
 ·cases h
def seqK(k:FF→St→Prop)(Q:FOut→Prop):FOut→Prop
 | .normal F s=>k F s
 |o=>Q o
def CodeW:Code→FF→St→(FOut→Prop)→Prop
 | .skip,F,s,Q=>Q (.normal F s)
 | .exit id,F,s,Q=>Q (.exit id F s)
 | .ret,F,s,Q=>Q (.ret F s)
 | .seq x y,F,s,Q=>CodeW x F s (seqK (fun F s=>CodeW y F s Q) Q)
 | .block id b,F,s,Q=>CodeW b F s (vn id Q)
 | .scope b,F,s,Q=>CodeW b F s Q
 | .cond c x y,F,s,Q=>Option.rec (motive:=fun _=>Prop) False (fun b=>Bool.rec (motive:=fun _=>Prop) (CodeW y F s Q) (CodeW x F s Q) b) (VL (zd F c))
 | .region _ ops false,F,s,Q=>OpsW P I ops.toList ops.toList F s fun F s=>Q (.normal F s)
 |c,F,s,Q=>Code0 P I N c F s Q
abbrev zed(y:Code)(Q:FOut→Prop):FOut→Prop:=seqK (fun F s=>CodeW P I N y F s Q) Q
end
section
variable{P:Program}{I:zU}{N:Nat}
theorem OpW.mono{o:Oper}{F:FF}{s:St}{Q Q':FF→St→Prop}(h:OpW P I o F s Q)(b:∀F s,Q F s→Q' F s):OpW P I o F s Q':=by
 obtain⟨a,s',h1,h2⟩:=h
 exact⟨a,s',b _ _ h1,h2⟩
theorem OpsW.mono{ops l:List Oper}{F:FF}{s:St}{Q Q':FF→St→Prop}(h:OpsW P I ops l F s Q)(c:∀F s,Q F s→Q' F s):OpsW P I ops l F s Q':=by
 induction l generalizing F s with
 |nil=>exact c _ _ h
 |cons o r b=>
  unfold OpsW at h ⊢
  cases a:yi ops F o with
  |true=>rw[a]at h;exact OpW.mono h fun _ _ h=>b h
  |false=>rw[a]at h;exact b h
theorem OpsW.ends{ops l:List Oper}{F:FF}{s:St}{Q:FF→St→Prop}(h:OpsW P I ops l F s Q):∃c s',Q c s'∧∃n,∀m,n≤m→zcc P (Zx P I m) ops l F s=.normal c s':=by
 induction l generalizing F s with
 |nil=>exact⟨F,s,h,0,fun _ _=>rfl⟩
 |cons o r d=>
  unfold OpsW at h
  cases a:yi ops F o with
  |true=>
   rw[a]at h
   obtain⟨F₁,s₁,h,n₁,h1⟩:=h
   obtain⟨F₂,s₂,b,n₂,h2⟩:=d h
   refine⟨F₂,s₂,b,n₁+n₂,fun m e=>?_⟩
   simp only[zcc,a,h1 m O]
   exact h2 m O
  |false=>
   rw[a]at h
   obtain⟨F₂,s₂,b,n₂,h2⟩:=d h
   refine⟨F₂,s₂,b,n₂,fun m e=>?_⟩
   simp only[zcc,a]
   exact h2 m O
theorem Code0.mono{c:Code}{F:FF}{s:St}{Q Q':FOut→Prop}(h:Code0 P I N c F s Q)(a:∀o,Q o→Q' o):Code0 P I N c F s Q':=by
 obtain⟨o,h1,h2⟩:=h
 exact⟨o,a _ h1,h2⟩
theorem CodeW.mono{c:Code}{F:FF}{s:St}{Q Q':FOut→Prop}(h:CodeW P I N c F s Q)(a:∀o,Q o→Q' o):CodeW P I N c F s Q':=by
 induction c generalizing F s Q Q' with
 |skip|exit|ret=>exact a _ h
 |seq x y hx e=>
  refine hx (Q:=zed P I N y Q) (Q':=zed P I N y Q') h fun o ho=>?_
  cases o with
  |normal=>exact e ho a
  |_=>exact a _ ho
 |block id b hb=>
  refine hb (Q:=vn id Q) (Q':=vn id Q') h fun o ho=>?_
  cases o with
  |exit i=>
   simp only[vn]at ho ⊢
   split at ho<;>exact a _ ho
  |_=>exact a _ ho
 |scope b hb=>exact hb (Q:=Q) (Q':=Q') h a
 |cond c x y hx e=>
  unfold CodeW at h ⊢
  cases hc:VL (zd F c)with
  |none=>rw[hc]at h;exact h.elim
  |some b=>
   rw[hc]at h
   cases b with
   |true=>exact hx h a
   |false=>exact e h a
 |region id ops d=>
  cases d
  ·exact OpsW.mono h fun _ _=>a _
  ·exact Code0.mono h a
 |_=>exact Code0.mono h a
theorem zb{ops:List Oper}{F:FF}{s:St}{Q:FF→St→Prop}(h:Q F s):OpsW P I ops [] F s Q:=h
theorem zZ{ops:List Oper}{o:Oper}{rest:List Oper}{F:FF}{s:St}{Q:FF→St→Prop}(a:yi ops F o=true)
 (h:OpW P I o F s fun F s=>OpsW P I ops rest F s Q):OpsW P I ops (o::rest) F s Q:=by unfold OpsW;rw[a];exact h
theorem xE{ops:List Oper}{o:Oper}{rest:List Oper}{F:FF}{s:St}{Q:FF→St→Prop}(a:yi ops F o=false)
 (h:OpsW P I ops rest (upd F o.dst undef) s Q):OpsW P I ops (o::rest) F s Q:=by unfold OpsW;rw[a];exact h
theorem yV{ops:List Oper}{F:FF}{s:St}{Q:FF→St→Prop}(h:Q F s):yZ P I ops [] F s Q:=⟨F,s,h,0,fun _ _=>rfl⟩
theorem kE{ops:List Oper}{d:Drawn}{o:Oper}{rest:List Drawn}{F:FF}{s:St}{Q:FF→St→Prop}(hg:zF ops d.ix=some o)(b:yi ops F o=false)
 (h:yZ P I ops rest (upd F o.dst undef) s Q):yZ P I ops (d::rest) F s Q:=by
 obtain⟨F₂,s₂,a,n₂,h2⟩:=h
 refine⟨F₂,s₂,a,n₂,fun m hm=>?_⟩
 simp only[gz,hg,vP,b]
 exact h2 m O
theorem za{ops:List Oper}{ix anc:Nat}{free:List Nat}{o:Oper}{rest:List Drawn}{F:FF}{s:St}{Q:FF→St→Prop}(hg:zF ops ix=some o)(c:yi ops F o=true)
 (h:OpW P I o F {next:=s.next,bar:=s.next,prot:=[],heap:=only s (yx F o)} fun a s'=>s'.next=s.next∧yZ P I ops rest a s Q) :
 yZ P I ops (⟨ix,anc,.light,free⟩::rest) F s Q:=by
 obtain⟨F₁,s₁,⟨hn,F₂,s₂,b,n₂,h2⟩,n₁,h1⟩:=h
 refine⟨F₂,s₂,b,n₁+n₂,fun m hm=>?_⟩
 have hb:Nat.beq s₁.next s.next=true:=by rw[hn];exact eM _
 simp only[gz,hg,vP,c,h1 m O,hb]
 exact h2 m O
theorem yr{ops:List Oper}{ix anc:Nat}{free:List Nat}{o:Oper}{rest:List Drawn}{F:FF}{s:St}{Q:FF→St→Prop}(hg:zF ops ix=some o)(c:yi ops F o=true)
 (h:OpW P I o F {s with prot:=yf ops F free++s.prot} fun a s'=>yZ P I ops rest a {next:=s'.next,bar:=s.bar,prot:=s.prot,heap:=s'.heap} Q) :
 yZ P I ops (⟨ix,anc,.whole,free⟩::rest) F s Q:=by
 obtain⟨F₁,s₁,⟨F₂,s₂,b,n₂,h2⟩,n₁,h1⟩:=h
 refine⟨F₂,s₂,b,n₁+n₂,fun m hm=>?_⟩
 simp only[gz,hg,vP,c,h1 m O]
 exact h2 m O
theorem vk{ops:List Oper}{ix anc:Nat}{free:List Nat}{o:Oper}{rest:List Drawn}{F:FF}{s:St}{Q:FF→St→Prop}(hg:zF ops ix=some o)(c:yi ops F o=true)
 (h:OpW P I o F {s with bar:=s.next} fun a s'=>yZ P I ops rest a {next:=s'.next,bar:=s.bar,prot:=s.prot,heap:=s'.heap} Q) :
 yZ P I ops (⟨ix,anc,.fresh,free⟩::rest) F s Q:=by
 obtain⟨F₁,s₁,⟨F₂,s₂,b,n₂,h2⟩,n₁,h1⟩:=h
 refine⟨F₂,s₂,b,n₁+n₂,fun m hm=>?_⟩
 simp only[gz,hg,vP,c,h1 m O]
 exact h2 m O
theorem draw_new{ops:List Oper}{ix anc:Nat}{free:List Nat}{t:Tmp}{e:TypeId}{ty:TypeId}{pos:String}{af:Array Edge}{g:Option (Nat×Bool)}{ob:MObj}{rest:List Drawn}{F:FF}{s:St}{Q:FF→St→Prop}(hg:zF ops ix=some ⟨some t,.alloc e,ty,pos,af,g⟩)(f:yi ops F ⟨some t,.alloc e,ty,pos,af,g⟩=true)(a:s.room=true)
 (hv:zh P (zd F) (.alloc e) {next:=s.next,bar:=s.next,prot:=[],heap:=.nil}=.ok (.value (.pointer (some ⟨s.next,0,none⟩))) (({next:=s.next,bar:=s.next,prot:=[],heap:=.nil}:St).new ob))
 (h:yZ P I ops rest (upd F (some t) (.pointer (some ⟨s.next,0,none⟩))) (s.new ob) Q) :
 yZ P I ops (⟨ix,anc,.new,free⟩::rest) F s Q:=by
 obtain⟨F₂,s₂,d,n₂,h2⟩:=h
 refine⟨F₂,s₂,d,n₂,fun m c=>?_⟩
 have hb:yx (upd F (some t) (.pointer (some ⟨s.next,0,none⟩))) ⟨some t,.alloc e,ty,pos,af,g⟩=some s.next:=by
  simp[yx,upd]
 have hn:(({next:=s.next,bar:=s.next,prot:=[],heap:=.nil}:St).new ob).next=s.next+1:=rfl
 have hr:=wh a
 have b:(({next:=s.next,bar:=s.next,prot:=[],heap:=.nil}:St).new ob).get s.next=some ob:=by
  rw[St.get_new (by show s.next+1<_;omega)]
  exact aF J
 simp only[gz,hg,vP,f,opF,hv,hb,hn,b,a,eM,Bool.and_self]
 exact h2 m c
theorem CodeW.ends{c:Code}{F:FF}{s:St}{Q:FOut→Prop}(h:CodeW P I N c F s Q):Code0 P I N c F s Q:=by
 induction c generalizing F s Q with
 |skip|exit|ret=>
  refine⟨_,h,1,fun m e=>?_⟩
  obtain⟨m,rfl⟩:∃k,m=k+1:=⟨m-1,by omega⟩
  rfl
 |seq x y hx j=>
  obtain⟨o,a,n,hn⟩:=hx (Q:=zed P I N y Q) h
  cases o with
  |normal F₁ s₁=>
   obtain⟨o₂,g,n₂,f⟩:=j a
   refine⟨o₂,g,n+n₂+1,fun m e=>?_⟩
   obtain⟨m,rfl⟩:∃k,m=k+1:=⟨m-1,by omega⟩
   simp only[xj,hn m O]
   exact f m O
  |_=>
   refine⟨_,a,n+1,fun m e=>?_⟩
   obtain⟨m,rfl⟩:∃k,m=k+1:=⟨m-1,by omega⟩
   simp only[xj,hn m O]
 |block id b hb=>
  obtain⟨o,a,n,hn⟩:=hb (Q:=vn id Q) h
  cases o with
  |exit i F₁ s₁=>
   cases hb:Nat.beq i id with
   |_=>
    simp only[vn,hb]at a
    refine⟨_,a,n+1,fun m e=>?_⟩
    obtain⟨m,rfl⟩:∃k,m=k+1:=⟨m-1,by omega⟩
    simp only[xj,hn m O,hb]
  |_=>
   refine⟨_,a,n+1,fun m e=>?_⟩
   obtain⟨m,rfl⟩:∃k,m=k+1:=⟨m-1,by omega⟩
   simp only[xj,hn m O]
 |scope b hb=>
  obtain⟨o,a,n,hn⟩:=hb (Q:=Q) h
  refine⟨o,a,n+1,fun m e=>?_⟩
  obtain⟨m,rfl⟩:∃k,m=k+1:=⟨m-1,by omega⟩
  simp only[xj]
  exact hn m O
 |cond c x y hx j=>
  unfold CodeW at h
  cases hc:VL (zd F c)with
  |none=>rw[hc]at h;exact h.elim
  |some b=>
   rw[hc]at h
   have hc:=zdj hc
   cases b with
   |true=>
    obtain⟨o,a,n,hn⟩:=hx h
    refine⟨o,a,n+1,fun m e=>?_⟩
    obtain⟨m,rfl⟩:∃k,m=k+1:=⟨m-1,by omega⟩
    simp only[xj,hc]
    exact hn m O
   |false=>
    obtain⟨o,a,n,hn⟩:=j h
    refine⟨o,a,n+1,fun m e=>?_⟩
    obtain⟨m,rfl⟩:∃k,m=k+1:=⟨m-1,by omega⟩
    simp only[xj,hc]
    exact hn m O
 |region id ops d=>
  cases d with
  |true=>exact h
  |false=>
   obtain⟨F₁,s₁,a,n,hn⟩:=OpsW.ends h
   refine⟨_,a,n+1,fun m e=>?_⟩
   obtain⟨m,rfl⟩:∃k,m=k+1:=⟨m-1,by omega⟩
   simp only[xj]
   exact hn m O
 |_=>exact h
theorem yo{F:FF}{s:St}{Q:FOut→Prop}(h:Q (.normal F s)):CodeW P I N .skip F s Q:=h
theorem qw{id:Nat}{F:FF}{s:St}{Q:FOut→Prop}(h:Q (.exit id F s)):CodeW P I N (.exit id) F s Q:=h
theorem qH{F:FF}{s:St}{Q:FOut→Prop}(h:Q (.ret F s)):CodeW P I N .ret F s Q:=h
theorem zL{x y:Code}{F:FF}{s:St}{Q:FOut→Prop}(h:CodeW P I N x F s (zed P I N y Q)):CodeW P I N (.seq x y) F s Q:=h
theorem yN{c:Operand}{x y:Code}{F:FF}{s:St}{Q:FOut→Prop}(hc:zd F c=.bool true)(h:CodeW P I N x F s Q):CodeW P I N (.cond c x y) F s Q:=by unfold CodeW;rw[hc];exact h
theorem ye{c:Operand}{x y:Code}{F:FF}{s:St}{Q:FOut→Prop}(hc:zd F c=.bool false)(h:CodeW P I N y F s Q):CodeW P I N (.cond c x y) F s Q:=by unfold CodeW;rw[hc];exact h
theorem yj{id:Nat}{b:Code}{F:FF}{s:St}{Q:FOut→Prop}(h:CodeW P I N b F s (vn id Q)):CodeW P I N (.block id b) F s Q:=h
def zgA(Inv:Nat→FF→St→Prop)(k:Nat)(Q:FOut→Prop):FOut→Prop
 | .normal F s=>∃k',k'<k∧Inv k' F s
 |o=>Q o
theorem kP{b:Code}{Q:FOut→Prop}(Inv:Nat→FF→St→Prop)(step:∀k F s,Inv k F s→CodeW P I N b F s (zgA Inv k Q)) :
 ∀(k:Nat) (F:FF) (s:St),Inv k F s→CodeW P I N (.loop b) F s Q:=by
 intro k
 induction k using Nat.strongRecOn with
 |_ k g=>
  intro F s hi
  obtain⟨o,a,n,hn⟩:=(step k F s hi).ends
  cases o with
  |normal F₁ s₁=>
   obtain⟨k',hk,c⟩:=a
   obtain⟨o₂,f,n₂,e⟩:=g k' hk F₁ s₁ c
   refine⟨o₂,f,n+n₂+1,fun m d=>?_⟩
   obtain⟨m,rfl⟩:∃k,m=k+1:=⟨m-1,by omega⟩
   simp only[xj,hn m O]
   exact e m O
  |exit i F₁ s₁=>
   refine⟨_,a,n+1,fun m d=>?_⟩
   obtain⟨m,rfl⟩:∃k,m=k+1:=⟨m-1,by omega⟩
   simp only[xj,hn m O]
  |ret F₁ s₁=>
   refine⟨_,a,n+1,fun m d=>?_⟩
   obtain⟨m,rfl⟩:∃k,m=k+1:=⟨m-1,by omega⟩
   simp only[xj,hn m O]
  |stuck=>
   refine⟨_,a,n+1,fun m d=>?_⟩
   obtain⟨m,rfl⟩:∃k,m=k+1:=⟨m-1,by omega⟩
   simp only[xj,hn m O]
theorem zQ{id:Nat}{ops:Array Oper}{F:FF}{s:St}{Q:FOut→Prop}(h:OpsW P I ops.toList ops.toList F s fun F s=>Q (.normal F s)):CodeW P I N (.region id ops false) F s Q:=h
theorem uv{id:Nat}{ops:Array Oper}{F:FF}{s:St}{Q:FOut→Prop}(l:List Drawn)(hb:Zt ops.toList (plan ops.toList)=true)(hl:plan ops.toList=l)
 (h:yZ P I ops.toList l F s fun F s=>Q (.normal F s)):CodeW P I N (.region id ops true) F s Q:=by
 obtain⟨F₁,s₁,a,n,hn⟩:=h
 refine⟨_,a,n+1,fun m hm=>?_⟩
 obtain⟨m,rfl⟩:∃k,m=k+1:=⟨m-1,by omega⟩
 simp only[xj,hb]
 rw[hl]
 exact hn m O
theorem zg{id:Nat}{ops:Array Oper}{y:Code}{F:FF}{s:St}{Q:FOut→Prop}(h:OpsW P I ops.toList ops.toList F s fun F s=>CodeW P I N y F s Q):CodeW P I N (.seq (.region id ops false) y) F s Q:=
 zL (zQ h)
theorem vQ{id:Nat}{ops:Array Oper}{y:Code}{F:FF}{s:St}{Q:FOut→Prop}(l:List Drawn)(hb:Zt ops.toList (plan ops.toList)=true)(hl:plan ops.toList=l)
 (h:yZ P I ops.toList l F s fun F s=>CodeW P I N y F s Q):CodeW P I N (.seq (.region id ops true) y) F s Q:=
 zL (uv l hb hl h)
def Slots(F:FF):List (Nat×Value)→Prop
 | []=>True
 |(d,v)::l=>F d=v∧Slots F l
def lay(G:FF):List (Nat×Value)→FF
 | []=>G
 |(d,v)::l=>upd (lay G l) (some d) v
theorem zcu{F:FF}:∀{l:List (Nat×Value)},Slots F l→lay F l=F
 | [],_=>rfl
 |(d,v)::l,h=>by
  funext t
  simp only[lay,vh,zcu h.2]
  split
  ·next e=>rw[e];exact h.1.symm
  ·rfl
theorem slots{F:FF}{l:List (Nat×Value)}(h:Slots F l):F=lay F l:=(zcu h).symm
def X6:List Value→Nat→FF→FF
 | [],_,F=>F
 |v::l,n,F=>X6 l (n+1) (upd F (some n) v)
def YM(args:Array Value):FF:=X6 args.toList 0 fun _=>undef
theorem Qh:∀(l:List Value) (n N:Nat) (F:FF) (t:Tr Value),n+l.length≤N→Agrees N F ⟨N,t⟩→Agrees N (X6 l n F) ⟨N,YP l n t⟩
 | [],_,_,_,_,_,h=>h
 |v::l,n,N,F,t,hn,h=>by
  simp only[aW]at hn
  simp only[X6,YP]
  refine Qh l (n+1) N _ _ O ?_
  have:=h.put (some n) v
  have hb:Nat.blt n N=true:=wM O
  simpa only[Fr.put,hb]using this
theorem zdy{args:Array Value}{N:Nat}(h1:args.toList.length≤N)(h2:N≤65534):Agrees N (YM args) (Fr.make args N):=by
 refine Qh _ 0 N _ _ O ⟨J,h2,fun t _=>?_⟩
 simp[Fr.get,Tr.get]
def qS(P:Program)(F:FF)(s:St):List ResultVar→Option (List Value)
 | []=>some []
 | .tmp t::l=>match qS P F s l with
  |some r=>some (F t::r)
  |none=>none
 | .cell t ty::l=>match vY P ty (F t) s,qS P F s l with
  |some v,some r=>some (v::r)
  |_,_=>none
def QG(N:Nat):ResultVar→Bool
 | .tmp t=>Nat.blt t N
 | .cell t _=>Nat.blt t N
theorem wR{N:Nat}{F:FF}{a:Fr}{s:St}(h:Agrees N F a):∀l:List ResultVar,l.all (QG N)=true→qR P a s l=qS P F s l
 | [],_=>rfl
 | .tmp t::l,hl=>by
  simp only[List.all_cons,aG,QG]at hl
  simp only[qR,qS]
  rw[wR h l (by simpa using hl.2),h.get t (aR hl.1)]
  rfl
 | .cell t ty::l,hl=>by
  simp only[List.all_cons,aG,QG]at hl
  simp only[qR,qS]
  rw[wR h l (by simpa using hl.2),h.get t (aR hl.1)]
  rfl
structure endQ(P:Program)(rs:List ResultVar)(Post:Value→St→Prop)(F:FF)(s:St):Prop where
 ex:match qS P F s rs with
 |some [v]=>Post v s
 |some l=>Post (.tuple ⟨l⟩) s
 |none=>False
def retQ(P:Program)(rs:List ResultVar)(Post:Value→St→Prop):FOut→Prop
 | .normal F s=>endQ P rs Post F s
 | .ret F s=>endQ P rs Post F s
 |_=>False
def vG(fn:Func)(c:Code)(n:Nat):Bool:=
 Nat.ble n fn.ntmps&&Nat.ble fn.ntmps 65534&&xT c&&q7 fn.ntmps c&&fn.results.toList.all (QG fn.ntmps)
theorem uH{t:Nat}{F:FF}{s:St}{Post:Value→St→Prop}(h:Post (F t) s):endQ P [.tmp t] Post F s:=⟨h⟩
theorem xD{rs:List ResultVar}{F:FF}{s:St}{Post:Value→St→Prop}(h:endQ P rs Post F s):retQ P rs Post (.ret F s):=h
theorem nrm_end{rs:List ResultVar}{F:FF}{s:St}{Post:Value→St→Prop}(h:endQ P rs Post F s):retQ P rs Post (.normal F s):=h
theorem zn{k:FF→St→Prop}{Q:FOut→Prop}{F:FF}{s:St}(h:k F s):seqK k Q (.normal F s):=h
theorem qp{k:FF→St→Prop}{Q:FOut→Prop}{F:FF}{s:St}(h:Q (.ret F s)):seqK k Q (.ret F s):=h
theorem xG{k:FF→St→Prop}{Q:FOut→Prop}{i:Nat}{F:FF}{s:St}(h:Q (.exit i F s)):seqK k Q (.exit i F s):=h
theorem xc{id:Nat}{Q:FOut→Prop}{F:FF}{s:St}(h:Q (.normal F s)):vn id Q (.normal F s):=h
theorem vf{id:Nat}{Q:FOut→Prop}{F:FF}{s:St}(h:Q (.ret F s)):vn id Q (.ret F s):=h
theorem xI{id:Nat}{Q:FOut→Prop}{F:FF}{s:St}(h:Q (.normal F s)):vn id Q (.exit id F s):=by
 simp only[vn,eM];exact h
theorem VM{id i:Nat}{Q:FOut→Prop}{F:FF}{s:St}(hi:Nat.beq i id=false)(h:Q (.exit i F s)):vn id Q (.exit i F s):=by
 simp only[vn,hi];exact h
theorem yA{Inv:Nat→FF→St→Prop}{k:Nat}{Q:FOut→Prop}{F:FF}{s:St}(h:∃k',k'<k∧Inv k' F s):zgA Inv k Q (.normal F s):=h
theorem gg{Inv:Nat→FF→St→Prop}{k:Nat}{Q:FOut→Prop}{F:FF}{s:St}(h:Q (.ret F s)):zgA Inv k Q (.ret F s):=h
theorem xv{Inv:Nat→FF→St→Prop}{k i:Nat}{Q:FOut→Prop}{F:FF}{s:St}(h:Q (.exit i F s)):zgA Inv k Q (.exit i F s):=h
theorem qD{f:FuncId}{args:Array Value}{s:St}{fn:Func}{c:Code}{Post:Value→St→Prop}(n:Nat)(z:I f=none)(hf:P.funcs[f]? = some fn)(hb:fn.body=some c)(hc:vG fn c n=true)
 (hn:args.toList.length=n) (h:CodeW P I fn.ntmps c (YM args) s (retQ P fn.results.toList Post)) (g:Nat.ble zu f=false:=by exact rfl):∃v s',vo P I f args s v s'∧Post v s':=by
 simp only[vG,aG]at hc
 replace h:=h.ends
 obtain⟨⟨⟨⟨h1,h2⟩,A⟩,B⟩,w⟩:=hc
 obtain⟨o,t,k,hk⟩:=h
 have u:Agrees fn.ntmps (YM args) (Fr.make args fn.ntmps):=zdy (by rw[hn];exact aR h1) (aR h2)
 have b:(Nat.ble (yD args.toList 0) fn.ntmps&&Nat.ble fn.ntmps 65534&&xT c)=true:=by
  rw[yd,hn,bK,h1,h2,A];rfl
 have e:∀F s',endQ P fn.results.toList Post F s'→∃v,Post v s'∧∀a,Agrees fn.ntmps F a→finish P fn a s'=.ret v s':=by
  intro F s' he
  replace he:=he.ex
  split at he
  ·next v hv=>exact⟨v,he,fun a ha=>by unfold finish;rw[wR ha _ w,hv]⟩
  ·next l hl hv=>
   refine⟨_,he,fun a ha=>?_⟩
   unfold finish
   rw[wR ha _ w,hv]
   cases l with
   |nil=>rfl
   |cons x l=>cases l with
    |nil=>exact(hl x rfl).elim
    |cons y l=>rfl
  ·exact he.elim
 have j:=fun m=>kF (P:=P) (I:=I) m c (YM args) (Fr.make args fn.ntmps) s B u
 cases o with
 |normal F s'=>
  obtain⟨v,r,hv⟩:=e F s' t
  refine⟨v,s',⟨k,fun m q=>?_⟩,r⟩
  have h0:=j m
  rw[hk m q]at h0
  simp only[Zx,yP,g,z,hf,hb,gJ,b]
  cases d:zT P I m c (Fr.make args fn.ntmps) s with
  |normal a₃ s₃=>
   rw[d]at h0
   obtain⟨rfl,p⟩:=h0
   exact hv a₃ p
  |_=>rw[d]at h0;exact h0.elim
 |ret F s'=>
  obtain⟨v,r,hv⟩:=e F s' t
  refine⟨v,s',⟨k,fun m q=>?_⟩,r⟩
  have h0:=j m
  rw[hk m q]at h0
  simp only[Zx,yP,g,z,hf,hb,gJ,b]
  cases d:zT P I m c (Fr.make args fn.ntmps) s with
  |ret a₃ s₃=>
   rw[d]at h0
   obtain⟨rfl,p⟩:=h0
   exact hv a₃ p
  |_=>rw[d]at h0;exact h0.elim
 |exit i F s'=>exact t.elim
 |stuck=>exact t.elim
end
abbrev Hp':=List (Nat×MObj)
def zw:Nat:=281474976710655
structure HL(W:List Nat)(s0 s:St)(L:Hp')(n:Nat):Prop where
 bar:s.bar=s0.bar
 prot:s.prot=s0.prot
 wfb:s0.bar≤s0.next
 wfp:∀p,p∈s0.prot→p<s0.next
 le:s0.next≤s.next
 most:s.next≤s0.next+n
 own:∀p,p∈L→s.get p.1=some p.2∧p.1<s.next∧s.may p.1=true∧(s0.next≤p.1∨p.1∈W)
 dist:L.Pairwise fun p q=>p.1≠q.1
 kept:∀b,b<s0.next→b∉W→s.get b=s0.get b
structure Fine(s:St):Prop where
 wfb:s.bar≤s.next
 wfp:∀p,p∈s.prot→p<s.next
theorem Fine.hl{s:St}(h:Fine s):HL [] s s [] 0:=
 ⟨rfl,rfl,h.wfb,h.wfp,aO _,aO _,fun _ h=>(by cases h),.nil,fun _ _ _=>rfl⟩
theorem may_of{s:St}{b:Nat}(h1:s.bar≤b)(h2:b∉s.prot):s.may b=true:=by
 simp only[St.may,aG,bC]
 refine⟨aZ h1,?_⟩
 rw[cL]
 intro h
 rw[eU]at h
 obtain⟨x,hx,he⟩:=h
 have:=aJ he
 subst this
 exact h2 hx
section
variable{W:List Nat}{s0 s:St}{L:Hp'}{n:Nat}
theorem HL.fine(H:HL W s0 s L n):Fine s:=⟨by have:=H.bar;have:=H.wfb;have:=H.le;omega,fun p hp=>by rw[H.prot]at hp;have:=H.wfp p hp;have:=H.le;omega⟩
theorem HL.up(H:HL W s0 s L n){a:Nat}(h:n≤a):HL W s0 s L a:={H with most:=by have:=H.most;omega}
theorem HL.sub(H:HL W s0 s L n){L':Hp'}(h:L'.Sublist L):HL W s0 s L' n:=
 {H with own:=fun p hp=>H.own p (h.subset hp),dist:=H.dist.sublist h}
theorem HL.may_next(H:HL W s0 s L n):s.may s.next=true:=by
 refine may_of (by have:=H.bar;have:=H.wfb;have:=H.le;omega) fun h=>?_
 rw[H.prot]at h
 have:=H.wfp _ h
 have:=H.le
 omega
theorem HL.new(H:HL W s0 s L n)(o:MObj)(h:s0.next+n<zw):HL W s0 (s.new o) ((s.next,o)::L) (n+1):=by
 have hm:=H.most
 have a:=H.le
 unfold zw at h
 have hg:=fun b'=>St.get_new (s:=s) O o b'
 refine⟨H.bar,H.prot,H.wfb,H.wfp,by simp only[St.new_next];omega,by simp only[St.new_next];omega,fun p hp=>?_,?_,fun b hb i=>?_⟩
 ·rcases aL.mp hp with rfl|hp
  ·refine⟨by rw[hg];simp,by simp only[St.new_next];omega,?_,.inl a⟩
   exact H.may_next
  ·obtain⟨h1,h2,c,e⟩:=H.own p hp
   refine⟨by rw[hg,aD O];exact h1,by simp only[St.new_next];omega,c,e⟩
 ·exact List.Pairwise.cons (fun q f=>by have:=(H.own q f).2.1;simp only;omega) H.dist
 ·rw[hg,aD O];exact H.kept b hb i
theorem HL.room(H:HL W s0 s L n)(a:s0.next+n<zw):s.room=true:=by
 have hm:=H.most
 unfold zw at a
 simp only[St.room,Nat.blt_eq]
 omega
theorem HL.putAt(A:Hp'){B:Hp'}{b:Nat}{o:MObj}(H:HL W s0 s (A++(b,o)::B) n)(o':MObj)(x:s0.next+n≤zw):HL W s0 (s.put b (some o')) (A++(b,o')::B) n:=by
 have hm:=H.most
 unfold zw at x
 obtain⟨hb1,hb2,m,i⟩:=H.own (b,o) Y8
 have hg:=fun b'=>St.get_put (s:=s) (b:=b) (by simp only at hb2;omega) (some o') b'
 have hd:=H.dist
 rw[List.pairwise_append,List.pairwise_cons]at hd
 obtain⟨u,⟨r,v⟩,j⟩:=hd
 refine⟨H.bar,H.prot,H.wfb,H.wfp,H.le,H.most,fun p hp=>?_,?_,fun b' hb t=>?_⟩
 ·rcases aU.mp hp with hp|hp
  ·obtain⟨h1,h2,k,l⟩:=H.own p (by simp[hp])
   have f:p.1≠b:=j p hp (b,o) Y8
   exact⟨by rw[hg,aD f];exact h1,h2,k,l⟩
  ·rcases aL.mp hp with rfl|hp
   ·exact⟨by rw[hg];simp,hb2,m,i⟩
   ·obtain⟨h1,h2,k,l⟩:=H.own p (by simp[hp])
    have f:p.1≠b:=fun e=>r p hp e.symm
    exact⟨by rw[hg,aD f];exact h1,h2,k,l⟩
 ·rw[List.pairwise_append,List.pairwise_cons]
  refine⟨u,⟨fun q w=>r q w,v⟩,fun a ha c hc=>?_⟩
  rcases aL.mp hc with rfl|hc
  ·exact j a ha (b,o) Y8
  ·exact j a ha c (by simp[hc])
 ·rw[hg]
  split
  ·next e=>
   subst e
   rcases i with h|h
   ·simp only at h;omega
   ·exact(t h).elim
  ·exact H.kept b' hb t
theorem HL.killAt(A:Hp'){B:Hp'}{b:Nat}{o:MObj}(H:HL W s0 s (A++(b,o)::B) n)(u:s0.next+n≤zw):HL W s0 (s.put b none) (A++B) n:=by
 have hm:=H.most
 unfold zw at u
 obtain⟨hb1,hb2,hb3,k⟩:=H.own (b,o) Y8
 have hg:=fun b'=>St.get_put (s:=s) (b:=b) (by simp only at hb2;omega) none b'
 have hd:=H.dist
 rw[List.pairwise_append,List.pairwise_cons]at hd
 obtain⟨q,⟨r,t⟩,l⟩:=hd
 refine⟨H.bar,H.prot,H.wfb,H.wfp,H.le,H.most,fun p hp=>?_,?_,fun b' hb m=>?_⟩
 ·rcases aU.mp hp with hp|hp
  ·obtain⟨h1,h2,i,j⟩:=H.own p (by simp[hp])
   have f:p.1≠b:=l p hp (b,o) Y8
   exact⟨by rw[hg,aD f];exact h1,h2,i,j⟩
  ·obtain⟨h1,h2,i,j⟩:=H.own p (by simp[hp])
   have f:p.1≠b:=fun e=>r p hp e.symm
   exact⟨by rw[hg,aD f];exact h1,h2,i,j⟩
 ·rw[List.pairwise_append]
  exact⟨q,t,fun a ha c hc=>l a ha c (by simp[hc])⟩
 ·rw[hg]
  split
  ·next e=>
   subst e
   rcases k with h|h
   ·simp only at h;omega
   ·exact(m h).elim
  ·exact H.kept b' hb m
theorem HL.call(H:HL W s0 s L n){s':St}{i:Hp'}{k:Nat}(H':HL [] s s' i k):HL W s0 s' (i++L) (n+k):=by
 have hm:=H.most
 have hm':=H'.most
 have hle:=H.le
 have hle':=H'.le
 refine⟨H'.bar.trans H.bar,H'.prot.trans H.prot,H.wfb,H.wfp,by omega,by omega,fun p hp=>?_,?_,fun b hb j=>?_⟩
 ·rcases aU.mp hp with hp|hp
  ·obtain⟨h1,h2,e,f⟩:=H'.own p hp
   refine⟨h1,h2,e,.inl ?_⟩
   rcases f with h|h
   ·omega
   ·cases h
  ·obtain⟨h1,h2,e,f⟩:=H.own p hp
   refine⟨by rw[H'.kept _ h2 Y8];exact h1,by omega,?_,f⟩
   rw[St.may_eq H'.bar H'.prot];exact e
 ·rw[List.pairwise_append]
  refine⟨H'.dist,H.dist,fun a ha c hc=>?_⟩
  have h1:=(H'.own a ha).2.2.2
  have h2:=(H.own c hc).2.1
  rcases h1 with h|h
  ·omega
  ·cases h
 ·rw[H'.kept b O Y8];exact H.kept b hb j
theorem HL.get(H:HL [] s0 s L n){b:Nat}(hb:b<s0.next):s.get b=s0.get b:=H.kept b hb Y8
theorem HL.old(H:HL [] s0 s L n){b:Nat}{o:Option MObj}(hb:b<s0.next)(h:s0.get b=o):s.get b=o:=by rw[H.kept b hb Y8];exact h
theorem HL.own0{b:Nat}{o:MObj}(H:HL W s0 s ((b,o)::L) n):s.get b=some o:=(H.own (b,o) Y8).1
theorem HL.lt0{b:Nat}{o:MObj}(H:HL W s0 s ((b,o)::L) n):b<s.next:=(H.own (b,o) Y8).2.1
theorem HL.lim0{b:Nat}{o:MObj}(H:HL W s0 s ((b,o)::L) n)(hr:s0.next+n≤zw):b<zw:=by have h1:=(H.own (b,o) Y8).2.1;have h2:=H.most;simp only at h1;omega
theorem HL.put0{b:Nat}{o:MObj}(H:HL W s0 s ((b,o)::L) n)(o':MObj)(a:s0.next+n≤zw):HL W s0 (s.put b (some o')) ((b,o')::L) n:=HL.putAt [] H o' a
theorem HL.drop0{b:Nat}{o:MObj}(H:HL W s0 s ((b,o)::L) n):HL W s0 s (L) n:=H.sub (.cons _ (List.Sublist.refl _))
theorem HL.own1{a:Nat×MObj}{b:Nat}{o:MObj}(H:HL W s0 s (a::(b,o)::L) n):s.get b=some o:=(H.own (b,o) Y8).1
theorem HL.lt1{a:Nat×MObj}{b:Nat}{o:MObj}(H:HL W s0 s (a::(b,o)::L) n):b<s.next:=(H.own (b,o) Y8).2.1
theorem HL.lim1{a:Nat×MObj}{b:Nat}{o:MObj}(H:HL W s0 s (a::(b,o)::L) n)(hr:s0.next+n≤zw):b<zw:=by have h1:=(H.own (b,o) Y8).2.1;have h2:=H.most;simp only at h1;omega
theorem HL.put1{a:Nat×MObj}{b:Nat}{o:MObj}(H:HL W s0 s (a::(b,o)::L) n)(o':MObj)(c:s0.next+n≤zw):HL W s0 (s.put b (some o')) (a::(b,o')::L) n:=HL.putAt [a] H o' c
theorem HL.drop1{a:Nat×MObj}{b:Nat}{o:MObj}(H:HL W s0 s (a::(b,o)::L) n):HL W s0 s (a::L) n:=H.sub (.cons_cons _ (.cons _ (List.Sublist.refl _)))
theorem HL.own2{a p1:Nat×MObj}{b:Nat}{o:MObj}(H:HL W s0 s (a::p1::(b,o)::L) n):s.get b=some o:=(H.own (b,o) Y8).1
theorem HL.lim2{a p1:Nat×MObj}{b:Nat}{o:MObj}(H:HL W s0 s (a::p1::(b,o)::L) n)(hr:s0.next+n≤zw):b<zw:=by have h1:=(H.own (b,o) Y8).2.1;have h2:=H.most;simp only at h1;omega
theorem HL.put2{a p1:Nat×MObj}{b:Nat}{o:MObj}(H:HL W s0 s (a::p1::(b,o)::L) n)(o':MObj)(c:s0.next+n≤zw):HL W s0 (s.put b (some o')) (a::p1::(b,o')::L) n:=HL.putAt [a,p1] H o' c
theorem HL.own3{a p1 p2:Nat×MObj}{b:Nat}{o:MObj}(H:HL W s0 s (a::p1::p2::(b,o)::L) n):s.get b=some o:=(H.own (b,o) Y8).1
theorem HL.lim3{a p1 p2:Nat×MObj}{b:Nat}{o:MObj}(H:HL W s0 s (a::p1::p2::(b,o)::L) n)(hr:s0.next+n≤zw):b<zw:=by have h1:=(H.own (b,o) Y8).2.1;have h2:=H.most;simp only at h1;omega
theorem HL.put3{a p1 p2:Nat×MObj}{b:Nat}{o:MObj}(H:HL W s0 s (a::p1::p2::(b,o)::L) n)(o':MObj)(c:s0.next+n≤zw):HL W s0 (s.put b (some o')) (a::p1::p2::(b,o')::L) n:=HL.putAt [a,p1,p2] H o' c
theorem HL.own4{a p1 p2 c:Nat×MObj}{b:Nat}{o:MObj}(H:HL W s0 s (a::p1::p2::c::(b,o)::L) n):s.get b=some o:=(H.own (b,o) Y8).1
theorem HL.put4{a p1 p2 c:Nat×MObj}{b:Nat}{o:MObj}(H:HL W s0 s (a::p1::p2::c::(b,o)::L) n)(o':MObj)(e:s0.next+n≤zw):HL W s0 (s.put b (some o')) (a::p1::p2::c::(b,o')::L) n:=HL.putAt [a,p1,p2,c] H o' e
theorem HL.own5{a p1 p2 c e:Nat×MObj}{b:Nat}{o:MObj}(H:HL W s0 s (a::p1::p2::c::e::(b,o)::L) n):s.get b=some o:=(H.own (b,o) Y8).1
theorem HL.lim5{a p1 p2 c e:Nat×MObj}{b:Nat}{o:MObj}(H:HL W s0 s (a::p1::p2::c::e::(b,o)::L) n)(hr:s0.next+n≤zw):b<zw:=by have h1:=(H.own (b,o) Y8).2.1;have h2:=H.most;simp only at h1;omega
theorem HL.put5{a p1 p2 c e:Nat×MObj}{b:Nat}{o:MObj}(H:HL W s0 s (a::p1::p2::c::e::(b,o)::L) n)(o':MObj)(f:s0.next+n≤zw):HL W s0 (s.put b (some o')) (a::p1::p2::c::e::(b,o')::L) n:=HL.putAt [a,p1,p2,c,e] H o' f
theorem HL.own6{a p1 p2 c e f:Nat×MObj}{b:Nat}{o:MObj}(H:HL W s0 s (a::p1::p2::c::e::f::(b,o)::L) n):s.get b=some o:=(H.own (b,o) Y8).1
end
section
variable{P:Program}{I:zU}{F:FF}{s:St}{Q:FF→St→Prop}{d:Option Tmp}{ty:TypeId}{pos:String}{af:Array Edge}{g:Option (Nat×Bool)}
theorem zA{o:Oper}{v:Value}{s':St}(h:zh P (zd F) o.op s=.ok (.value v) s')(k:Q (upd F o.dst v) s'):OpW P I o F s Q:=
 ⟨_,_,k,0,fun m _=>by simp only[opF,h]⟩
theorem wT{o:Oper}{s':St}(h:zh P (zd F) o.op s=.ok .skip s')(k:Q (upd F o.dst undef) s'):OpW P I o F s Q:=
 ⟨_,_,k,0,fun m _=>by simp only[opF,h]⟩
theorem op_enter{o:Oper}{f:FuncId}{args:Array Value}{s₁:St}(h:zh P (zd F) o.op s=.ok (.enter f args) s₁)(e:∃v s',vo P I f args s₁ v s'∧Q (upd F o.dst v) s')(a:Nat.ble zu f=false:=by exact rfl):OpW P I o F s Q:=by
 obtain⟨v,s',⟨n,hn⟩,c⟩:=e
 exact⟨_,_,c,n,fun m b=>by simp only[opF,h,a,hn m b]⟩
theorem yJ{x:Operand}(k:Q (upd F d (zd F x)) s):OpW P I ⟨d,.move x,ty,pos,af,g⟩ F s Q:=zA rfl k
theorem qn{x:Operand}(k:Q (upd F d (zd F x)) s):OpW P I ⟨d,.assign x,ty,pos,af,g⟩ F s Q:=zA rfl k
theorem zce{c a b:Operand}(hc:zd F c=.bool true)(k:Q (upd F d (zd F a)) s):OpW P I ⟨d,.pick c a b,ty,pos,af,g⟩ F s Q:=zA (by simp only[zh,YA,hc];rfl) k
theorem zcf{c a b:Operand}(hc:zd F c=.bool false)(k:Q (upd F d (zd F b)) s):OpW P I ⟨d,.pick c a b,ty,pos,af,g⟩ F s Q:=zA (by simp only[zh,YA,hc];rfl) k
theorem wB{v:Value}(k:Q (upd F d v) s):OpW P I ⟨d,.move (.const v),ty,pos,af,g⟩ F s Q:=yJ k
theorem zO{v:Value}(k:Q (upd F d v) s):OpW P I ⟨d,.assign (.const v),ty,pos,af,g⟩ F s Q:=qn k
theorem op_pick1C{y w:Operand}{v:Value}(hc:zd F y=.bool true)(k:Q (upd F d v) s):OpW P I ⟨d,.pick y (.const v) w,ty,pos,af,g⟩ F s Q:=zce hc k
theorem gZ{y z:Operand}{v:Value}(hc:zd F y=.bool false)(k:Q (upd F d v) s):OpW P I ⟨d,.pick y z (.const v),ty,pos,af,g⟩ F s Q:=zcf hc k
theorem zf{x:Operand}{kd:IntKind}{a:Int}(hx:zd F x=.int kd a)(k:Q (upd F d (.int kd a)) s):OpW P I ⟨d,.move x,ty,pos,af,g⟩ F s Q:=yJ V9
theorem z4{x:Operand}{kd:IntKind}{a:Int}(hx:zd F x=.int kd a)(k:Q (upd F d (.int kd a)) s):OpW P I ⟨d,.assign x,ty,pos,af,g⟩ F s Q:=qn V9
theorem xA{x:Operand}{b:Bool}(hx:zd F x=.bool b)(k:Q (upd F d (.bool b)) s):OpW P I ⟨d,.move x,ty,pos,af,g⟩ F s Q:=yJ V9
theorem xl{x:Operand}{b:Bool}(hx:zd F x=.bool b)(k:Q (upd F d (.bool b)) s):OpW P I ⟨d,.assign x,ty,pos,af,g⟩ F s Q:=qn V9
theorem vJ{y z w:Operand}{b:Bool}(hc:zd F y=.bool true)(hx:zd F z=.bool b)(k:Q (upd F d (.bool b)) s):OpW P I ⟨d,.pick y z w,ty,pos,af,g⟩ F s Q:=zce hc V9
theorem wo{y z w:Operand}{b:Bool}(hc:zd F y=.bool false)(hx:zd F w=.bool b)(k:Q (upd F d (.bool b)) s):OpW P I ⟨d,.pick y z w,ty,pos,af,g⟩ F s Q:=zcf hc V9
theorem zx{x:Operand}{a:Option Addr}{m c:Nat}(hx:zd F x=.slice a m c)(k:Q (upd F d (.slice a m c)) s):OpW P I ⟨d,.move x,ty,pos,af,g⟩ F s Q:=yJ V9
theorem yq{x:Operand}{a:Option Addr}{m c:Nat}(hx:zd F x=.slice a m c)(k:Q (upd F d (.slice a m c)) s):OpW P I ⟨d,.assign x,ty,pos,af,g⟩ F s Q:=qn V9
theorem vW{x:Operand}{a:Option Addr}(hx:zd F x=.pointer a)(k:Q (upd F d (.pointer a)) s):OpW P I ⟨d,.move x,ty,pos,af,g⟩ F s Q:=yJ V9
theorem zeo{x:Operand}{a:Option Addr}(hx:zd F x=.pointer a)(k:Q (upd F d (.pointer a)) s):OpW P I ⟨d,.assign x,ty,pos,af,g⟩ F s Q:=qn V9
theorem vV{x:Operand}{vs:Array Value}(hx:zd F x=.tuple vs)(k:Q (upd F d (.tuple vs)) s):OpW P I ⟨d,.move x,ty,pos,af,g⟩ F s Q:=yJ V9
theorem KM{t:TypeId}{x:Operand}{b:Bool}(hx:zd F x=.bool b)(k:Q (upd F d (.bool (!b))) s):OpW P I ⟨d,.unOp .not t x,ty,pos,af,g⟩ F s Q:=zA (by simp only[zh,unM,hx];rfl) k
def yy(n:Int):Prop:= -9223372036854775808≤n∧n≤9223372036854775807
theorem zgH{n:Int}(h:yy n):Ve n=true:=by
 obtain⟨h1,h2⟩:=h
 cases n with
 |ofNat a=>simp only[Ve];exact aZ (by simp only[eX]at h2;omega)
 |negSucc a=>simp only[Ve];exact aZ O
theorem Yn{n:Int}(h:yy n):IntKind.i64.wrap n=n:=Q6 (zgH h)
theorem YN{n:Int}(h:yy n):jh n=some (.int .i64 n):=by simp only[jh,zgH h]
theorem xX{t:TypeId}{x y:Operand}{e:TypeId}{a b:Int}(hx:zd F x=.int .i64 a)(c:zd F y=.int .i64 b)(h:yy (a+b))(k:Q (upd F d (.int .i64 (a+b))) s):OpW P I ⟨d,.binOp .add t x y e,ty,pos,af,g⟩ F s Q:=
 zA (by simp only[zh,qO,hx,c,qY,yW,YN h];rfl) k
theorem wa{t:TypeId}{x y:Operand}{e:TypeId}{a b:Int}(hx:zd F x=.int .i64 a)(c:zd F y=.int .i64 b)(h:yy (a-b))(k:Q (upd F d (.int .i64 (a-b))) s):OpW P I ⟨d,.binOp .sub t x y e,ty,pos,af,g⟩ F s Q:=
 zA (by simp only[zh,qO,hx,c,qY,yW,YN h];rfl) k
theorem qd(a b:Int):ile a b=decide (a≤b):=by
 cases a<;>cases b<;>simp only[ile]<;>rw[Bool.eq_iff_iff]<;>simp only[Nat.ble_eq,aB]<;>(try simp only[eX])<;>(try constructor)<;>(try intro)<;>(try omega)<;>simp_all<;>omega
theorem q6(a b:Int):ieq a b=decide (a=b):=by
 cases a<;>cases b<;>simp only[ieq]<;>rw[Bool.eq_iff_iff]<;>simp only[Nat.beq_eq,aB]<;>(try simp only[eX])<;>(try constructor)<;>(try intro)<;>(try omega)<;>simp_all
theorem kA{t:TypeId}{x y:Operand}{i:TypeId}{a b:Int}(hx:zd F x=.int .i64 a)(c:zd F y=.int .i64 b)(f:a<b→Q (upd F d (.bool true)) s)(e:¬(a<b)→Q (upd F d (.bool false)) s):OpW P I ⟨d,.binOp .lss t x y i,ty,pos,af,g⟩ F s Q:=by
 by_cases h:a<b
 ·refine zA (v:=.bool true) (s':=s) ?_ (f h)
  have:(!(ile b a))=true:=by simp only[qd,q6,bC,aB,bR];omega
  simp only[zh,qO,hx,c,qY,yW,this];rfl
 ·refine zA (v:=.bool false) (s':=s) ?_ (e h)
  have:(!(ile b a))=false:=by simp only[qd,q6,eY,aB,bR];omega
  simp only[zh,qO,hx,c,qY,yW,this];rfl
theorem op_leq{t:TypeId}{x y:Operand}{i:TypeId}{a b:Int}(hx:zd F x=.int .i64 a)(c:zd F y=.int .i64 b)(f:a≤b→Q (upd F d (.bool true)) s)(e:¬(a≤b)→Q (upd F d (.bool false)) s):OpW P I ⟨d,.binOp .leq t x y i,ty,pos,af,g⟩ F s Q:=by
 by_cases h:a≤b
 ·refine zA (v:=.bool true) (s':=s) ?_ (f h)
  have:(ile a b)=true:=by simp only[qd,q6,bC,aB,bR];omega
  simp only[zh,qO,hx,c,qY,yW,this];rfl
 ·refine zA (v:=.bool false) (s':=s) ?_ (e h)
  have:(ile a b)=false:=by simp only[qd,q6,eY,aB,bR];omega
  simp only[zh,qO,hx,c,qY,yW,this];rfl
theorem J6{t:TypeId}{x y:Operand}{i:TypeId}{a b:Int}(hx:zd F x=.int .i64 a)(c:zd F y=.int .i64 b)(f:b<a→Q (upd F d (.bool true)) s)(e:¬(b<a)→Q (upd F d (.bool false)) s):OpW P I ⟨d,.binOp .gtr t x y i,ty,pos,af,g⟩ F s Q:=by
 by_cases h:b<a
 ·refine zA (v:=.bool true) (s':=s) ?_ (f h)
  have:(!(ile a b))=true:=by simp only[qd,q6,bC,aB,bR];omega
  simp only[zh,qO,hx,c,qY,yW,this];rfl
 ·refine zA (v:=.bool false) (s':=s) ?_ (e h)
  have:(!(ile a b))=false:=by simp only[qd,q6,eY,aB,bR];omega
  simp only[zh,qO,hx,c,qY,yW,this];rfl
theorem op_geq{t:TypeId}{x y:Operand}{i:TypeId}{a b:Int}(hx:zd F x=.int .i64 a)(c:zd F y=.int .i64 b)(f:b≤a→Q (upd F d (.bool true)) s)(e:¬(b≤a)→Q (upd F d (.bool false)) s):OpW P I ⟨d,.binOp .geq t x y i,ty,pos,af,g⟩ F s Q:=by
 by_cases h:b≤a
 ·refine zA (v:=.bool true) (s':=s) ?_ (f h)
  have:(ile b a)=true:=by simp only[qd,q6,bC,aB,bR];omega
  simp only[zh,qO,hx,c,qY,yW,this];rfl
 ·refine zA (v:=.bool false) (s':=s) ?_ (e h)
  have:(ile b a)=false:=by simp only[qd,q6,eY,aB,bR];omega
  simp only[zh,qO,hx,c,qY,yW,this];rfl
theorem Xl{t:TypeId}{x y:Operand}{i:TypeId}{a b:Int}(hx:zd F x=.int .i64 a)(c:zd F y=.int .i64 b)(f:a=b→Q (upd F d (.bool true)) s)(e:¬(a=b)→Q (upd F d (.bool false)) s):OpW P I ⟨d,.binOp .eql t x y i,ty,pos,af,g⟩ F s Q:=by
 by_cases h:a=b
 ·refine zA (v:=.bool true) (s':=s) ?_ (f h)
  have:(ieq a b)=true:=by simp only[qd,q6,bC,aB,bR];omega
  simp only[zh,qO,hx,c,qY,yW,this];rfl
 ·refine zA (v:=.bool false) (s':=s) ?_ (e h)
  have:(ieq a b)=false:=by simp only[qd,q6,eY,aB,bR];omega
  simp only[zh,qO,hx,c,qY,yW,this];rfl
theorem op_neq{t:TypeId}{x y:Operand}{i:TypeId}{a b:Int}(hx:zd F x=.int .i64 a)(c:zd F y=.int .i64 b)(f:a≠b→Q (upd F d (.bool true)) s)(e:¬(a≠b)→Q (upd F d (.bool false)) s):OpW P I ⟨d,.binOp .neq t x y i,ty,pos,af,g⟩ F s Q:=by
 by_cases h:a≠b
 ·refine zA (v:=.bool true) (s':=s) ?_ (f h)
  have:(!(ieq a b))=true:=by simp only[qd,q6,bC,aB,bR];omega
  simp only[zh,qO,hx,c,qY,yW,this];rfl
 ·refine zA (v:=.bool false) (s':=s) ?_ (e h)
  have:(!(ieq a b))=false:=by simp only[qd,q6,eY,aB,bR];omega
  simp only[zh,qO,hx,c,qY,yW,this];rfl
def bitsI(f:BitVec 64→BitVec 64→BitVec 64)(a b:Int):Int:=IntKind.i64.wrap ((f (BitVec.ofInt 64 a) (BitVec.ofInt 64 b)).toNat:Int)
def zdq(a b:Int):Int:=bitsI (fun x y=>x &&& y) a b
def orI(a b:Int):Int:=bitsI (fun x y=>x |||y) a b
theorem yc{t:TypeId}{x:Operand}{b off:Nat}{c:List Value}{e:TypeId}{v:Value}(hs:zV P t=some none)(hx:zd F x=.pointer (some ⟨b,off,none⟩))(hg:s.get b=some (.cells c e))(hc:zF c off=some v)
 (k:Q (upd F d v) s):OpW P I ⟨d,.load t x,ty,pos,af,g⟩ F s Q:=
 zA (by simp only[zh,uF,vY,hx,hg,hs,jk,hc];rfl) k
theorem qr{t:TypeId}{x:Operand}{b off n:Nat}{c:List Value}{e:TypeId}{l:List Value}(hs:zV P t=some (some n))(hx:zd F x=.pointer (some ⟨b,off,none⟩))(hg:s.get b=some (.cells c e))(hc:y8 n (xw off c)=some l)
 (k:Q (upd F d (.agg ⟨l⟩)) s):OpW P I ⟨d,.load t x,ty,pos,af,g⟩ F s Q:=
 zA (by simp only[zh,uF,vY,hx,hg,hs,jk,hc];rfl) k
theorem zy{t:TypeId}{x:Operand}{f b off n:Nat}(hf:ZI P t f=some n)(hx:zd F x=.pointer (some ⟨b,off,none⟩))(k:Q (upd F d (.pointer (some ⟨b,off+n,none⟩))) s):OpW P I ⟨d,.fieldAddr t x f,ty,pos,af,g⟩ F s Q:=
 zA (by simp only[zh,jj,hx,hf];rfl) k
theorem z7{t:TypeId}{x i:Operand}{b off len cap z sz:Nat}{kd:IntKind}{a:Int}(he:wF P t=some (true,z,sz))(hx:zd F x=.slice (some ⟨b,off,none⟩) len cap)(hi:zd F i=.int kd a)(h0:0≤a)(h1:a<len)
 (k:Q (upd F d (.pointer (some ⟨b,off+a.toNat*sz,none⟩))) s):OpW P I ⟨d,.indexAddr t x i,ty,pos,af,g⟩ F s Q:=by
 obtain⟨n,rfl⟩:=Int.eq_ofNat_of_zero_le h0
 have hb:Nat.blt n len=true:=wM O
 refine zA (v:=.pointer (some ⟨b,off+n*sz,none⟩)) (s':=s) ?_ k
 simp only[zh,kU,hi,he,hx]
 show xn n len b off sz s=_
 simp only[xn,hb]
 rfl
theorem jA{t:TypeId}{x i:Operand}{b off len sz:Nat}{kd:IntKind}{a:Int}(he:wF P t=some (false,len,sz))(hx:zd F x=.pointer (some ⟨b,off,none⟩))(hi:zd F i=.int kd a)(h0:0≤a)(h1:a<len)
 (k:Q (upd F d (.pointer (some ⟨b,off+a.toNat*sz,none⟩))) s):OpW P I ⟨d,.indexAddr t x i,ty,pos,af,g⟩ F s Q:=by
 obtain⟨n,rfl⟩:=Int.eq_ofNat_of_zero_le h0
 have hb:Nat.blt n len=true:=wM O
 refine zA (v:=.pointer (some ⟨b,off+n*sz,none⟩)) (s':=s) ?_ k
 simp only[zh,kU,hi,he,hx]
 show xn n len b off sz s=_
 simp only[xn,hb]
 rfl
theorem yB{x:Operand}{i:Nat}{vs:Array Value}{v:Value}(hx:zd F x=.tuple vs)(hv:zF vs.toList i=some v)(k:Q (upd F d v) s):OpW P I ⟨d,.extract x i,ty,pos,af,g⟩ F s Q:=
 zA (by simp only[zh,vB,hx,hv];rfl) k
theorem XV{fn:Fn}{a b:Array Operand}(k:Q (upd F d (.func fn ⟨qB (zd F) a.toList⟩ ⟨qB (zd F) b.toList⟩)) s)(hk:zcv fn=false:=by rfl):OpW P I ⟨d,.makeFunc fn a b,ty,pos,af,g⟩ F s Q:=zA (by simp only[zh,hk];rfl) k
theorem qX{b:Array Operand}{ts:Array TypeId}{t e:TypeId}{tr:List TypeId}{x:Operand}{a:Option Addr}{n c:Nat}(hu:P.underlying t=some (.slice e))(f:ts.toList=t::tr)(ha:b.toList=[x])(hx:zd F x=.slice a n c)
 (k:Q (upd F d (.int .i64 (n:Int))) s):OpW P I ⟨d,.call ⟨.builtin .len,b,ts⟩,ty,pos,af,g⟩ F s Q:=
 zA (v:=.int .i64 (n:Int)) (s':=s) (by simp only[zh,xp,Vc,f,ha,qB,hu,hx];rfl) k
theorem op_min{c:Array Operand}{ts:Array TypeId}{x y:Operand}{a b:Int}(ha:c.toList=[x,y])(hx:zd F x=.int .i64 a)(e:zd F y=.int .i64 b)
 (k:Q (upd F d (.int .i64 (min a b))) s):OpW P I ⟨d,.call ⟨.builtin .min,c,ts⟩,ty,pos,af,g⟩ F s Q:=by
 refine zA (v:=.int .i64 (min a b)) (s':=s) ?_ k
 simp only[zh,xp,ha,qB,hx,e,minM,qd]
 by_cases h:a≤b
 ·simp only[h,decide_true,Int.min_eq_left h];rfl
 ·simp only[h,dU,show min a b=b by omega];rfl
theorem op_max{c:Array Operand}{ts:Array TypeId}{x y:Operand}{a b:Int}(ha:c.toList=[x,y])(hx:zd F x=.int .i64 a)(e:zd F y=.int .i64 b)
 (k:Q (upd F d (.int .i64 (max a b))) s):OpW P I ⟨d,.call ⟨.builtin .max,c,ts⟩,ty,pos,af,g⟩ F s Q:=by
 refine zA (v:=.int .i64 (max a b)) (s':=s) ?_ k
 simp only[zh,xp,ha,qB,hx,e,maxM,qd]
 by_cases h:b≤a
 ·simp only[h,decide_true,Int.max_eq_left h];rfl
 ·simp only[h,dU,show max a b=b by omega];rfl
theorem ym{e:Array Operand}{ts:Array TypeId}{f:Operand}{n:FuncId}{a b:Array Value}{args:Array Value}(hf:zd F f=.func (.func n) a b)(hb:xH P n=true)(ha:(⟨a.toList++qB (zd F) e.toList++b.toList⟩:Array Value)=args)
 (h:∃v s',vo P I n args s v s'∧Q (upd F d v) s') (c:Nat.ble zu n=false:=by exact rfl):OpW P I ⟨d,.call ⟨.value f,e,ts⟩,ty,pos,af,g⟩ F s Q:=
 op_enter (f:=n) (args:=args) (s₁:=s) (by simp only[zh,jL,hf,hb,←ha]) h c
variable{W:List Nat}{s0:St}{L:Hp'}{n:Nat}
def jn(P:Program)(t:TypeId):Option (List Value):=
 match zfK P t,P.info? t with
 |true,some i=>match i.zero with
  |some z=>some (yp z)
  |none=>none
 |_,_=>none
theorem xW{e:TypeId}{c:List Value}(H:HL W s0 s L n)(f:jn P e=some c)(j:s0.next+n<zw)
 (k:∀b s',HL W s0 s' ((b,.cells c e)::L) (n+1)→Q (upd F d (.pointer (some ⟨b,0,none⟩))) s'):OpW P I ⟨d,.alloc e,ty,pos,af,g⟩ F s Q:=by
 refine zA (v:=.pointer (some ⟨s.next,0,none⟩)) (s':=s.new (.cells c e)) ?_ (k _ _ (H.new _ j))
 have a:=H.room j
 simp only[jn]at f
 split at f
 ·next i hb hi=>
  split at f
  ·next z h=>
   cases f
   simp only[zh,hb,wW,gM,hi,h,XH,a]
   rfl
  ·cases f
 ·cases f
theorem KO{e:TypeId}{x:Operand}{c:List Value}(H:HL W s0 s L n)(hc:yp (zd F x)=c)(f:s0.next+n<zw)
 (k:∀b s',HL W s0 s' ((b,.cells c e)::L) (n+1)→Q (upd F d (.pointer (some ⟨b,0,none⟩))) s'):OpW P I ⟨d,.box e x,ty,pos,af,g⟩ F s Q:=by
 refine zA (v:=.pointer (some ⟨s.next,0,none⟩)) (s':=s.new (.cells c e)) ?_ (k _ _ (H.new _ f))
 have a:=H.room f
 simp only[zh,XH,a,hc]
 rfl
theorem QH{e:TypeId}{x:Operand}{l:List Value}(H:HL W s0 s L n)(hx:zd F x=.agg ⟨l⟩)(a:s0.next+n<zw)
 (k:∀b s',HL W s0 s' ((b,.cells l e)::L) (n+1)→Q (upd F d (.pointer (some ⟨b,0,none⟩))) s'):OpW P I ⟨d,.box e x,ty,pos,af,g⟩ F s Q:=KO H (by rw[hx];rfl) a k
theorem zgn{e:TypeId}{x:Operand}{kd:IntKind}{a:Int}(H:HL W s0 s L n)(hx:zd F x=.int kd a)(c:s0.next+n<zw)
 (k:∀b s',HL W s0 s' ((b,.cells [.int kd a] e)::L) (n+1)→Q (upd F d (.pointer (some ⟨b,0,none⟩))) s'):OpW P I ⟨d,.box e x,ty,pos,af,g⟩ F s Q:=KO H (by rw[hx];rfl) c k
theorem op_boxP{e:TypeId}{x:Operand}{a:Option Addr}(H:HL W s0 s L n)(hx:zd F x=.pointer a)(c:s0.next+n<zw)
 (k:∀b s',HL W s0 s' ((b,.cells [.pointer a] e)::L) (n+1)→Q (upd F d (.pointer (some ⟨b,0,none⟩))) s'):OpW P I ⟨d,.box e x,ty,pos,af,g⟩ F s Q:=KO H (by rw[hx];rfl) c k
def qZ(P:Program)(t:TypeId):Option Nat:=(P.info? t).map (·.size)
theorem kg{t:TypeId}{x v:Operand}{b off sz:Nat}{c c':List Value}{e:TypeId}{vs:List Value}(hs:qZ P t=some sz)(hx:zd F x=.pointer (some ⟨b,off,none⟩))(hv:yp (zd F v)=vs)
 (hl:Nat.beq (yD vs 0) sz=true) (hp:vs.all plainCell=true) (hg:s.get b=some (.cells c e)) (a:s.may b=true) (hc:yO off vs c=some c'):zh P (zd F) (.store t x v) s=.ok .skip (s.put b (some (.cells c' e))):=by
 simp only[qZ]at hs
 cases hi:P.info? t with
 |none=>rw[hi]at hs;cases hs
 |some i=>
  rw[hi]at hs
  simp only[cP,bF]at hs
  simp only[zh,Xb,hx,hi,hv,hs,hl,xy,hg,hp,a,Bool.and_self,hc]
theorem xu{t:TypeId}{x v:Operand}{b off sz:Nat}{c c':List Value}{e:TypeId}{vs:List Value}(H:HL W s0 s ((b,.cells c e)::L) n)(hs:qZ P t=some sz)(hx:zd F x=.pointer (some ⟨b,off,none⟩))(hv:yp (zd F v)=vs)
 (hl:Nat.beq (yD vs 0) sz=true) (hp:vs.all plainCell=true) (hc:yO off vs c=some c') (a:s0.next+n≤zw) (k:∀s',HL W s0 s' ((b,.cells c' e)::L) n→Q (upd F d undef) s'):OpW P I ⟨d,.store t x v,ty,pos,af,g⟩ F s Q:=
 wT (kg hs hx hv hl hp H.own0 (H.own (b,.cells c e) Y8).2.2.1 hc) (k _ (H.put0 _ a))
theorem WP{a p1 p2:Nat×MObj}{t:TypeId}{x v:Operand}{b off sz:Nat}{c c':List Value}{e:TypeId}{vs:List Value}(H:HL W s0 s (a::p1::p2::(b,.cells c e)::L) n)(hs:qZ P t=some sz)(hx:zd F x=.pointer (some ⟨b,off,none⟩))(hv:yp (zd F v)=vs)
 (hl:Nat.beq (yD vs 0) sz=true) (hp:vs.all plainCell=true) (hc:yO off vs c=some c') (f:s0.next+n≤zw) (k:∀s',HL W s0 s' (a::p1::p2::(b,.cells c' e)::L) n→Q (upd F d undef) s'):OpW P I ⟨d,.store t x v,ty,pos,af,g⟩ F s Q:=
 wT (kg hs hx hv hl hp H.own3 (H.own (b,.cells c e) Y8).2.2.1 hc) (k _ (H.put3 _ f))
theorem WO{a p1 p2 f:Nat×MObj}{t:TypeId}{x v:Operand}{b off sz:Nat}{c c':List Value}{e:TypeId}{vs:List Value}(H:HL W s0 s (a::p1::p2::f::(b,.cells c e)::L) n)(hs:qZ P t=some sz)(hx:zd F x=.pointer (some ⟨b,off,none⟩))(hv:yp (zd F v)=vs)
 (hl:Nat.beq (yD vs 0) sz=true) (hp:vs.all plainCell=true) (hc:yO off vs c=some c') (h:s0.next+n≤zw) (k:∀s',HL W s0 s' (a::p1::p2::f::(b,.cells c' e)::L) n→Q (upd F d undef) s'):OpW P I ⟨d,.store t x v,ty,pos,af,g⟩ F s Q:=
 wT (kg hs hx hv hl hp H.own4 (H.own (b,.cells c e) Y8).2.2.1 hc) (k _ (H.put4 _ h))
theorem WN{a p1 p2 f h:Nat×MObj}{t:TypeId}{x v:Operand}{b off sz:Nat}{c c':List Value}{e:TypeId}{vs:List Value}(H:HL W s0 s (a::p1::p2::f::h::(b,.cells c e)::L) n)(hs:qZ P t=some sz)(hx:zd F x=.pointer (some ⟨b,off,none⟩))(hv:yp (zd F v)=vs)
 (hl:Nat.beq (yD vs 0) sz=true) (hp:vs.all plainCell=true) (hc:yO off vs c=some c') (i:s0.next+n≤zw) (k:∀s',HL W s0 s' (a::p1::p2::f::h::(b,.cells c' e)::L) n→Q (upd F d undef) s'):OpW P I ⟨d,.store t x v,ty,pos,af,g⟩ F s Q:=
 wT (kg hs hx hv hl hp H.own5 (H.own (b,.cells c e) Y8).2.2.1 hc) (k _ (H.put5 _ i))
end
end Go.M
