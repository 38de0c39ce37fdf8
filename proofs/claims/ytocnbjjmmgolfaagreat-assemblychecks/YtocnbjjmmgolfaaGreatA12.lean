/- What is computed with frames that are functions, the abstract machine computes. -/
/- What code comes to, whatever the fuel: rules for proofs about every argument. -/
/- The state as a list of blocks beside what was there; rules for single operations. -/
/- Rules for operations that make slices and structs; maps; drawn regions. -/
/- Bits of numbers. -/
/- More rules: results in cells; slices that a function owns. -/
/- Loops over functions, for every argument: a round, the loop. -/
import Derived.Test.YtocnbjjmmgolfaaGreatA11
namespace Go.M
section
variable{P:Program}{ρ ρ':Operand→Value}{s:St}
theorem mapL_congr{l:List Operand}(h:∀x∈l,ρ x=ρ' x):yw ρ l=yw ρ' l:=by
 induction l with
 |nil=>rfl
 |cons x l ih=>simp only[yw];rw[h x Y8,ih fun y hy=>h y (by simp[hy])]
theorem fillL_congr{place:Nat→Option (Nat×Nat)}:∀{l:List (Nat×Operand)} {c:List Value},(∀p∈l,ρ p.2=ρ' p.2)→xZ place ρ l c=xZ place ρ' l c
 | [],_,_=>rfl
 |(i,x)::l,c,h=>by
  have e:∀c,xZ place ρ l c=xZ place ρ' l c:=fun c=>fillL_congr fun p hp=>h p (List.mem_cons_of_mem _ hp)
  have hx:ρ x=ρ' x:=h (i,x) Y8
  simp only[xZ,e,hx]
theorem optMap_congr{o:Option Operand}(h:∀x,o=some x→ρ x=ρ' x):o.map ρ=o.map ρ':=by
 cases o with
 |none=>rfl
 |some x=>simp[h x rfl]
theorem stepM_congr(o:Op)(h:∀x∈o.operands.toList,ρ x=ρ' x):zh P ρ o s=zh P ρ' o s:=by
 cases o with
 |move x=>simp only[zh];rw[h x Y5]
 |assign x=>simp only[zh];rw[h x Y5]
 |pick c a b=>simp only[zh];rw[h c Y5,h a Y5,h b Y5]
 |load t a=>simp only[zh];rw[h a Y5]
 |store t a v=>simp only[zh];rw[h a Y5,h v Y5]
 |box e x=>simp only[zh];rw[h x Y5]
 |alloc e=>rfl
 |fieldAddr t x f=>simp only[zh];rw[h x Y5]
 |indexAddr t x i=>simp only[zh];rw[h x Y5,h i Y5]
 |binOp op t x y yt=>simp only[zh];rw[h x Y5,h y Y5]
 |unOp op t x=>simp only[zh];rw[h x Y5]
 |extract x i=>simp only[zh];rw[h x Y5]
 |nilCheck x=>simp only[zh];rw[h x Y5]
 |sliceToArrayPointer t x=>simp only[zh];rw[h x Y5]
 |convert src dst x=>simp only[zh];rw[h x Y5]
 |makeInterface t x=>simp only[zh];rw[h x Y5]
 |makeFunc fn first captured=>
  simp only[zh]
  rw[mapL_congr (l:=first.toList) fun x hx=>h x (by simp[Op.operands];exact .inl (by simpa using hx)),mapL_congr (l:=captured.toList) fun x hx=>h x (by simp[Op.operands];exact .inr (by simpa using hx))]
 |makeMap t r=>cases r<;>rfl
 |slice t x lo hi mx=>
  simp only[zh]
  rw[h x Y5,optMap_congr (o:=lo) fun x hx=>h x (by simp[Op.operands,hx]),optMap_congr (o:=hi) fun x hx=>h x (by simp[Op.operands,hx]),optMap_congr (o:=mx) fun x hx=>h x (by simp[Op.operands,hx])]
 |field t x f=>simp only[zh];rw[h x Y5]
 |index t x i=>simp only[zh];rw[h x Y5,h i Y5]
 |panic x=>simp only[zh];rw[h x Y5]
 |call c=>
  obtain⟨callee,args,argTypes⟩:=c
  cases callee with
  |value f=>
   simp only[zh]
   rw[h f (by simp[Op.operands,Call.operands]),mapL_congr (l:=args.toList) fun x hx=>h x (by simp[Op.operands,Call.operands];exact .inr (by simpa using hx))]
  |builtin b=>
   simp only[zh]
   rw[mapL_congr (l:=args.toList) fun x hx=>h x (by simp[Op.operands,Call.operands];simpa using hx)]
  |invoke r m=>rfl
 |build t parts=>
  have hp:∀p∈parts.toList,ρ p.2=ρ' p.2:=fun p hp=>h p.2 V7
  simp only[zh,buildM]
  have e:∀place c,xZ place ρ parts.toList c=xZ place ρ' parts.toList c:=fun place c=>fillL_congr hp
  simp only[e]
 |buildSlice t len parts=>
  have hp:∀p∈parts.toList,ρ p.2=ρ' p.2:=fun p hp=>h p.2 V7
  simp only[zh,xE]
  have e:∀place c,xZ place ρ parts.toList c=xZ place ρ' parts.toList c:=fun place c=>fillL_congr hp
  simp only[e]
 |makeSlice t l c=>simp only[zh];rw[h l Y5,h c Y5]
 |lookup t x i ok=>simp only[zh];rw[h x Y5,h i Y5]
 |mapUpdate t m k x=>simp only[zh];rw[h m Y5,h k Y5,h x Y5]
 |insert t m k x=>simp only[zh];rw[h m Y5,h k Y5,h x Y5]
 |_=>rfl
end
def SimOut(N:Nat):FOut→Out→Prop
 | .normal F s,.normal a s'=>s'=s∧Agrees N F a
 | .exit id F s,.exit id' a s'=>id'=id∧s'=s∧Agrees N F a
 | .ret F s,.ret a s'=>s'=s∧Agrees N F a
 | .stuck,_=>True
 |_,_=>False
section
variable{P:Program}{call:FuncId→Array Value→St→CallOut}{N:Nat}
theorem wanted_sim{ops:List Oper}{F:FF}{a:Fr}{o:Oper}(h:Agrees N F a)(hg:guardN N ops o=true):yT ops a o=yq ops F o:=by
 unfold yT yq
 unfold guardN at hg
 have hg:=(Bool.and_eq_true_iff.mp hg).1
 unfold guardN0 at hg
 cases hgu:o.guard with
 |none=>rfl
 |some g=>
  rw[hgu]at hg
  simp only at hg ⊢
  cases hq:zM ops g.1 with
  |none=>rfl
  |some q=>
   rw[hq]at hg
   simp only at hg ⊢
   cases hd:q.dst with
   |none=>rfl
   |some d=>
    rw[hd]at hg
    simp only at hg ⊢
    rw[h.get d (Nat.le_of_ble_eq_true hg)]
    rfl
theorem op_sim{F:FF}{a:Fr}{o:Oper}{s:St}(h:Agrees N F a)(ho:o.op.operands.toList.all (tmpB N)=true):SimOut N (opF P call o F s) (opM P call o a s):=by
 have e:zh P a.eval o.op s=zh P (ze F) o.op s:=stepM_congr o.op fun x hx=>h.eval (by rw[List.all_eq_true]at ho;exact ho x hx)
 unfold opF opM
 rw[e]
 cases zh P (ze F) o.op s with
 |stuck=>trivial
 |panic v s=>trivial
 |ok n s=>
  cases n with
  |value v=>exact⟨rfl,h.put _ _⟩
  |skip=>exact⟨rfl,h.put _ _⟩
  |enter f args=>
   simp only
   cases Nat.ble zo f with
   |true=>trivial
   |false=>
    simp only
    cases call f args s with
    |ret v s=>exact⟨rfl,h.put _ _⟩
    |panic c s=>trivial
    |stuck=>trivial
  |round b k args x y=>
   simp only
   cases call (zo+b) args s with
   |ret v s=>exact⟨rfl,h.put _ _⟩
   |panic c s=>trivial
   |stuck=>trivial
  |_=>trivial
theorem ops_sim(ops:List Oper):∀(l:List Oper) (F:FF) (a:Fr) (s:St),(l.all fun o=>o.op.operands.toList.all (tmpB N)&&guardN N ops o)=true→Agrees N F a→SimOut N (opsF P call ops l F s) (opsM P call ops l a s)
 | [],F,a,s,_,h=>⟨rfl,h⟩
 |o::l,F,a,s,hl,h=>by
  simp only[List.all_cons,Bool.and_eq_true]at hl
  have hl2:(l.all fun o=>o.op.operands.toList.all (tmpB N)&&guardN N ops o)=true:=by simpa using hl.2
  simp only[opsF,opsM]
  rw[wanted_sim h hl.1.2]
  cases yq ops F o with
  |false=>exact ops_sim ops l _ _ s hl2 (h.put _ _)
  |true=>
   have h1:=op_sim (P:=P) (call:=call) (s:=s) h hl.1.1
   simp only
   cases hf:opF P call o F s with
   |normal F₁ s₁=>
    rw[hf]at h1
    cases hm:opM P call o a s with
    |normal a₁ s₂=>
     rw[hm]at h1
     obtain⟨rfl,h2⟩:=h1
     exact ops_sim ops l F₁ a₁ _ hl2 h2
    |_=>rw[hm]at h1;exact h1.elim
   |_=>trivial
theorem block_sim{F:FF}{a:Fr}{o:Oper}(h:Agrees N F a)(ho:o.op.operands.toList.all (tmpB N)=true)(ha:allocN N o=true):yK a o=yp F o:=by
 unfold yK yp
 cases hop:o.op with
 |load t x=>
  simp only
  rw[h.eval (by rw[List.all_eq_true]at ho;exact ho x (by rw[hop];simp[Op.operands]))]
  rfl
 |slice t x lo hi mx=>
  cases mx with
  |none=>
   simp only
   rw[h.eval (by rw[List.all_eq_true]at ho;exact ho x (by rw[hop];simp[Op.operands]))]
   rfl
  |some m=>rfl
 |alloc t=>
  simp only
  unfold allocN at ha
  rw[hop]at ha
  cases hd:o.dst with
  |none=>rfl
  |some u=>
   rw[hd]at ha
   simp only at ha ⊢
   rw[h.get u (Nat.blt_eq.mp ha)]
   rfl
 |buildSlice t n parts=>
  simp only
  unfold allocN at ha
  rw[hop]at ha
  cases hd:o.dst with
  |none=>rfl
  |some u=>
   rw[hd]at ha
   simp only at ha ⊢
   rw[h.get u (Nat.blt_eq.mp ha)]
   rfl
 |_=>rfl
theorem blocks_sim{ops:List Oper}{F:FF}{a:Fr}(h:Agrees N F a)(ho:∀o∈ops,o.op.operands.toList.all (tmpB N)=true∧allocN N o=true):∀l,yh ops a l=yo ops F l
 | []=>rfl
 |i::l=>by
  simp only[yh,yo]
  cases hg:zM ops i with
  |none=>exact blocks_sim h ho l
  |some o=>
   simp only
   rw[block_sim h (ho o (by rw[zC]at hg;exact List.mem_of_getElem? hg)).1 (ho o (by rw[zC]at hg;exact List.mem_of_getElem? hg)).2,blocks_sim h ho l]
   rfl
theorem drawOp_sim{ops:List Oper}(ho:∀o∈ops,o.op.operands.toList.all (tmpB N)=true∧guardN N ops o=true){d:Drawn}{o:Oper}(hmem:o∈ops){F:FF}{a:Fr}{s:St}(h:Agrees N F a) :
  SimOut N (drawOpF P call ops d o F s) (yd P call ops d o a s):=by
 unfold drawOpF yd
 rw[wanted_sim h (ho o hmem).2]
 cases yq ops F o with
 |false=>exact⟨rfl,h.put _ _⟩
 |true=>
  simp only
  cases d.how with
  |light=>
   simp only
   rw[block_sim h (ho o hmem).1 (Bool.and_eq_true_iff.mp (ho o hmem).2).2]
   have h1:=op_sim (P:=P) (call:=call) (s:={next:=s.next,bar:=s.next,prot:=[],heap:=only s (yp F o)}) h (ho o hmem).1
   cases hf:opF P call o F {next:=s.next,bar:=s.next,prot:=[],heap:=only s (yp F o)}with
   |normal F₁ s₁=>
    rw[hf]at h1
    cases hm:opM P call o a {next:=s.next,bar:=s.next,prot:=[],heap:=only s (yp F o)}with
    |normal a₁ s₂=>
     rw[hm]at h1
     obtain⟨rfl,h2⟩:=h1
     simp only
     cases Nat.beq s₂.next s.next with
     |true=>exact⟨rfl,h2⟩
     |false=>trivial
    |_=>rw[hm]at h1;exact h1.elim
   |_=>trivial
  |whole=>
   simp only
   rw[blocks_sim h (fun o hm=>⟨(ho o hm).1,(Bool.and_eq_true_iff.mp (ho o hm).2).2⟩)]
   have h1:=op_sim (P:=P) (call:=call) (s:={s with prot:=yo ops F d.free++s.prot}) h (ho o hmem).1
   cases hf:opF P call o F {s with prot:=yo ops F d.free++s.prot}with
   |normal F₁ s₁=>
    rw[hf]at h1
    cases hm:opM P call o a {s with prot:=yo ops F d.free++s.prot}with
    |normal a₁ s₂=>
     rw[hm]at h1
     obtain⟨rfl,h2⟩:=h1
     exact⟨J,h2⟩
    |_=>rw[hm]at h1;exact h1.elim
   |_=>trivial
  |fresh=>
   simp only
   have h1:=op_sim (P:=P) (call:=call) (s:={s with bar:=s.next}) h (ho o hmem).1
   cases hf:opF P call o F {s with bar:=s.next}with
   |normal F₁ s₁=>
    rw[hf]at h1
    cases hm:opM P call o a {s with bar:=s.next}with
    |normal a₁ s₂=>
     rw[hm]at h1
     obtain⟨rfl,h2⟩:=h1
     exact⟨J,h2⟩
    |_=>rw[hm]at h1;exact h1.elim
   |_=>trivial
  |new=>
   simp only
   have h1:=op_sim (P:=P) (call:=call) (s:={next:=s.next,bar:=s.next,prot:=[],heap:=.nil}) h (ho o hmem).1
   cases hf:opF P call o F {next:=s.next,bar:=s.next,prot:=[],heap:=.nil}with
   |normal F₁ s₁=>
    rw[hf]at h1
    cases hm:opM P call o a {next:=s.next,bar:=s.next,prot:=[],heap:=.nil}with
    |normal a₁ s₂=>
     rw[hm]at h1
     obtain⟨rfl,h2⟩:=h1
     simp only
     rw[block_sim h2 (ho o hmem).1 (Bool.and_eq_true_iff.mp (ho o hmem).2).2]
     cases Nat.beq s₂.next (s.next+1)&&s.room with
     |false=>trivial
     |true=>
      cases yp F₁ o with
      |none=>trivial
      |some b=>
       cases s₂.get s.next with
       |none=>trivial
       |some ob=>
        simp only
        cases Nat.beq b s.next with
        |true=>exact⟨rfl,h2⟩
        |false=>trivial
    |_=>rw[hm]at h1;exact h1.elim
   |_=>trivial
theorem draw_sim{ops:List Oper}(ho:∀o∈ops,o.op.operands.toList.all (tmpB N)=true∧guardN N ops o=true):∀(l:List Drawn) (F:FF) (a:Fr) (s:St),Agrees N F a→SimOut N (drawF P call ops l F s) (drawM P call ops l a s)
 | [],F,a,s,h=>⟨rfl,h⟩
 |d::l,F,a,s,h=>by
  simp only[drawF,drawM]
  cases hg:zM ops d.ix with
  |none=>trivial
  |some o=>
   simp only
   have h1:=drawOp_sim (P:=P) (call:=call) ho (d:=d) (o:=o) (by rw[zC]at hg;exact List.mem_of_getElem? hg) (s:=s) h
   cases hf:drawOpF P call ops d o F s with
   |normal F₁ s₁=>
    rw[hf]at h1
    cases hm:yd P call ops d o a s with
    |normal a₁ s₂=>
     rw[hm]at h1
     obtain⟨rfl,h2⟩:=h1
     exact draw_sim ho l F₁ a₁ _ h2
    |_=>rw[hm]at h1;exact h1.elim
   |_=>trivial
theorem xC{I:zT}:∀(n:Nat) (c:Code) (F:FF) (a:Fr) (s:St),xo N c=true→Agrees N F a→SimOut N (yz P I N n c F s) (zD P I n c a s)
 |0,_,_,_,_,_,_=>trivial
 |n+1,c,F,a,s,hc,h=>by
  cases c with
  |skip=>exact⟨rfl,h⟩
  |label _=>exact⟨rfl,h⟩
  |exit id=>exact⟨rfl,rfl,h⟩
  |ret=>exact⟨rfl,h⟩
  |seq x y=>
   simp only[xo,Bool.and_eq_true]at hc
   have h1:=xC (I:=I) n x F a s hc.1 h
   simp only[yz,zD]
   cases hf:yz P I N n x F s with
   |normal F₁ s₁=>
    rw[hf]at h1
    cases hm:zD P I n x a s with
    |normal a₁ s₂=>
     rw[hm]at h1
     obtain⟨rfl,h2⟩:=h1
     exact xC n y F₁ a₁ _ hc.2 h2
    |_=>rw[hm]at h1;exact h1.elim
   |exit id F₁ s₁=>
    rw[hf]at h1
    cases hm:zD P I n x a s with
    |exit id' a₁ s₂=>rw[hm]at h1;exact h1
    |_=>rw[hm]at h1;exact h1.elim
   |ret F₁ s₁=>
    rw[hf]at h1
    cases hm:zD P I n x a s with
    |ret a₁ s₂=>rw[hm]at h1;exact h1
    |_=>rw[hm]at h1;exact h1.elim
   |stuck=>trivial
  |cond x y z=>
   simp only[xo,Bool.and_eq_true]at hc
   simp only[yz,zD]
   rw[h.eval hc.1.1]
   cases ze F x with
   |bool b=>cases b with
    |true=>exact xC n y F a s hc.1.2 h
    |false=>exact xC n z F a s hc.2 h
   |_=>trivial
  |block id b=>
   simp only[xo]at hc
   have h1:=xC (I:=I) n b F a s hc h
   simp only[yz,zD]
   cases hf:yz P I N n b F s with
   |normal F₁ s₁=>
    rw[hf]at h1
    cases hm:zD P I n b a s with
    |normal a₁ s₂=>rw[hm]at h1;exact h1
    |_=>rw[hm]at h1;exact h1.elim
   |exit id₁ F₁ s₁=>
    rw[hf]at h1
    cases hm:zD P I n b a s with
    |exit id' a₁ s₂=>
     rw[hm]at h1
     obtain⟨rfl,rfl,h2⟩:=h1
     simp only
     cases Nat.beq id' id with
     |true=>exact⟨rfl,h2⟩
     |false=>exact⟨rfl,rfl,h2⟩
    |_=>rw[hm]at h1;exact h1.elim
   |ret F₁ s₁=>
    rw[hf]at h1
    cases hm:zD P I n b a s with
    |ret a₁ s₂=>rw[hm]at h1;exact h1
    |_=>rw[hm]at h1;exact h1.elim
   |stuck=>trivial
  |loop b=>
   simp only[xo]at hc
   have h1:=xC (I:=I) n b F a s hc h
   simp only[yz,zD]
   cases hf:yz P I N n b F s with
   |normal F₁ s₁=>
    rw[hf]at h1
    cases hm:zD P I n b a s with
    |normal a₁ s₂=>
     rw[hm]at h1
     obtain⟨rfl,h2⟩:=h1
     exact xC n (.loop b) F₁ a₁ _ (by simpa only[xo]using hc) h2
    |_=>rw[hm]at h1;exact h1.elim
   |exit id F₁ s₁=>
    rw[hf]at h1
    cases hm:zD P I n b a s with
    |exit id' a₁ s₂=>rw[hm]at h1;exact h1
    |_=>rw[hm]at h1;exact h1.elim
   |ret F₁ s₁=>
    rw[hf]at h1
    cases hm:zD P I n b a s with
    |ret a₁ s₂=>rw[hm]at h1;exact h1
    |_=>rw[hm]at h1;exact h1.elim
   |stuck=>trivial
  |region id ops draw=>
   simp only[xo]at hc
   simp only[yz,zD]
   cases draw with
   |false=>exact ops_sim ops.toList ops.toList F a s hc h
   |true=>
    simp only
    cases planB ops.toList (plan ops.toList)with
    |false=>trivial
    |true=>
     refine draw_sim (fun o ho=>?_) _ F a s h
     unfold opsN at hc
     rw[List.all_eq_true]at hc
     simpa using hc o ho
  |scope b=>
   simp only[xo]at hc
   simp only[yz,zD]
   exact xC n b F a s hc h
  |rangeFunc f ps x y=>
   simp only[xo]at hc
   have hg:=frF_agrees F h.small
   simp only[yz,zD,rangeF]
   rw[range_sim (a:=a) (a':=frF F N) (by rw[h.eval hc,hg.eval hc]) (by rw[h.norm,hg.norm])]
   cases xS P I (zD P I n) f ps x y (frF F N) s with
   |normal _ _=>exact⟨rfl,h⟩
   |ret _ _=>exact⟨rfl,h⟩
   |exit _ _ _=>exact⟨rfl,rfl,h⟩
   |_=>trivial
  |_=>trivial
end
end Go.M
namespace Go.M
section
variable(P:Program)(I:zT)
def Rets(f:FuncId)(args:Array Value)(s:St)(v:Value)(s':St):Prop:=∃n,∀m,n≤m→callM P I m f args s=.ret v s'
structure OpW(o:Oper)(F:FF)(s:St)(Q:FF→St→Prop):Prop where
 ex:∃F' s',Q F' s'∧∃n,∀m,n≤m→opF P (callM P I m) o F s=.normal F' s'
def OpsW(ops:List Oper):List Oper→FF→St→(FF→St→Prop)→Prop
 | [],F,s,Q=>Q F s
 |o::rest,F,s,Q=>Bool.rec (motive:=fun _=>Prop) (OpsW ops rest (upd F o.dst undef) s Q) (OpW P I o F s fun F s=>OpsW ops rest F s Q) (yq ops F o)
def xP(ops:List Oper)(l:List Drawn)(F:FF)(s:St)(Q:FF→St→Prop):Prop:=
 ∃F' s',Q F' s'∧∃n,∀m,n≤m→drawF P (callM P I m) ops l F s=.normal F' s'
variable(N:Nat)
def Code0(c:Code)(F:FF)(s:St)(Q:FOut→Prop):Prop:=
 ∃o,Q o∧∃n,∀m,n≤m→yz P I N m c F s=o
def blockQ(id:Nat)(Q:FOut→Prop):FOut→Prop
 | .exit i F s=>match Nat.beq i id with
  |true=>Q (.normal F s)
  |false=>Q (.exit i F s)
 |o=>Q o
def boolOf:Value→Option Bool
 | .bool b=>some b
 |_=>none
theorem boolOf_some{v:Value}{b:Bool}(h:boolOf v=some b):v=.bool b:=by
 unfold boolOf at h
 split at h
 ·cases h;rfl
 ·cases h
def seqK(k:FF→St→Prop)(Q:FOut→Prop):FOut→Prop
 | .normal F s=>k F s
 |o=>Q o
def CodeW:Code→FF→St→(FOut→Prop)→Prop
 | .skip,F,s,Q=>Q (.normal F s)
 | .exit id,F,s,Q=>Q (.exit id F s)
 | .ret,F,s,Q=>Q (.ret F s)
 | .seq x y,F,s,Q=>CodeW x F s (seqK (fun F s=>CodeW y F s Q) Q)
 | .block id b,F,s,Q=>CodeW b F s (blockQ id Q)
 | .scope b,F,s,Q=>CodeW b F s Q
 | .cond c x y,F,s,Q=>Option.rec (motive:=fun _=>Prop) False (fun b=>Bool.rec (motive:=fun _=>Prop) (CodeW y F s Q) (CodeW x F s Q) b) (boolOf (ze F c))
 | .region _ ops false,F,s,Q=>OpsW P I ops.toList ops.toList F s fun F s=>Q (.normal F s)
 |c,F,s,Q=>Code0 P I N c F s Q
abbrev seqQ(y:Code)(Q:FOut→Prop):FOut→Prop:=seqK (fun F s=>CodeW P I N y F s Q) Q
end
section
variable{P:Program}{I:zT}{N:Nat}
theorem OpsW.ends{ops l:List Oper}{F:FF}{s:St}{Q:FF→St→Prop}(h:OpsW P I ops l F s Q):∃F' s',Q F' s'∧∃n,∀m,n≤m→opsF P (callM P I m) ops l F s=.normal F' s':=by
 induction l generalizing F s with
 |nil=>exact⟨F,s,h,0,fun _ _=>rfl⟩
 |cons o r ih=>
  unfold OpsW at h
  cases hw:yq ops F o with
  |true=>
   rw[hw]at h
   obtain⟨F₁,s₁,h,n₁,h1⟩:=h
   obtain⟨F₂,s₂,hq,n₂,h2⟩:=ih h
   refine⟨F₂,s₂,hq,n₁+n₂,fun m hm=>?_⟩
   simp only[opsF,hw,h1 m O]
   exact h2 m O
  |false=>
   rw[hw]at h
   obtain⟨F₂,s₂,hq,n₂,h2⟩:=ih h
   refine⟨F₂,s₂,hq,n₂,fun m hm=>?_⟩
   simp only[opsF,hw]
   exact h2 m O
theorem xJ{ops:List Oper}{F:FF}{s:St}{Q:FF→St→Prop}(h:Q F s):OpsW P I ops [] F s Q:=h
theorem zJ{ops:List Oper}{o:Oper}{rest:List Oper}{F:FF}{s:St}{Q:FF→St→Prop}(hw:yq ops F o=true)
  (h:OpW P I o F s fun F s=>OpsW P I ops rest F s Q):OpsW P I ops (o::rest) F s Q:=by unfold OpsW;rw[hw];exact h
theorem ops_off{ops:List Oper}{o:Oper}{rest:List Oper}{F:FF}{s:St}{Q:FF→St→Prop}(hw:yq ops F o=false)
  (h:OpsW P I ops rest (upd F o.dst undef) s Q):OpsW P I ops (o::rest) F s Q:=by unfold OpsW;rw[hw];exact h
theorem draw_nil{ops:List Oper}{F:FF}{s:St}{Q:FF→St→Prop}(h:Q F s):xP P I ops [] F s Q:=⟨F,s,h,0,fun _ _=>rfl⟩
theorem draw_off{ops:List Oper}{d:Drawn}{o:Oper}{rest:List Drawn}{F:FF}{s:St}{Q:FF→St→Prop}(hg:zM ops d.ix=some o)(hw:yq ops F o=false)
  (h:xP P I ops rest (upd F o.dst undef) s Q):xP P I ops (d::rest) F s Q:=by
 obtain⟨F₂,s₂,hq,n₂,h2⟩:=h
 refine⟨F₂,s₂,hq,n₂,fun m hm=>?_⟩
 simp only[drawF,hg,drawOpF,hw]
 exact h2 m O
theorem draw_light{ops:List Oper}{ix anc:Nat}{free:List Nat}{o:Oper}{rest:List Drawn}{F:FF}{s:St}{Q:FF→St→Prop}(hg:zM ops ix=some o)(hw:yq ops F o=true)
  (h:OpW P I o F {next:=s.next,bar:=s.next,prot:=[],heap:=only s (yp F o)} fun F' s'=>s'.next=s.next∧xP P I ops rest F' s Q) :
  xP P I ops (⟨ix,anc,.light,free⟩::rest) F s Q:=by
 obtain⟨F₁,s₁,⟨hn,F₂,s₂,hq,n₂,h2⟩,n₁,h1⟩:=h
 refine⟨F₂,s₂,hq,n₁+n₂,fun m hm=>?_⟩
 have hb:Nat.beq s₁.next s.next=true:=by rw[hn];exact Nat.beq_refl _
 simp only[drawF,hg,drawOpF,hw,h1 m O,hb]
 exact h2 m O
theorem draw_whole{ops:List Oper}{ix anc:Nat}{free:List Nat}{o:Oper}{rest:List Drawn}{F:FF}{s:St}{Q:FF→St→Prop}(hg:zM ops ix=some o)(hw:yq ops F o=true)
  (h:OpW P I o F {s with prot:=yo ops F free++s.prot} fun F' s'=>xP P I ops rest F' {next:=s'.next,bar:=s.bar,prot:=s.prot,heap:=s'.heap} Q) :
  xP P I ops (⟨ix,anc,.whole,free⟩::rest) F s Q:=by
 obtain⟨F₁,s₁,⟨F₂,s₂,hq,n₂,h2⟩,n₁,h1⟩:=h
 refine⟨F₂,s₂,hq,n₁+n₂,fun m hm=>?_⟩
 simp only[drawF,hg,drawOpF,hw,h1 m O]
 exact h2 m O
theorem qn{ops:List Oper}{ix anc:Nat}{free:List Nat}{o:Oper}{rest:List Drawn}{F:FF}{s:St}{Q:FF→St→Prop}(hg:zM ops ix=some o)(hw:yq ops F o=true)
  (h:OpW P I o F {s with bar:=s.next} fun F' s'=>xP P I ops rest F' {next:=s'.next,bar:=s.bar,prot:=s.prot,heap:=s'.heap} Q) :
  xP P I ops (⟨ix,anc,.fresh,free⟩::rest) F s Q:=by
 obtain⟨F₁,s₁,⟨F₂,s₂,hq,n₂,h2⟩,n₁,h1⟩:=h
 refine⟨F₂,s₂,hq,n₁+n₂,fun m hm=>?_⟩
 simp only[drawF,hg,drawOpF,hw,h1 m O]
 exact h2 m O
theorem CodeW.ends{c:Code}{F:FF}{s:St}{Q:FOut→Prop}(h:CodeW P I N c F s Q):Code0 P I N c F s Q:=by
 induction c generalizing F s Q with
 |skip|exit|ret=>
  refine⟨_,h,1,fun m hm=>?_⟩
  obtain⟨m,rfl⟩:∃k,m=k+1:=⟨m-1,by omega⟩
  rfl
 |seq x y hx hy=>
  obtain⟨o,hq,n,hn⟩:=hx (Q:=seqQ P I N y Q) h
  cases o with
  |normal F₁ s₁=>
   obtain⟨o₂,hq2,n₂,hn2⟩:=hy hq
   refine⟨o₂,hq2,n+n₂+1,fun m hm=>?_⟩
   obtain⟨m,rfl⟩:∃k,m=k+1:=⟨m-1,by omega⟩
   simp only[yz,hn m O]
   exact hn2 m O
  |_=>
   refine⟨_,hq,n+1,fun m hm=>?_⟩
   obtain⟨m,rfl⟩:∃k,m=k+1:=⟨m-1,by omega⟩
   simp only[yz,hn m O]
 |block id b hb=>
  obtain⟨o,hq,n,hn⟩:=hb (Q:=blockQ id Q) h
  cases o with
  |exit i F₁ s₁=>
   cases hb:Nat.beq i id with
   |_=>
    simp only[blockQ,hb]at hq
    refine⟨_,hq,n+1,fun m hm=>?_⟩
    obtain⟨m,rfl⟩:∃k,m=k+1:=⟨m-1,by omega⟩
    simp only[yz,hn m O,hb]
  |_=>
   refine⟨_,hq,n+1,fun m hm=>?_⟩
   obtain⟨m,rfl⟩:∃k,m=k+1:=⟨m-1,by omega⟩
   simp only[yz,hn m O]
 |scope b hb=>
  obtain⟨o,hq,n,hn⟩:=hb (Q:=Q) h
  refine⟨o,hq,n+1,fun m hm=>?_⟩
  obtain⟨m,rfl⟩:∃k,m=k+1:=⟨m-1,by omega⟩
  simp only[yz]
  exact hn m O
 |cond c x y hx hy=>
  unfold CodeW at h
  cases hc:boolOf (ze F c)with
  |none=>rw[hc]at h;exact h.elim
  |some b=>
   rw[hc]at h
   have hc:=boolOf_some hc
   cases b with
   |true=>
    obtain⟨o,hq,n,hn⟩:=hx h
    refine⟨o,hq,n+1,fun m hm=>?_⟩
    obtain⟨m,rfl⟩:∃k,m=k+1:=⟨m-1,by omega⟩
    simp only[yz,hc]
    exact hn m O
   |false=>
    obtain⟨o,hq,n,hn⟩:=hy h
    refine⟨o,hq,n+1,fun m hm=>?_⟩
    obtain⟨m,rfl⟩:∃k,m=k+1:=⟨m-1,by omega⟩
    simp only[yz,hc]
    exact hn m O
 |region id ops d=>
  cases d with
  |true=>exact h
  |false=>
   obtain⟨F₁,s₁,hq,n,hn⟩:=OpsW.ends h
   refine⟨_,hq,n+1,fun m hm=>?_⟩
   obtain⟨m,rfl⟩:∃k,m=k+1:=⟨m-1,by omega⟩
   simp only[yz]
   exact hn m O
 |_=>exact h
theorem cw_skip{F:FF}{s:St}{Q:FOut→Prop}(h:Q (.normal F s)):CodeW P I N .skip F s Q:=h
theorem cw_ret{F:FF}{s:St}{Q:FOut→Prop}(h:Q (.ret F s)):CodeW P I N .ret F s Q:=h
theorem cw_seq{x y:Code}{F:FF}{s:St}{Q:FOut→Prop}(h:CodeW P I N x F s (seqQ P I N y Q)):CodeW P I N (.seq x y) F s Q:=h
theorem cw_then{c:Operand}{x y:Code}{F:FF}{s:St}{Q:FOut→Prop}(hc:ze F c=.bool true)(h:CodeW P I N x F s Q):CodeW P I N (.cond c x y) F s Q:=by unfold CodeW;rw[hc];exact h
theorem cw_else{c:Operand}{x y:Code}{F:FF}{s:St}{Q:FOut→Prop}(hc:ze F c=.bool false)(h:CodeW P I N y F s Q):CodeW P I N (.cond c x y) F s Q:=by unfold CodeW;rw[hc];exact h
theorem cw_region{id:Nat}{ops:Array Oper}{F:FF}{s:St}{Q:FOut→Prop}(h:OpsW P I ops.toList ops.toList F s fun F s=>Q (.normal F s)):CodeW P I N (.region id ops false) F s Q:=h
theorem cw_draw{id:Nat}{ops:Array Oper}{F:FF}{s:St}{Q:FOut→Prop}(l:List Drawn)(hb:planB ops.toList (plan ops.toList)=true)(hl:plan ops.toList=l)
  (h:xP P I ops.toList l F s fun F s=>Q (.normal F s)):CodeW P I N (.region id ops true) F s Q:=by
 obtain⟨F₁,s₁,hq,n,hn⟩:=h
 refine⟨_,hq,n+1,fun m hm=>?_⟩
 obtain⟨m,rfl⟩:∃k,m=k+1:=⟨m-1,by omega⟩
 simp only[yz,hb]
 rw[hl]
 exact hn m O
theorem xM{id:Nat}{ops:Array Oper}{y:Code}{F:FF}{s:St}{Q:FOut→Prop}(h:OpsW P I ops.toList ops.toList F s fun F s=>CodeW P I N y F s Q):CodeW P I N (.seq (.region id ops false) y) F s Q:=
 cw_seq (cw_region h)
theorem cw_dseq{id:Nat}{ops:Array Oper}{y:Code}{F:FF}{s:St}{Q:FOut→Prop}(l:List Drawn)(hb:planB ops.toList (plan ops.toList)=true)(hl:plan ops.toList=l)
  (h:xP P I ops.toList l F s fun F s=>CodeW P I N y F s Q):CodeW P I N (.seq (.region id ops true) y) F s Q:=
 cw_seq (cw_draw l hb hl h)
def fillF:List Value→Nat→FF→FF
 | [],_,F=>F
 |v::l,n,F=>fillF l (n+1) (upd F (some n) v)
def frameOf(args:Array Value):FF:=fillF args.toList 0 fun _=>undef
theorem agrees_fill:∀(l:List Value) (n N:Nat) (F:FF) (t:Tr Value),n+l.length≤N→Agrees N F ⟨N,t⟩→Agrees N (fillF l n F) ⟨N,fillT l n t⟩
 | [],_,_,_,_,_,h=>h
 |v::l,n,N,F,t,hn,h=>by
  simp only[List.length_cons]at hn
  simp only[fillF,fillT]
  refine agrees_fill l (n+1) N _ _ O ?_
  have:=h.put (some n) v
  have hb:Nat.blt n N=true:=blt_true O
  simpa only[Fr.put,hb]using this
theorem agrees_make{args:Array Value}{N:Nat}(h1:args.toList.length≤N)(h2:N≤65534):Agrees N (frameOf args) (Fr.make args N):=by
 refine agrees_fill _ 0 N _ _ O ⟨J,h2,fun t _=>?_⟩
 simp[Fr.get,Tr.get]
def qz(P:Program)(F:FF)(s:St):List ResultVar→Option (List Value)
 | []=>some []
 | .tmp t::l=>match qz P F s l with
  |some r=>some (F t::r)
  |none=>none
 | .cell t ty::l=>match loadV P ty (F t) s,qz P F s l with
  |some v,some r=>some (v::r)
  |_,_=>none
def resultB(N:Nat):ResultVar→Bool
 | .tmp t=>Nat.blt t N
 | .cell t _=>Nat.blt t N
theorem results_sim{N:Nat}{F:FF}{a:Fr}{s:St}(h:Agrees N F a):∀l:List ResultVar,l.all (resultB N)=true→xl P a s l=qz P F s l
 | [],_=>rfl
 | .tmp t::l,hl=>by
  simp only[List.all_cons,Bool.and_eq_true,resultB]at hl
  simp only[xl,qz]
  rw[results_sim h l (by simpa using hl.2),h.get t (Nat.le_of_ble_eq_true hl.1)]
  rfl
 | .cell t ty::l,hl=>by
  simp only[List.all_cons,Bool.and_eq_true,resultB]at hl
  simp only[xl,qz]
  rw[results_sim h l (by simpa using hl.2),h.get t (Nat.le_of_ble_eq_true hl.1)]
  rfl
structure endQ(P:Program)(rs:List ResultVar)(Post:Value→St→Prop)(F:FF)(s:St):Prop where
 ex:match qz P F s rs with
 |some [v]=>Post v s
 |some l=>Post (.tuple ⟨l⟩) s
 |none=>False
def retQ(P:Program)(rs:List ResultVar)(Post:Value→St→Prop):FOut→Prop
 | .normal F s=>endQ P rs Post F s
 | .ret F s=>endQ P rs Post F s
 |_=>False
def funcB(fn:Func)(c:Code)(n:Nat):Bool:=
 Nat.ble n fn.ntmps&&Nat.ble fn.ntmps 65534&&yM c&&xo fn.ntmps c&&fn.results.toList.all (resultB fn.ntmps)
theorem end_t{t:Nat}{F:FF}{s:St}{Post:Value→St→Prop}(h:Post (F t) s):endQ P [.tmp t] Post F s:=⟨h⟩
theorem ret_end{rs:List ResultVar}{F:FF}{s:St}{Post:Value→St→Prop}(h:endQ P rs Post F s):retQ P rs Post (.ret F s):=h
theorem nrm_end{rs:List ResultVar}{F:FF}{s:St}{Post:Value→St→Prop}(h:endQ P rs Post F s):retQ P rs Post (.normal F s):=h
theorem seq_norm{k:FF→St→Prop}{Q:FOut→Prop}{F:FF}{s:St}(h:k F s):seqK k Q (.normal F s):=h
theorem call_of{f:FuncId}{args:Array Value}{s:St}{fn:Func}{c:Code}{Post:Value→St→Prop}(n:Nat)(hI:I f=none)(hf:P.funcs[f]? = some fn)(hb:fn.body=some c)(hc:funcB fn c n=true)
  (hn:args.toList.length=n) (h:CodeW P I fn.ntmps c (frameOf args) s (retQ P fn.results.toList Post)) (hlow:Nat.ble zo f=false:=by exact rfl):∃v s',Rets P I f args s v s'∧Post v s':=by
 simp only[funcB,Bool.and_eq_true]at hc
 replace h:=h.ends
 obtain⟨⟨⟨⟨h1,h2⟩,h3⟩,h4⟩,h5⟩:=hc
 obtain⟨o,hq,k,hk⟩:=h
 have hag:Agrees fn.ntmps (frameOf args) (Fr.make args fn.ntmps):=agrees_make (by rw[hn];exact Nat.le_of_ble_eq_true h1) (Nat.le_of_ble_eq_true h2)
 have hgate:(Nat.ble (zY args.toList 0) fn.ntmps&&Nat.ble fn.ntmps 65534&&yM c)=true:=by
  rw[zH,hn,Nat.add_zero,h1,h2,h3];rfl
 have hfin:∀F s',endQ P fn.results.toList Post F s'→∃v,Post v s'∧∀a,Agrees fn.ntmps F a→finish P fn a s'=.ret v s':=by
  intro F s' he
  replace he:=he.ex
  split at he
  ·next v hv=>exact⟨v,he,fun a ha=>by unfold finish;rw[results_sim ha _ h5,hv]⟩
  ·next l hl hv=>
   refine⟨_,he,fun a ha=>?_⟩
   unfold finish
   rw[results_sim ha _ h5,hv]
   cases l with
   |nil=>rfl
   |cons x l=>cases l with
    |nil=>exact(hl x rfl).elim
    |cons y l=>rfl
  ·exact he.elim
 have hsim:=fun m=>xC (P:=P) (I:=I) m c (frameOf args) (Fr.make args fn.ntmps) s h4 hag
 cases o with
 |normal F s'=>
  obtain⟨v,hv2,hv⟩:=hfin F s' hq
  refine⟨v,s',⟨k,fun m hmk=>?_⟩,hv2⟩
  have h0:=hsim m
  rw[hk m hmk]at h0
  simp only[callM,z6,hlow,hI,hf,hb,bodyM,hgate]
  cases hm2:zD P I m c (Fr.make args fn.ntmps) s with
  |normal a₃ s₃=>
   rw[hm2]at h0
   obtain⟨rfl,ha3⟩:=h0
   exact hv a₃ ha3
  |_=>rw[hm2]at h0;exact h0.elim
 |ret F s'=>
  obtain⟨v,hv2,hv⟩:=hfin F s' hq
  refine⟨v,s',⟨k,fun m hmk=>?_⟩,hv2⟩
  have h0:=hsim m
  rw[hk m hmk]at h0
  simp only[callM,z6,hlow,hI,hf,hb,bodyM,hgate]
  cases hm2:zD P I m c (Fr.make args fn.ntmps) s with
  |ret a₃ s₃=>
   rw[hm2]at h0
   obtain⟨rfl,ha3⟩:=h0
   exact hv a₃ ha3
  |_=>rw[hm2]at h0;exact h0.elim
 |exit i F s'=>exact hq.elim
 |stuck=>exact hq.elim
end
end Go.M
namespace Go.M
abbrev Hp':=List (Nat×MObj)
def z3:Nat:=281474976710655
structure HL(W:List Nat)(s0 s:St)(L:Hp')(n:Nat):Prop where
 bar:s.bar=s0.bar
 prot:s.prot=s0.prot
 wfb:s0.bar≤s0.next
 wfp:∀p,p∈s0.prot→p<s0.next
 le:s0.next≤s.next
 most:s.next≤s0.next+n
 own:∀p,p∈L→s.get p.1=some p.2∧p.1<s.next∧s.may p.1=true∧(s0.next≤p.1∨p.1∈W)
 dist:L.Pairwise fun p q=>p.1≠q.1
 kept:∀b,b<s0.next→b∉W→s.get b=s0.get b
structure Fine(s:St):Prop where
 wfb:s.bar≤s.next
 wfp:∀p,p∈s.prot→p<s.next
theorem Fine.hl{s:St}(h:Fine s):HL [] s s [] 0:=
 ⟨rfl,rfl,h.wfb,h.wfp,Nat.le_refl _,Nat.le_refl _,fun _ h=>(by cases h),.nil,fun _ _ _=>rfl⟩
theorem may_of{s:St}{b:Nat}(h1:s.bar≤b)(h2:b∉s.prot):s.may b=true:=by
 simp only[St.may,Bool.and_eq_true,Bool.not_eq_true']
 refine⟨Nat.ble_eq_true_of_le h1,?_⟩
 rw[Bool.eq_false_iff]
 intro h
 rw[List.any_eq_true]at h
 obtain⟨x,hx,he⟩:=h
 have:=Nat.eq_of_beq_eq_true he
 subst this
 exact h2 hx
section
variable{W:List Nat}{s0 s:St}{L:Hp'}{n:Nat}
theorem HL.fine(H:HL W s0 s L n):Fine s:=⟨by have:=H.bar;have:=H.wfb;have:=H.le;omega,fun p hp=>by rw[H.prot]at hp;have:=H.wfp p hp;have:=H.le;omega⟩
theorem HL.up(H:HL W s0 s L n){n':Nat}(h:n≤n'):HL W s0 s L n':={H with most:=by have:=H.most;omega}
theorem HL.sub(H:HL W s0 s L n){L':Hp'}(h:L'.Sublist L):HL W s0 s L' n:=
 {H with own:=fun p hp=>H.own p (h.subset hp),dist:=H.dist.sublist h}
theorem HL.may_next(H:HL W s0 s L n):s.may s.next=true:=by
 refine may_of (by have:=H.bar;have:=H.wfb;have:=H.le;omega) fun h=>?_
 rw[H.prot]at h
 have:=H.wfp _ h
 have:=H.le
 omega
theorem HL.new(H:HL W s0 s L n)(o:MObj)(hr:s0.next+n<z3):HL W s0 (s.new o) ((s.next,o)::L) (n+1):=by
 have hm:=H.most
 have hle:=H.le
 unfold z3 at hr
 have hg:=fun b'=>St.get_new (s:=s) O o b'
 refine⟨H.bar,H.prot,H.wfb,H.wfp,by simp only[St.new_next];omega,by simp only[St.new_next];omega,fun p hp=>?_,?_,fun b hb hw=>?_⟩
 ·rcases List.mem_cons.mp hp with rfl|hp
  ·refine⟨by rw[hg];simp,by simp only[St.new_next];omega,?_,.inl hle⟩
   exact H.may_next
  ·obtain⟨h1,h2,h3,h4⟩:=H.own p hp
   refine⟨by rw[hg,if_neg O];exact h1,by simp only[St.new_next];omega,h3,h4⟩
 ·exact List.Pairwise.cons (fun q hq=>by have:=(H.own q hq).2.1;simp only;omega) H.dist
 ·rw[hg,if_neg O];exact H.kept b hb hw
theorem HL.room(H:HL W s0 s L n)(hr:s0.next+n<z3):s.room=true:=by
 have hm:=H.most
 unfold z3 at hr
 simp only[St.room,Nat.blt_eq]
 omega
theorem HL.putAt(A:Hp'){B:Hp'}{b:Nat}{o:MObj}(H:HL W s0 s (A++(b,o)::B) n)(o':MObj)(hr:s0.next+n≤z3):HL W s0 (s.put b (some o')) (A++(b,o')::B) n:=by
 have hm:=H.most
 unfold z3 at hr
 obtain⟨hb1,hb2,hb3,hb4⟩:=H.own (b,o) Y8
 have hg:=fun b'=>St.get_put (s:=s) (b:=b) (by simp only at hb2;omega) (some o') b'
 have hd:=H.dist
 rw[List.pairwise_append,List.pairwise_cons]at hd
 obtain⟨d1,⟨d2,d3⟩,d4⟩:=hd
 refine⟨H.bar,H.prot,H.wfb,H.wfp,H.le,H.most,fun p hp=>?_,?_,fun b' hb hw=>?_⟩
 ·rcases List.mem_append.mp hp with hp|hp
  ·obtain⟨h1,h2,h3,h4⟩:=H.own p (by simp[hp])
   have hne:p.1≠b:=d4 p hp (b,o) Y8
   exact⟨by rw[hg,if_neg hne];exact h1,h2,h3,h4⟩
  ·rcases List.mem_cons.mp hp with rfl|hp
   ·exact⟨by rw[hg];simp,hb2,hb3,hb4⟩
   ·obtain⟨h1,h2,h3,h4⟩:=H.own p (by simp[hp])
    have hne:p.1≠b:=fun e=>d2 p hp e.symm
    exact⟨by rw[hg,if_neg hne];exact h1,h2,h3,h4⟩
 ·rw[List.pairwise_append,List.pairwise_cons]
  refine⟨d1,⟨fun q hq=>d2 q hq,d3⟩,fun a ha c hc=>?_⟩
  rcases List.mem_cons.mp hc with rfl|hc
  ·exact d4 a ha (b,o) Y8
  ·exact d4 a ha c (by simp[hc])
 ·rw[hg]
  split
  ·next e=>
   subst e
   rcases hb4 with h|h
   ·simp only at h;omega
   ·exact(hw h).elim
  ·exact H.kept b' hb hw
theorem HL.killAt(A:Hp'){B:Hp'}{b:Nat}{o:MObj}(H:HL W s0 s (A++(b,o)::B) n)(hr:s0.next+n≤z3):HL W s0 (s.put b none) (A++B) n:=by
 have hm:=H.most
 unfold z3 at hr
 obtain⟨hb1,hb2,hb3,hb4⟩:=H.own (b,o) Y8
 have hg:=fun b'=>St.get_put (s:=s) (b:=b) (by simp only at hb2;omega) none b'
 have hd:=H.dist
 rw[List.pairwise_append,List.pairwise_cons]at hd
 obtain⟨d1,⟨d2,d3⟩,d4⟩:=hd
 refine⟨H.bar,H.prot,H.wfb,H.wfp,H.le,H.most,fun p hp=>?_,?_,fun b' hb hw=>?_⟩
 ·rcases List.mem_append.mp hp with hp|hp
  ·obtain⟨h1,h2,h3,h4⟩:=H.own p (by simp[hp])
   have hne:p.1≠b:=d4 p hp (b,o) Y8
   exact⟨by rw[hg,if_neg hne];exact h1,h2,h3,h4⟩
  ·obtain⟨h1,h2,h3,h4⟩:=H.own p (by simp[hp])
   have hne:p.1≠b:=fun e=>d2 p hp e.symm
   exact⟨by rw[hg,if_neg hne];exact h1,h2,h3,h4⟩
 ·rw[List.pairwise_append]
  exact⟨d1,d3,fun a ha c hc=>d4 a ha c (by simp[hc])⟩
 ·rw[hg]
  split
  ·next e=>
   subst e
   rcases hb4 with h|h
   ·simp only at h;omega
   ·exact(hw h).elim
  ·exact H.kept b' hb hw
theorem HL.call(H:HL W s0 s L n){s':St}{L':Hp'}{k:Nat}(H':HL [] s s' L' k):HL W s0 s' (L'++L) (n+k):=by
 have hm:=H.most
 have hm':=H'.most
 have hle:=H.le
 have hle':=H'.le
 refine⟨H'.bar.trans H.bar,H'.prot.trans H.prot,H.wfb,H.wfp,by omega,by omega,fun p hp=>?_,?_,fun b hb hw=>?_⟩
 ·rcases List.mem_append.mp hp with hp|hp
  ·obtain⟨h1,h2,h3,h4⟩:=H'.own p hp
   refine⟨h1,h2,h3,.inl ?_⟩
   rcases h4 with h|h
   ·omega
   ·cases h
  ·obtain⟨h1,h2,h3,h4⟩:=H.own p hp
   refine⟨by rw[H'.kept _ h2 Y8];exact h1,by omega,?_,h4⟩
   rw[St.may_eq H'.bar H'.prot];exact h3
 ·rw[List.pairwise_append]
  refine⟨H'.dist,H.dist,fun a ha c hc=>?_⟩
  have h1:=(H'.own a ha).2.2.2
  have h2:=(H.own c hc).2.1
  rcases h1 with h|h
  ·omega
  ·cases h
 ·rw[H'.kept b O Y8];exact H.kept b hb hw
theorem HL.get(H:HL [] s0 s L n){b:Nat}(hb:b<s0.next):s.get b=s0.get b:=H.kept b hb Y8
theorem HL.old(H:HL [] s0 s L n){b:Nat}{o:Option MObj}(hb:b<s0.next)(h:s0.get b=o):s.get b=o:=by rw[H.kept b hb Y8];exact h
theorem HL.own0{b:Nat}{o:MObj}(H:HL W s0 s ((b,o)::L) n):s.get b=some o:=(H.own (b,o) Y8).1
theorem HL.put0{b:Nat}{o:MObj}(H:HL W s0 s ((b,o)::L) n)(o':MObj)(hr:s0.next+n≤z3):HL W s0 (s.put b (some o')) ((b,o')::L) n:=HL.putAt [] H o' hr
end
section
variable{P:Program}{I:zT}{F:FF}{s:St}{Q:FF→St→Prop}{d:Option Tmp}{ty:TypeId}{pos:String}{af:Array Edge}{g:Option (Nat×Bool)}
theorem zU{o:Oper}{v:Value}{s':St}(h:zh P (ze F) o.op s=.ok (.value v) s')(k:Q (upd F o.dst v) s'):OpW P I o F s Q:=
 ⟨_,_,k,0,fun m _=>by simp only[opF,h]⟩
theorem op_none{o:Oper}{s':St}(h:zh P (ze F) o.op s=.ok .skip s')(k:Q (upd F o.dst undef) s'):OpW P I o F s Q:=
 ⟨_,_,k,0,fun m _=>by simp only[opF,h]⟩
theorem op_enter{o:Oper}{f:FuncId}{args:Array Value}{s₁:St}(h:zh P (ze F) o.op s=.ok (.enter f args) s₁)(hr:∃v s',Rets P I f args s₁ v s'∧Q (upd F o.dst v) s')(hlow:Nat.ble zo f=false:=by exact rfl):OpW P I o F s Q:=by
 obtain⟨v,s',⟨n,hn⟩,hq⟩:=hr
 exact⟨_,_,hq,n,fun m hm=>by simp only[opF,h,hlow,hn m hm]⟩
theorem yu{x:Operand}(k:Q (upd F d (ze F x)) s):OpW P I ⟨d,.move x,ty,pos,af,g⟩ F s Q:=zU rfl k
theorem qp{x:Operand}(k:Q (upd F d (ze F x)) s):OpW P I ⟨d,.assign x,ty,pos,af,g⟩ F s Q:=zU rfl k
theorem op_assignC{v:Value}(k:Q (upd F d v) s):OpW P I ⟨d,.assign (.const v),ty,pos,af,g⟩ F s Q:=qp k
theorem op_moveI{x:Operand}{kd:IntKind}{a:Int}(hx:ze F x=.int kd a)(k:Q (upd F d (.int kd a)) s):OpW P I ⟨d,.move x,ty,pos,af,g⟩ F s Q:=yu (by rw[hx];exact k)
theorem op_assignI{x:Operand}{kd:IntKind}{a:Int}(hx:ze F x=.int kd a)(k:Q (upd F d (.int kd a)) s):OpW P I ⟨d,.assign x,ty,pos,af,g⟩ F s Q:=qp (by rw[hx];exact k)
def xG(n:Int):Prop:= -9223372036854775808≤n∧n≤9223372036854775807
theorem in64_of{n:Int}(h:xG n):inI64 n=true:=by
 obtain⟨h1,h2⟩:=h
 cases n with
 |ofNat a=>simp only[inI64];exact Nat.ble_eq_true_of_le (by simp only[Int.ofNat_eq_natCast]at h2;omega)
 |negSucc a=>simp only[inI64];exact Nat.ble_eq_true_of_le O
theorem wrap_in{n:Int}(h:xG n):IntKind.i64.wrap n=n:=wrap_of_in (in64_of h)
theorem fits_in{n:Int}(h:xG n):fits n=some (.int .i64 n):=by simp only[fits,in64_of h]
theorem op_add{t:TypeId}{x y:Operand}{yt:TypeId}{a b:Int}(hx:ze F x=.int .i64 a)(hy:ze F y=.int .i64 b)(h:xG (a+b))(k:Q (upd F d (.int .i64 (a+b))) s):OpW P I ⟨d,.binOp .add t x y yt,ty,pos,af,g⟩ F s Q:=
 zU (by simp only[zh,qt,hx,hy,intM,yI,fits_in h];rfl) k
theorem ile_iff(a b:Int):ile a b=decide (a≤b):=by
 cases a<;>cases b<;>simp only[ile]<;>rw[Bool.eq_iff_iff]<;>simp only[Nat.ble_eq,decide_eq_true_eq]<;>(try simp only[Int.ofNat_eq_natCast])<;>(try constructor)<;>(try intro)<;>(try omega)<;>simp_all<;>omega
theorem ieq_iff(a b:Int):ieq a b=decide (a=b):=by
 cases a<;>cases b<;>simp only[ieq]<;>rw[Bool.eq_iff_iff]<;>simp only[Nat.beq_eq,decide_eq_true_eq]<;>(try simp only[Int.ofNat_eq_natCast])<;>(try constructor)<;>(try intro)<;>(try omega)<;>simp_all
theorem op_eql{t:TypeId}{x y:Operand}{yt:TypeId}{a b:Int}(hx:ze F x=.int .i64 a)(hy:ze F y=.int .i64 b)(k1:a=b→Q (upd F d (.bool true)) s)(k0:¬(a=b)→Q (upd F d (.bool false)) s):OpW P I ⟨d,.binOp .eql t x y yt,ty,pos,af,g⟩ F s Q:=by
 by_cases h:a=b
 ·refine zU (v:=.bool true) (s':=s) ?_ (k1 h)
  have:(ieq a b)=true:=by simp only[ile_iff,ieq_iff,Bool.not_eq_true',decide_eq_true_eq,decide_eq_false_iff_not];omega
  simp only[zh,qt,hx,hy,intM,yI,this];rfl
 ·refine zU (v:=.bool false) (s':=s) ?_ (k0 h)
  have:(ieq a b)=false:=by simp only[ile_iff,ieq_iff,Bool.not_eq_false',decide_eq_true_eq,decide_eq_false_iff_not];omega
  simp only[zh,qt,hx,hy,intM,yI,this];rfl
def bitsI(f:BitVec 64→BitVec 64→BitVec 64)(a b:Int):Int:=IntKind.i64.wrap ((f (BitVec.ofInt 64 a) (BitVec.ofInt 64 b)).toNat:Int)
def andI(a b:Int):Int:=bitsI (fun x y=>x &&& y) a b
def orI(a b:Int):Int:=bitsI (fun x y=>x |||y) a b
theorem op_len{as:Array Operand}{ts:Array TypeId}{t e:TypeId}{tr:List TypeId}{x:Operand}{a:Option Addr}{n c:Nat}(hu:P.underlying t=some (.slice e))(ht:ts.toList=t::tr)(ha:as.toList=[x])(hx:ze F x=.slice a n c)
  (k:Q (upd F d (.int .i64 (n:Int))) s):OpW P I ⟨d,.call ⟨.builtin .len,as,ts⟩,ty,pos,af,g⟩ F s Q:=
 zU (v:=.int .i64 (n:Int)) (s':=s) (by simp only[zh,yy,lenM,ht,ha,yw,hu,hx];rfl) k
theorem op_min{as:Array Operand}{ts:Array TypeId}{x y:Operand}{a b:Int}(ha:as.toList=[x,y])(hx:ze F x=.int .i64 a)(hy:ze F y=.int .i64 b)
  (k:Q (upd F d (.int .i64 (min a b))) s):OpW P I ⟨d,.call ⟨.builtin .min,as,ts⟩,ty,pos,af,g⟩ F s Q:=by
 refine zU (v:=.int .i64 (min a b)) (s':=s) ?_ k
 simp only[zh,yy,ha,yw,hx,hy,minM,ile_iff]
 by_cases h:a≤b
 ·simp only[h,decide_true,Int.min_eq_left h];rfl
 ·simp only[h,decide_false,show min a b=b by omega];rfl
theorem op_max{as:Array Operand}{ts:Array TypeId}{x y:Operand}{a b:Int}(ha:as.toList=[x,y])(hx:ze F x=.int .i64 a)(hy:ze F y=.int .i64 b)
  (k:Q (upd F d (.int .i64 (max a b))) s):OpW P I ⟨d,.call ⟨.builtin .max,as,ts⟩,ty,pos,af,g⟩ F s Q:=by
 refine zU (v:=.int .i64 (max a b)) (s':=s) ?_ k
 simp only[zh,yy,ha,yw,hx,hy,maxM,ile_iff]
 by_cases h:b≤a
 ·simp only[h,decide_true,Int.max_eq_left h];rfl
 ·simp only[h,decide_false,show max a b=b by omega];rfl
theorem op_call{as:Array Operand}{ts:Array TypeId}{f:Operand}{n:FuncId}{a b:Array Value}{args:Array Value}(hf:ze F f=.func (.func n) a b)(hb:funcF P n=true)(ha:(⟨a.toList++yw (ze F) as.toList++b.toList⟩:Array Value)=args)
  (h:∃v s',Rets P I n args s v s'∧Q (upd F d v) s') (hlow:Nat.ble zo n=false:=by exact rfl):OpW P I ⟨d,.call ⟨.value f,as,ts⟩,ty,pos,af,g⟩ F s Q:=
 op_enter (f:=n) (args:=args) (s₁:=s) (by simp only[zh,callV,hf,hb,←ha]) h hlow
variable{W:List Nat}{s0:St}{L:Hp'}{n:Nat}
def zeroF(P:Program)(t:TypeId):Option (List Value):=
 match zeroB P t,P.info? t with
 |true,some i=>match i.zero with
  |some z=>some (yk z)
  |none=>none
 |_,_=>none
def sizeF(P:Program)(t:TypeId):Option Nat:=(P.info? t).map (·.size)
theorem store_step{t:TypeId}{x v:Operand}{b off sz:Nat}{c c':List Value}{e:TypeId}{vs:List Value}(hs:sizeF P t=some sz)(hx:ze F x=.pointer (some ⟨b,off,none⟩))(hv:yk (ze F v)=vs)
  (hl:Nat.beq (zY vs 0) sz=true) (hp:vs.all plainCell=true) (hg:s.get b=some (.cells c e)) (hm:s.may b=true) (hc:xh off vs c=some c'):zh P (ze F) (.store t x v) s=.ok .skip (s.put b (some (.cells c' e))):=by
 simp only[sizeF]at hs
 cases hi:P.info? t with
 |none=>rw[hi]at hs;cases hs
 |some i=>
  rw[hi]at hs
  simp only[Option.map_some,Option.some.injEq]at hs
  simp only[zh,storeM,hx,hi,hv,hs,hl,yB,hg,hp,hm,Bool.and_self,hc]
end
end Go.M
namespace Go.M
section
variable{P:Program}{I:zT}{F:FF}{s:St}{Q:FF→St→Prop}{d:Option Tmp}{ty:TypeId}{pos:String}{af:Array Edge}{g:Option (Nat×Bool)}
variable{W:List Nat}{s0:St}{L:Hp'}{n:Nat}
def qw(P:Program)(t:TypeId):Option (TypeId×Nat×Nat×List Value):=
  match P.underlying t with
  |some (.slice e)=>match P.info? e,zeroL P e with
    |some inf,some z=>some (e,inf.size,inf.bytes,z)
    |_,_=>none
  |_=>none
theorem yL{t e:TypeId}{sz by_:Nat}{z:List Value}(h:qw P t=some (e,sz,by_,z)):P.underlying t=some (.slice e)∧∃inf z',P.info? e=some inf∧inf.size=sz∧inf.bytes=by_∧zeroL P e=some z∧inf.zero=some z'∧zY (yk z') 0=inf.size:=by
  simp only[qw]at h
  split at h
  · next e' hu=>
    split at h
    · next inf z' hi hz=>
      simp only[Option.some.injEq,Prod.mk.injEq]at h
      obtain⟨rfl,rfl,rfl,rfl⟩:=h
      refine⟨hu,inf,?_⟩
      have hz2:=hz
      simp only[zeroL,hi]at hz2
      cases hzz:inf.zero with
      |none=>rw[hzz]at hz2;cases hz2
      |some zz=>
        rw[hzz]at hz2
        simp only at hz2
        split at hz2
        · next hp=>
          simp only[Bool.and_eq_true]at hp
          exact⟨zz,hi,J,J,hz,J,Nat.eq_of_beq_eq_true hp.2⟩
        · cases hz2
    · cases h
  · cases h
def qr(s:St)(sz:Nat)(v:Value)(m:Nat)(l:List Value):Prop:=(∃a c,v=.slice a m c)∧yD sz m v s=some l
theorem elems_nil{sz c:Nat}:qr s sz (.slice none 0 c) 0 []:=⟨⟨_,_,rfl⟩,rfl⟩
theorem elems_block{sz b off m cap:Nat}{c l:List Value}{e:TypeId}(hg:s.get b=some (.cells c e))(hl:(c.drop off).take (m*sz)=l)(hm:off+m*sz≤c.length):qr s sz (.slice (some ⟨b,off,none⟩) m cap) m l:=by
  refine⟨⟨_,_,J⟩,?_⟩
  simp only[yD,hg,y5,y6,List.length_drop]
  rw[if_pos O,hl]
theorem elems_all{sz b m cap:Nat}{c:List Value}{e:TypeId}(hg:s.get b=some (.cells c e))(hm:m*sz=c.length):qr s sz (.slice (some ⟨b,0,none⟩) m cap) m c:=by
  refine elems_block hg ?_ O
  rw[List.drop_zero,hm,List.take_length]
theorem newL_ok{t e:TypeId}{inf:TypeInfo}{x:Value}{m:Nat}{l:List Value}(hu:P.underlying t=some (.slice e))(he:qr s inf.size x m l):newL (P.underlying t) inf x s=some (m,l):=by
  obtain⟨⟨a,c,rfl⟩,h⟩:=he
  simp only[newL,hu,lenV,h]
theorem growB_ok{t e:TypeId}{inf:TypeInfo}{z':Value}{need m:Nat}{new:List Value}(hz:inf.zero=some z')(hz2:zY (yk z') 0=inf.size)(hb:need*(inf.bytes+1)≤1073741824)(hp:new.all plainCell=true)(hl:new.length=m*inf.size) :
    growB inf need m new=true:=by
  simp only[growB,hz,Bool.and_eq_true]
  refine⟨⟨⟨Nat.ble_eq_true_of_le hb,hp⟩,?_⟩,?_⟩
  · rw[zH,Nat.add_zero,hl];exact Nat.beq_refl _
  · rw[hz2];exact Nat.beq_refl _
theorem op_appendNil{as:Array Operand}{ts:Array TypeId}{t t2 e e2:TypeId}{tr:List TypeId}{x y:Operand}{sz by_ m:Nat}{z l:List Value}(H:HL W s0 s L n)(hs:qw P t=some (e,sz,by_,z))(hu2:P.underlying t2=some (.slice e2))
    (ht:ts.toList=t::t2::tr) (ha:as.toList=[x,y]) (hx:ze F x=.slice none 0 0) (he:qr s sz (ze F y) m l) (hm:0<m) (hp:l.all plainCell=true) (hl:l.length=m*sz) (hb:m*(by_+1)≤1073741824) (hr:s0.next+n<z3)
    (k:∀b s',HL W s0 s' ((b,.cells l e)::L) (n+1)→Q (upd F d (.slice (some ⟨b,0,none⟩) m (2*m+1))) s'):OpW P I ⟨d,.call ⟨.builtin .append,as,ts⟩,ty,pos,af,g⟩ F s Q:=by
  obtain⟨hu,inf,z',hi,rfl,rfl,hz,hz1,hz2⟩:=yL hs
  refine zU (v:=.slice (some ⟨s.next,0,none⟩) m (2*m+1)) (s':=s.new (.cells l e)) ?_ (k _ _ (H.new _ hr))
  have hroom:=H.room hr
  have hf:Nat.ble (0+m) (0 / 2)=false:=by
    rw[Bool.eq_false_iff];intro h;have:=Nat.le_of_ble_eq_true h;omega
  have hgrow:growB inf (0+m) m l=true:=growB_ok (t:=t) (e:=e) hz1 hz2 (by rw[Nat.zero_add];exact hb) hp hl
  simp only[zh,yy,yi,ht,ha,yw,hx,hu,hi,newL_ok hu2 he,yX,hf,hgrow,rowB,yD,growM,killM,newS,hroom,Bool.and_self,Nat.zero_mod,List.nil_append]
  rw[Nat.zero_add]
  rfl
theorem append_full{ts:List TypeId}{t t2 e e2:TypeId}{tr:List TypeId}{y:Value}{sz by_ m b len cap:Nat}{z l c:List Value}(hs:qw P t=some (e,sz,by_,z))(hu2:P.underlying t2=some (.slice e2))
    (ht:ts=t::t2::tr) (he:qr s sz y m l) (hg:s.get b=some (.cells c e)) (hmay:s.may b=true) (hlen:len*sz=c.length) (hcap:cap / 2<len+m) (hp:l.all plainCell=true) (hl:l.length=m*sz) (hb:(len+m)*(by_+1)≤1073741824) (hroom:s.room=true)
    : yi P ts [.slice (some ⟨b,0,none⟩) len cap,y] s=.ok (.value (.slice (some ⟨s.next,0,none⟩) (len+m) (2*(len+m)+1))) ((if cap % 2=0 then s else s.put b none).new (.cells (c++l) e)):=by
  obtain⟨hu,inf,z',hi,rfl,rfl,hz,hz1,hz2⟩:=yL hs
  have hf:Nat.ble (len+m) (cap / 2)=false:=by
    rw[Bool.eq_false_iff];intro h;have:=Nat.le_of_ble_eq_true h;omega
  have hgrow:growB inf (len+m) m l=true:=growB_ok (t:=t) (e:=e) hz1 hz2 hb hp hl
  have hfirst:yD inf.size len (.slice (some ⟨b,0,none⟩) len cap) s=some c:=(elems_all (cap:=cap) hg hlen).2
  have hrow:rowB e (some ⟨b,0,none⟩) cap s=true:=by
    simp only[rowB,hg,Nat.beq_refl]
    split<;>rfl
  rw[ht]
  simp only[yi,hu,hi,newL_ok hu2 he,yX,hf,hgrow,hrow,Bool.and_self,hfirst,growM,killM]
  rcases Nat.mod_two_eq_zero_or_one cap with h|h
  · rw[h];simp only[newS,hroom,if_true];rfl
  · rw[h];simp only[hmay,newS,show(s.put b none).room=true from hroom,if_false,Nat.one_ne_zero];rfl
theorem HL.appended(A:Hp'){B:Hp'}{b cap:Nat}{o o':MObj}(H:HL W s0 s (A++(b,o)::B) n)(hr:s0.next+n<z3):HL W s0 ((if cap % 2=0 then s else s.put b none).new o') ((s.next,o')::(A++B)) (n+1):=by
  split
  · have H2:HL W s0 s (A++B) n:=H.sub Y8
    exact H2.new o' hr
  · exact(H.killAt A O).new o' hr
theorem op_append0{as:Array Operand}{ts:Array TypeId}{t t2 e e2:TypeId}{tr:List TypeId}{x y:Operand}{sz by_ m b len cap:Nat}{z l c:List Value}(H:HL W s0 s ((b,.cells c e)::L) n)(hs:qw P t=some (e,sz,by_,z))(hu2:P.underlying t2=some (.slice e2))
    (ht:ts.toList=t::t2::tr) (ha:as.toList=[x,y]) (hx:ze F x=.slice (some ⟨b,0,none⟩) len cap) (he:qr s sz (ze F y) m l) (hlen:len*sz=c.length) (hcap:cap / 2<len+m) (hp:l.all plainCell=true) (hl:l.length=m*sz) (hb:(len+m)*(by_+1)≤1073741824) (hr:s0.next+n<z3)
    (k:∀b' s',HL W s0 s' ((b',.cells (c++l) e)::L) (n+1)→Q (upd F d (.slice (some ⟨b',0,none⟩) (len+m) (2*(len+m)+1))) s'):OpW P I ⟨d,.call ⟨.builtin .append,as,ts⟩,ty,pos,af,g⟩ F s Q:=by
  refine zU ?_ (k _ _ (HL.appended [] (cap:=cap) H hr))
  simp only[zh,yy,ha,yw,hx]
  exact append_full hs hu2 ht he H.own0 (H.own (b,.cells c e) Y8).2.2.1 hlen hcap hp hl hb (H.room hr)
theorem op_convert{src dst:TypeId}{x:Operand}{kd:IntKind}{a:Int}{u:TypeDesc}(hu:P.underlying src=some u)(hd:P.underlying dst=some (.int .i64))(hx:ze F x=.int kd a)(h:xG a)(k:Q (upd F d (.int .i64 a)) s):OpW P I ⟨d,.convert src dst x,ty,pos,af,g⟩ F s Q:=by
  refine zU (v:=.int .i64 a) (s':=s) ?_ k
  simp only[zh,qE,hu,hd,hx,wrap_in h]
  cases u<;>rfl
section draws
variable{ops:List Oper}{rest:List Drawn}{ix anc:Nat}{free:List Nat}
theorem only_get{s:St}{b:Nat}(h:b<z3):({next:=s.next,bar:=s.next,prot:=[],heap:=only s (some b)}:St).get b=s.get b:=by
  unfold z3 at h
  show(Tr.put depth .nil b (s.get b)).get b=s.get b
  have := Tr.get_put depth (.nil : Tr MObj) b b (s.get b) (by have : (2 : Nat) ^ depth = 281474976710656 := by decide
                                                              omega)
  rw[this,if_pos rfl]
theorem HL.wider{s1:St}{W':List Nat}{L':Hp'}{m:Nat}{bar:Nat}{prot:List Nat}(hf:Fine s)(hb:s.bar≤bar)(hp:∀p,p∈s.prot→p∈prot)(H:HL W' {next:=s.next,bar:=bar,prot:=prot,heap:=s.heap} s1 L' m) :
    HL W' s {next:=s1.next,bar:=s.bar,prot:=s.prot,heap:=s1.heap} L' m:=by
  refine⟨J,J,hf.wfb,hf.wfp,H.le,H.most,fun p hpL=>?_,H.dist,H.kept⟩
  obtain⟨h1,h2,h3,h4⟩:=H.own p hpL
  refine⟨h1,h2,?_,h4⟩
  have hbar:s1.bar=bar:=H.bar
  have hprot:s1.prot=prot:=H.prot
  simp only[St.may,Bool.and_eq_true,Bool.not_eq_true',hbar,hprot]at h3
  refine may_of ?_ fun hin=>?_
  · have:=Nat.le_of_ble_eq_true h3.1
    show s.bar≤p.1
    omega
  · have h5:=h3.2
    rw[Bool.eq_false_iff]at h5
    apply h5
    rw[List.any_eq_true]
    exact⟨p.1,hp _ hin,Nat.beq_refl _⟩
end draws
end
end Go.M
namespace Go.M
section
variable{P:Program}{I:zT}{F:FF}{s:St}{Q:FF→St→Prop}{d:Option Tmp}{ty:TypeId}{pos:String}{af:Array Edge}{g:Option (Nat×Bool)}
end
end Go.M
namespace Go.M
section
variable{P:Program}{I:zT}{F:FF}{s:St}{Post:Value→St→Prop}
end
section
variable{P:Program}{I:zT}{F:FF}{s:St}{Q:FF→St→Prop}{d:Option Tmp}{ty:TypeId}{pos:String}{af:Array Edge}{g:Option (Nat×Bool)}
variable{W:List Nat}{s0:St}{L:Hp'}{n:Nat}
inductive Own(e:TypeId)(sz:Nat):Hp'→Value→List Value→Nat→Prop
 |nil:Own e sz [] (.slice none 0 0) [] 0
 |block (b cap:Nat) (c:List Value) (len:Nat) (hl:len*sz=c.length) (hcap:cap / 2=len):Own e sz [(b,.cells c e)] (.slice (some ⟨b,0,none⟩) len cap) c len
theorem op_appendOwn{D:Hp'}{as:Array Operand}{ts:Array TypeId}{t t2 e e2:TypeId}{tr:List TypeId}{x y:Operand}{v:Value}{sz by_ m len:Nat}{z l c:List Value}(H:HL W s0 s (D++L) n)(ho:Own e sz D v c len)(hs:qw P t=some (e,sz,by_,z))(hu2:P.underlying t2=some (.slice e2))
  (ht:ts.toList=t::t2::tr) (ha:as.toList=[x,y]) (hx:ze F x=v) (he:qr s sz (ze F y) m l) (hm:0<m) (hp:l.all plainCell=true) (hl:l.length=m*sz) (hb:(len+m)*(by_+1)≤1073741824) (hr:s0.next+n<z3)
  (k:∀b s',HL W s0 s' ((b,.cells (c++l) e)::L) (n+1)→Own e sz [(b,.cells (c++l) e)] (.slice (some ⟨b,0,none⟩) (len+m) (2*(len+m)+1)) (c++l) (len+m)→Q (upd F d (.slice (some ⟨b,0,none⟩) (len+m) (2*(len+m)+1))) s'):OpW P I ⟨d,.call ⟨.builtin .append,as,ts⟩,ty,pos,af,g⟩ F s Q:=by
 cases ho with
 |nil=>
  refine op_appendNil H hs hu2 ht ha hx he hm hp hl (by rw[Nat.zero_add]at hb;exact hb) hr (fun b s' H'=>?_)
  have:=k b s' H'
  rw[Nat.zero_add]at this
  exact this (.block b _ _ _ (by rw[←hl];rfl) O)
 |block b cap c len hlc hcap=>
  refine op_append0 H hs hu2 ht ha hx he hlc O hp hl hb hr (fun b s' H'=>?_)
  exact k b s' H' (.block b _ _ _ (by rw[List.length_append,←hlc,hl,Nat.add_mul]) O)
theorem op_appendNone'{as:Array Operand}{ts:Array TypeId}{t t2 e e2:TypeId}{tr:List TypeId}{x y:Operand}{sz by_ b cap len:Nat}{z c:List Value}(H:HL W s0 s ((b,.cells c e)::L) n)(hs:qw P t=some (e,sz,by_,z))(hu2:P.underlying t2=some (.slice e2))
  (ht:ts.toList=t::t2::tr) (ha:as.toList=[x,y]) (hx:ze F x=.slice (some ⟨b,0,none⟩) len cap) (he:qr s sz (ze F y) 0 []) (hcap:len≤cap / 2) (hlen:len*sz≤c.length) (hr:s0.next+n≤z3)
  (k:∀s',HL W s0 s' ((b,.cells c e)::L) n→Q (upd F d (.slice (some ⟨b,0,none⟩) len cap)) s'):OpW P I ⟨d,.call ⟨.builtin .append,as,ts⟩,ty,pos,af,g⟩ F s Q:=by
 obtain⟨hu,inf,z',hi,rfl,rfl,hz,hz1,hz2⟩:=yL hs
 refine zU (v:=.slice (some ⟨b,0,none⟩) len cap) (s':=s.put b (some (.cells c e))) ?_ (k _ (H.put0 _ hr))
 have hf:Nat.ble len (cap / 2)=true:=Nat.ble_eq_true_of_le hcap
 have hmay:=(H.own (b,.cells c e) Y8).2.2.1
 simp only at hmay
 have hput:∀(m:Nat) (c:List Value),m≤c.length→xh m [] c=some c:=by
  intro m
  induction m with
  |zero=>intro c _;rfl
  |succ m ih=>
   intro c hc
   cases c with
   |nil=>simp at hc
   |cons x c=>simp only[xh,ih c (by simpa using hc)]
 simp only[zh,yy,yi,ht,ha,yw,hx,hu,hi,newL_ok hu2 he,yX,hf,yB,Nat.zero_add,Nat.add_zero,H.own0,List.all_nil,Bool.true_and,hmay,hput _ _ hlen]
 rfl
theorem HL.ownA{A B:Hp'}{b:Nat}{o:MObj}(H:HL W s0 s (A++(b,o)::B) n):s.get b=some o:=(H.own (b,o) Y8).1
theorem cw_unroll{N:Nat}{b:Code}{Q:FOut→Prop}(h:CodeW P I N b F s (seqQ P I N (.loop b) Q)):CodeW P I N (.loop b) F s Q:=by
 obtain⟨o,hq,n,hn⟩:=h.ends
 cases o with
 |normal F₁ s₁=>
  obtain⟨o₂,hq2,n₂,hn2⟩:=hq
  refine⟨o₂,hq2,n+n₂+1,fun m hm=>?_⟩
  obtain⟨m,rfl⟩:∃k,m=k+1:=⟨m-1,by omega⟩
  simp only[yz,hn m O]
  exact hn2 m O
 |exit i F₁ s₁=>
  refine⟨_,hq,n+1,fun m hm=>?_⟩
  obtain⟨m,rfl⟩:∃k,m=k+1:=⟨m-1,by omega⟩
  simp only[yz,hn m O]
 |ret F₁ s₁=>
  refine⟨_,hq,n+1,fun m hm=>?_⟩
  obtain⟨m,rfl⟩:∃k,m=k+1:=⟨m-1,by omega⟩
  simp only[yz,hn m O]
 |stuck=>
  refine⟨_,hq,n+1,fun m hm=>?_⟩
  obtain⟨m,rfl⟩:∃k,m=k+1:=⟨m-1,by omega⟩
  simp only[yz,hn m O]
end
end Go.M
namespace Go.M
def putF(F:FF):List Tmp→List Value→FF
 |t::ts,v::vs=>putF (upd F (some t) v) ts vs
 |_,_=>F
theorem Agrees.putAll{N:Nat}:∀(ts:List Tmp) (vs:List Value) {F:FF} {a:Fr},Agrees N F a→Agrees N (putF F ts vs) (a.putAll ts vs)
 | [],_,_,_,h=>by simpa[putF,Fr.putAll]using h
 |_::_,[],_,_,h=>by simpa[putF,Fr.putAll]using h
 |t::ts,v::vs,_,_,h=>by
  simp only[putF,Fr.putAll]
  exact Agrees.putAll ts vs (h.put _ _)
section
variable{P:Program}{I:zT}{N:Nat}{F:FF}{s:St}
def roundQ(b:Nat)(Post:Value→St→Prop):FOut→Prop
 | .normal _ s=>∃v s',endM b none s=.ret v s'∧Post v s'
 | .exit id _ s=>∃v s',endM b (some (.exit id)) s=.ret v s'∧Post v s'
 | .ret _ s=>∃v s',endM b (some .ret) s=.ret v s'∧Post v s'
 | .stuck=>False
def bodyQ(P:Program)(I:zT)(N:Nat)(b:Nat)(body:Code)(Post:Value→St→Prop):FOut→Prop
 | .normal F s=>∃lp,s.may b=true∧s.get b=some (.loop lp)∧lp.state=.ready∧CodeW P I N body F (s.put b (some (.loop {lp with state:=.busy}))) (roundQ b Post)
 |_=>False
theorem round_of{b:Nat}{lp:Lp}{args:Array Value}{Post:Value→St→Prop}(hg:s.get b=some (.loop lp))(hF:Agrees N F lp.fr)
  (hc:(yM lp.assign&&yM lp.body&&xz lp.assign&&xz lp.body&&Nat.beq (zY args.toList 0) (zY lp.params 0))=true) (hn1:xo N lp.assign=true) (hn2:xo N lp.body=true)
  (h:CodeW P I N lp.assign (putF F lp.params args.toList) s (bodyQ P I N b lp.body Post)):∃v s',Rets P I (zo+b) args s v s'∧Post v s':=by
 obtain⟨o,hq,k,hk⟩:=h.ends
 cases o with
 |normal F1 s1=>
  obtain⟨lp',hm,hg',hst,hb⟩:=hq
  obtain⟨o2,hq2,k2,hk2⟩:=hb.ends
  have hfin:∃v s',Post v s'∧∀m,k≤m→k2≤m→callM P I m (zo+b) args s=.ret v s':=by
   have key:∀m,k≤m→k2≤m→∃a1,Agrees N F1 a1∧zD P I m lp.assign (lp.fr.putAll lp.params args.toList) s=.normal a1 s1∧SimOut N o2 (zD P I m lp.body a1 (s1.put b (some (.loop {lp' with state:=.busy})))):=by
    intro m h1 h2
    have g1:=xC (P:=P) (I:=I) m lp.assign _ _ s hn1 (hF.putAll lp.params args.toList)
    rw[hk m h1]at g1
    cases hm1:zD P I m lp.assign (lp.fr.putAll lp.params args.toList) s with
    |normal a1 s1'=>
     rw[hm1]at g1
     obtain⟨rfl,ha⟩:=g1
     have g2:=xC (P:=P) (I:=I) m lp.body _ _ (s1'.put b (some (.loop {lp' with state:=.busy}))) hn2 ha
     rw[hk2 m h2]at g2
     exact⟨a1,ha,J,g2⟩
    |_=>rw[hm1]at g1;exact g1.elim
   have run:∀m,callM P I m (zo+b) args s=qx (zD P I m) b args s:=by
    intro m
    have h1:Nat.ble zo (zo+b)=true:=by simp
    simp only[callM,z6,h1,Nat.add_sub_cancel_left]
   cases o2 with
   |normal F2 s2=>
    obtain⟨v,s',he,hp⟩:=hq2
    refine⟨v,s',hp,fun m h1 h2=>?_⟩
    obtain⟨a1,_,g1,g2⟩:=key m h1 h2
    rw[run]
    cases hm2:zD P I m lp.body a1 (s1.put b (some (.loop {lp' with state:=.busy})))with
    |normal a2 s2'=>rw[hm2]at g2;obtain⟨rfl,_⟩:=g2;simp only[qx,hg,hc,g1,hm,hg',hst,hm2,he]
    |_=>rw[hm2]at g2;exact g2.elim
   |exit id F2 s2=>
    obtain⟨v,s',he,hp⟩:=hq2
    refine⟨v,s',hp,fun m h1 h2=>?_⟩
    obtain⟨a1,_,g1,g2⟩:=key m h1 h2
    rw[run]
    cases hm2:zD P I m lp.body a1 (s1.put b (some (.loop {lp' with state:=.busy})))with
    |exit id' a2 s2'=>rw[hm2]at g2;obtain⟨rfl,rfl,_⟩:=g2;simp only[qx,hg,hc,g1,hm,hg',hst,hm2,he]
    |_=>rw[hm2]at g2;exact g2.elim
   |ret F2 s2=>
    obtain⟨v,s',he,hp⟩:=hq2
    refine⟨v,s',hp,fun m h1 h2=>?_⟩
    obtain⟨a1,_,g1,g2⟩:=key m h1 h2
    rw[run]
    cases hm2:zD P I m lp.body a1 (s1.put b (some (.loop {lp' with state:=.busy})))with
    |ret a2 s2'=>rw[hm2]at g2;obtain⟨rfl,_⟩:=g2;simp only[qx,hg,hc,g1,hm,hg',hst,hm2,he]
    |_=>rw[hm2]at g2;exact g2.elim
   |stuck=>exact hq2.elim
  obtain⟨v,s',hp,hr⟩:=hfin
  exact⟨v,s',⟨k+k2,fun m hm=>hr m O O⟩,hp⟩
 |_=>exact hq.elim
def doneQ(F:FF)(b:Nat)(Q:FOut→Prop)(s:St):Prop:=
 ∃lp,s.may b=true∧s.get b=some (.loop lp)∧busyB lp.state=false∧(match lp.pend with
  |none=>Q (.normal F (s.put b (some (.loop {lp with state:=.exhausted}))))
  |some .ret=>Q (.ret F (s.put b (some (.loop {lp with state:=.exhausted}))))
  |some (.exit id)=>Q (.exit id F (s.put b (some (.loop {lp with state:=.exhausted}))))
  |_=>False)
theorem cw_range{f:Operand}{ps:Array Tmp}{x y:Code}{Q:FOut→Prop}{g:FuncId}{as cs args:Array Value}(hN:N≤65534)(hf:ze F f=.func (.func g) as cs)(hb:funcF P g=true)
  (ha:(⟨as.toList++[.func (.yield s.next) ⟨[]⟩ ⟨[]⟩]++cs.toList⟩:Array Value)=args) (hr:s.room=true) (hft:tmpB N f=true)
  (h:∀fr,Agrees N F fr→∃v s2,Rets P I g args (s.new (.loop {fr:=fr,params:=ps.toList,assign:=x,body:=y,state:=.ready,pend:=none})) v s2∧doneQ F s.next Q s2)
  (hlow:Nat.ble zo g=false:=by exact rfl):CodeW P I N (.rangeFunc f ps x y) F s Q:=by
 have hA:=frF_agrees F hN
 obtain⟨v,s2,⟨k,hk⟩,lp,h1,h2,h3,h4⟩:=h _ hA
 have hev:(frF F N).eval f=.func (.func g) as cs:=by rw[hA.eval hft,hf]
 have hnm:(frF F N).norm=frF F N:=hA.norm
 have hrun:∀m,k≤m→xS P I (zD P I m) f ps x y (frF F N) s=(match lp.pend with
   |none=>.normal (frF F N) (s2.put s.next (some (.loop {lp with state:=.exhausted})))
   |some .ret=>.ret (frF F N) (s2.put s.next (some (.loop {lp with state:=.exhausted})))
   |some (.exit id)=>.exit id (frF F N) (s2.put s.next (some (.loop {lp with state:=.exhausted})))
   |some _=>.stuck):=by
  intro m hm
  have h5:z6 P I (zD P I m) g args (s.new (.loop {fr:=frF F N,params:=ps.toList,assign:=x,body:=y,state:=.ready,pend:=none}))=.ret v s2:=hk m hm
  simp only[xS,hr,hev,hnm,callV,hb,ha,hlow,h5,h1,h2,h3]
  cases lp.pend with
  |none=>rfl
  |some c=>cases c<;>rfl
 cases hp:lp.pend with
 |none=>
  rw[hp]at h4
  refine⟨_,h4,k+1,fun m hm=>?_⟩
  obtain⟨m,rfl⟩:∃k,m=k+1:=⟨m-1,by omega⟩
  simp only[yz,rangeF,hrun m O,hp]
 |some c=>
  rw[hp]at h4
  cases c with
  |ret=>
   refine⟨_,h4,k+1,fun m hm=>?_⟩
   obtain⟨m,rfl⟩:∃k,m=k+1:=⟨m-1,by omega⟩
   simp only[yz,rangeF,hrun m O,hp]
  |exit id=>
   refine⟨_,h4,k+1,fun m hm=>?_⟩
   obtain⟨m,rfl⟩:∃k,m=k+1:=⟨m-1,by omega⟩
   simp only[yz,rangeF,hrun m O,hp]
  |_=>exact h4.elim
end
section
variable{P:Program}{I:zT}{F:FF}{s:St}{Q:FF→St→Prop}{d:Option Tmp}{ty:TypeId}{pos:String}{af:Array Edge}{g:Option (Nat×Bool)}
theorem op_yield{as:Array Operand}{ts:Array TypeId}{f:Operand}{b:Nat}{lp:Lp}{args:Array Value}(hf:ze F f=.func (.yield b) ⟨[]⟩ ⟨[]⟩)(hg:s.get b=some (.loop lp))(ha:(⟨yw (ze F) as.toList⟩:Array Value)=args)(hl:Nat.beq (zY args.toList 0) (zY lp.params 0)=true)
  (h:∃v s',Rets P I (zo+b) args s v s'∧Q (upd F d v) s'):OpW P I ⟨d,.call ⟨.value f,as,ts⟩,ty,pos,af,g⟩ F s Q:=by
 obtain⟨v,s',⟨n,hn⟩,hq⟩:=h
 subst ha
 refine⟨_,_,hq,n,fun m hm=>?_⟩
 have e:zh P (ze F) (Op.call ⟨.value f,as,ts⟩) s=.ok (.round b 0 ⟨yw (ze F) as.toList⟩ .skip .skip) s:=by simp only[zh,callV,hf,hg,hl]
 simp only[opF,e,hn m hm]
end
end Go.M
