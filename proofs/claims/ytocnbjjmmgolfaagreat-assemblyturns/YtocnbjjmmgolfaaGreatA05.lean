/- What a plan of a drawn region is, and the run in this machine's own order. -/
/- A drawn region, in whatever order it runs. -/
/- A drawn region: one operation more. -/
import Derived.Test.YtocnbjjmmgolfaaGreatA04
namespace Go.M
structure PlanOk(ops:Array Oper)(l:List Drawn)(anc:Nat→Nat):Prop where
  op:∀(p:Nat) (d:Drawn),l[p]? = some d→∃o,ops[d.ix]? = some o
  surj:∀i,i<ops.size→∃(p:Nat) (d:Drawn),l[p]? = some d∧d.ix=i
  ancOf:∀(p:Nat) (d:Drawn),l[p]? = some d→d.anc=anc d.ix
  edges:∀i o,ops[i]? = some o→∀e∈o.after.toList,Region.binds .any e=true→e.on<i∧(anc i).testBit e.on=true
  below:∀i o k,ops[i]? = some o→(anc i).testBit k=true→k<i
  just:∀i o k,ops[i]? = some o→(anc i).testBit k=true→∃e∈o.after.toList,Region.binds .any e=true∧(e.on=k∨(anc e.on).testBit k=true)
  reads:∀i o,ops[i]? = some o→∀t,Operand.tmp t∈o.op.operands.toList→∀u q,ops[u]? = some q→q.dst=some t→(anc i).testBit u=true∨(isLoad o=false∧(u=i∨(anc u).testBit i=true))
  guard:∀i o g,ops[i]? = some o→o.guard=some g→(anc i).testBit g.1=true
  pair:∀(p q:Nat) (x y:Drawn),p<q→l[p]? = some x→l[q]? = some y→x.ix≠y.ix∧(anc x.ix).testBit y.ix=false ∧
    ((anc y.ix).testBit x.ix=false→howW x.how=false∧(howW y.how=true→(howL x.how=true∨howN x.how=true)∧∀o,ops[x.ix]? = some o→(isLoad o=true∨howN x.how=true)→x.ix∈y.free))
  dst:∀(i j:Nat) (o q:Oper) (t:Tmp),ops[i]? = some o→ops[j]? = some q→o.dst=some t→q.dst=some t→i=j
  light:∀(p:Nat) (d:Drawn) o,l[p]? = some d→ops[d.ix]? = some o→howL d.how=true→jE o=true
  alloc:∀(p:Nat) (d:Drawn) o,l[p]? = some d→ops[d.ix]? = some o→howN d.how=true→(isAlloc o||isBS o)=true
theorem distinctB_spec:∀(l:List (Option Tmp)),distinctB l=true→∀(i j:Nat) (t:Tmp),l[i]? = some (some t)→l[j]? = some (some t)→i=j
  | [],_,i,j,t,h,_=>by simp at h
  |x::l,hd,i,j,t,hi,hj=>by
    have tail:distinctB l=true:=by
      cases x with
      |none=>exact hd
      |some u=>unfold distinctB at hd;simp only[Bool.and_eq_true]at hd;exact hd.2
    have head:∀k,x=some t→l[k]? = some (some t)→False:=fun k hx hk=>by
      subst hx
      unfold distinctB at hd
      simp only[Bool.and_eq_true,List.all_eq_true]at hd
      have:=hd.1 _ (List.mem_of_getElem? hk)
      simp at this
    cases i with
    |zero=>cases j with
      |zero=>rfl
      |succ j=>simp at hi hj;exact(head j hi hj).elim
    |succ i=>cases j with
      |zero=>simp at hi hj;exact(head i hj hi).elim
      |succ j=>simp at hi hj;rw[distinctB_spec l tail i j t hi hj]
theorem pairsB_spec{ops:List Oper}:∀(l:List Drawn),pairsB ops l=true→∀(p q:Nat) (x y:Drawn),p<q→l[p]? = some x→l[q]? = some y→pairB ops x y=true
  | [],_,p,q,x,y,_,h,_=>by simp at h
  |z::l,hp,p,q,x,y,hlt,hx,hy=>by
    unfold pairsB at hp
    simp only[Bool.and_eq_true,List.all_eq_true]at hp
    cases q with
    |zero=>omega
    |succ q=>
      simp at hy
      cases p with
      |zero=>simp at hx;subst hx;exact hp.1 _ (List.mem_of_getElem? hy)
      |succ p=>simp at hx;exact pairsB_spec l hp.2 p q x y O hx hy
theorem plan_ok{ops:Array Oper}{l:List Drawn}(h:planB ops.toList l=true):∃anc,PlanOk ops l anc:=by
  unfold planB at h
  simp only[Bool.and_eq_true]at h
  obtain⟨⟨⟨⟨⟨⟨h1,h2⟩,h3⟩,h4⟩,h5⟩,h6⟩,h7⟩:=h
  have h2:=Nat.eq_of_beq_eq_true h2
  rw[vB,vB]at h2
  let anc:Nat→Nat:=fun i=>((ancs ops.toList)[i]?).getD 0
  have ancAt:∀i m,qG (ancs ops.toList) i=some m→m=anc i:=fun i m hm=>by rw[qR]at hm;simp only[anc,hm];rfl
  have each:∀i o,ops[i]? = some o→ancB (ancs ops.toList) i o (anc i)=true∧readsB ops.toList (ancs ops.toList) i (anc i) o=true:=fun i o ho=>by
    rw[List.all_eq_true]at h3
    have:=h3 (o,i) (by
      rw[List.mem_zipIdx_iff_getElem?]
      simpa using ho)
    simp only at this
    split at this
    · rename_i m hm
      rw[ancAt i m hm]at this
      simpa using this
    · cases this
  have drawn:∀(p:Nat) (d:Drawn),l[p]? = some d→(∃o,ops[d.ix]? = some o)∧d.anc=anc d.ix∧(∀o,ops[d.ix]? = some o→howL d.how=true→jE o=true)∧(∀o,ops[d.ix]? = some o→howN d.how=true→(isAlloc o||isBS o)=true):=fun p d hd=>by
    rw[List.all_eq_true]at h4
    have:=h4 d (List.mem_of_getElem? hd)
    simp only[Bool.and_eq_true]at this
    obtain⟨g1,g2⟩:=this
    have ha:d.anc=anc d.ix:=by
      split at g1
      · rename_i m hm
        have:=Nat.eq_of_beq_eq_true g1
        rw[←this];exact ancAt _ _ hm
      · cases g1
    unfold lightB at g2
    split at g2
    · rename_i o ho
      rw[qR]at ho
      have ho':ops[d.ix]? = some o:=by simpa using ho
      rw[Bool.and_eq_true,Bool.or_eq_true,Bool.or_eq_true,Bool.not_eq_true',Bool.not_eq_true']at g2
      refine⟨⟨o,ho'⟩,ha,fun o2 ho2 hh=>?_,fun o2 ho2 hh=>?_⟩
      · rw[ho']at ho2;cases ho2
        rcases g2.1 with g|g
        · rw[hh]at g;cases g
        · exact g
      · rw[ho']at ho2;cases ho2
        rcases g2.2 with g|g
        · rw[hh]at g;cases g
        · exact g
    · cases g2
  refine⟨anc,{
    op:=fun p d hd=>(drawn p d hd).1
    surj:=fun i hi=>?_
    ancOf:=fun p d hd=>(drawn p d hd).2.1
    edges:=fun i o ho e he hb=>?_
    below:=fun i o k ho hk=>?_
    just:=fun i o k ho hk=>?_
    reads:=fun i o ho t ht u q hq hd=>?_
    guard:=fun i o g ho hg=>?_
    pair:=fun p q x y hlt hx hy=>?_
    dst:=fun i j o q t ho hq h1 h2=>?_
    light:=fun p d o hd ho hl=>(drawn p d hd).2.2.1 o ho hl
    alloc:=fun p d o hd ho hl=>(drawn p d hd).2.2.2 o ho hl}⟩
  · rw[List.all_eq_true]at h5
    have:=h5 i (by rw[vB];simpa using hi)
    rw[List.any_eq_true]at this
    obtain⟨d,hd,he⟩:=this
    obtain⟨p,hp⟩:=List.getElem?_of_mem hd
    exact⟨p,d,hp,Nat.eq_of_beq_eq_true he⟩
  · have:=(each i o ho).1
    unfold ancB at this
    simp only[Bool.and_eq_true,List.all_eq_true]at this
    have:=this.1.1 e he
    rw[hb]at this
    simp only[Bool.not_true,Bool.false_or,Bool.and_eq_true]at this
    exact⟨by simpa[Nat.blt_eq]using this.1,this.2⟩
  · have:=(each i o ho).1
    unfold ancB at this
    simp only[Bool.and_eq_true,List.all_eq_true]at this
    obtain⟨⟨_,_⟩,g3⟩:=this
    have hlt:anc i<2 ^ i:=by simpa[Nat.blt_eq]using g3
    rcases Nat.lt_or_ge k i with hh|hh
    · exact hh
    · rw[Nat.testBit_lt_two_pow (Nat.lt_of_lt_of_le hlt (Nat.pow_le_pow_right O hh))]at hk;cases hk
  · have:=(each i o ho).1
    unfold ancB at this
    simp only[Bool.and_eq_true,List.all_eq_true]at this
    obtain⟨⟨_,g2⟩,g3⟩:=this
    have hlt:anc i<2 ^ i:=by simpa[Nat.blt_eq]using g3
    have hki:k<i:=by
      rcases Nat.lt_or_ge k i with hh|hh
      · exact hh
      · rw[Nat.testBit_lt_two_pow (Nat.lt_of_lt_of_le hlt (Nat.pow_le_pow_right O hh))]at hk;cases hk
    have:=g2 k (by simpa using hki)
    rw[hk]at this
    simp only[Bool.not_true,Bool.false_or,List.any_eq_true,Bool.and_eq_true,Bool.or_eq_true]at this
    obtain⟨e,he,hb,hor⟩:=this
    refine⟨e,he,hb,?_⟩
    rcases hor with hh|hh
    · exact .inl (Nat.eq_of_beq_eq_true hh)
    · right
      split at hh
      · rename_i q hq;rw[←ancAt _ _ hq];exact hh
      · cases hh
  · have:=(each i o ho).2
    unfold readsB at this
    simp only[Bool.and_eq_true,List.all_eq_true]at this
    have:=this.1 _ ht
    simp only[List.all_eq_true]at this
    have:=this (q,u) (by rw[List.mem_zipIdx_iff_getElem?];simpa using hq)
    simp only[hd]at this
    have hb:Nat.beq t t=true:=by simp
    simp only[hb,Bool.not_true,Bool.false_or,Bool.or_eq_true,Bool.and_eq_true,Bool.not_eq_true']at this
    rcases this with hh|⟨hl,hh⟩
    · exact .inl hh
    · right
      refine⟨hl,?_⟩
      rcases hh with hh|hh
      · exact .inl (Nat.eq_of_beq_eq_true hh)
      · right
        split at hh
        · rename_i m hm;rw[←ancAt _ _ hm];exact hh
        · cases hh
  · have:=(each i o ho).2
    unfold readsB at this
    simp only[Bool.and_eq_true]at this
    rw[hg]at this
    exact this.2
  · have hpr:=pairsB_spec l h6 p q x y hlt hx hy
    unfold pairB at hpr
    have hax:=(drawn p x hx).2.1
    have hay:=(drawn q y hy).2.1
    simp only[Bool.and_eq_true,Bool.not_eq_true',Bool.or_eq_true]at hpr
    obtain⟨⟨g1,g2⟩,g3⟩:=hpr
    rw[hax]at g2
    have hne:x.ix≠y.ix:=fun e=>by rw[e]at g1;simp at g1
    refine⟨hne,g2,fun hun=>?_⟩
    have hbs:besideB x y=true:=by
      unfold besideB
      simp[g1,hax,hay,g2,hun]
    rcases g3 with g3|⟨g3,g4⟩
    · rw[hbs]at g3;cases g3
    · refine⟨g3,fun hw=>?_⟩
      rcases g4 with g4|⟨g4,g5⟩
      · rw[hw]at g4;cases g4
      · refine⟨by simpa using g4,fun o ho hl=>?_⟩
        have:qG ops.toList x.ix=some o:=by rw[qR];simpa using ho
        rw[this]at g5
        simp only[Bool.or_eq_true,Bool.not_eq_true',Bool.or_eq_false_iff,List.any_eq_true]at g5
        rcases g5 with⟨g5,g6⟩|⟨k,hk,hh⟩
        · rcases hl with hl|hl
          · rw[hl]at g5;cases g5
          · rw[hl]at g6;cases g6
        · rw[Nat.eq_of_beq_eq_true hh];exact hk
  · refine distinctB_spec _ h7 i j t ?_ ?_
    · simp[ho,h1]
    · simp[hq,h2]
section
variable{P:Program}{call:FuncId→Array Value→St→CallOut}
structure Chain(P:Program)(call:FuncId→Array Value→St→CallOut)(ops:Array Oper)(l:List Drawn)(N:Nat)(A:Nat→Fr)(S:Nat→St):Prop where
  le:N≤l.length
  step:∀p,p<N→∃d o,l[p]? = some d∧ops[d.ix]? = some o∧qW P call ops.toList d o (A p) (S p)=.normal (A (p+1)) (S (p+1))
theorem chain_of{ops:Array Oper}:∀(l:List Drawn) (a:Fr) (s:St),drawM P call ops.toList l a s≠.stuck→∃N A S,A 0=a∧S 0=s∧Chain P call ops l N A S ∧
    ((N=l.length∧drawM P call ops.toList l a s=.normal (A N) (S N)) ∨
     ∃d o c a₁ s₁,l[N]? = some d∧ops[d.ix]? = some o∧qW P call ops.toList d o (A N) (S N)=.panic c a₁ s₁∧drawM P call ops.toList l a s=.panic c a₁ s₁)
  | [],a,s,_=>⟨0,fun _=>a,fun _=>s,rfl,rfl,⟨Nat.le_refl _,fun p hp=>by omega⟩,.inl ⟨rfl,rfl⟩⟩
  |d::l,a,s,hne=>by
    unfold drawM at hne ⊢
    cases ho:qG ops.toList d.ix with
    |none=>rw[ho]at hne;exact(hne rfl).elim
    |some o=>
      rw[ho]at hne
      simp only at hne ⊢
      have ho':ops[d.ix]? = some o:=by rw[qR]at ho;simpa using ho
      cases hr:qW P call ops.toList d o a s with
      |stuck=>rw[hr]at hne;exact(hne rfl).elim
      |exit id a₁ s₁=>
        exfalso
        unfold qW at hr
        (repeat' split at hr)<;>cases hr
      |ret a₁ s₁=>
        exfalso
        unfold qW at hr
        (repeat' split at hr)<;>cases hr
      |panic c a₁ s₁=>
        exact⟨0,fun _=>a,fun _=>s,rfl,rfl,⟨Nat.zero_le _,fun p hp=>by omega⟩,.inr ⟨d,o,c,a₁,s₁,rfl,ho',hr,rfl⟩⟩
      |normal a₁ s₁=>
        rw[hr]at hne
        simp only at hne ⊢
        obtain⟨N,A,S,hA,hS,hch,hend⟩:=chain_of l a₁ s₁ hne
        refine⟨N+1,fun p=>match p with|0=>a|q+1=>A q,fun p=>match p with|0=>s|q+1=>S q,rfl,rfl,⟨by simp;exact hch.le,fun p hp=>?_⟩,?_⟩
        · cases p with
          |zero=>exact⟨d,o,rfl,ho',by rw[hr];simp only[hA,hS]⟩
          |succ p=>
            obtain⟨d',o',g1,g2,g3⟩:=hch.step p O
            exact⟨d',o',by simpa using g1,g2,g3⟩
        · rcases hend with⟨g1,g2⟩|⟨d',o',c,a₂,s₂,g1,g2,g3,g4⟩
          · exact .inl ⟨by simp[g1],g2⟩
          · exact .inr ⟨d',o',c,a₂,s₂,by simpa using g1,g2,g3,g4⟩
theorem drawOp_frame{ops:List Oper}{d:Drawn}{o:Oper}{a a₁:Fr}{s s₁:St}(h:qW P call ops d o a s=.normal a₁ s₁):∃v,a₁=a.put o.dst v:=by
  unfold qW at h
  split at h
  · split at h
    · split at h
      · rename_i a' s' hr
        split at h
        · cases h;exact(opM_frame.1 _ _ hr)
        · cases h
      · cases h
    · split at h
      · rename_i a' s' hr;cases h;exact(opM_frame.1 _ _ hr)
      · cases h
      · cases h
    · split at h
      · rename_i a' s' hr;cases h;exact(opM_frame.1 _ _ hr)
      · cases h
    · split at h
      · rename_i a' s' hr
        split at h
        · split at h
          · cases h;exact(opM_frame.1 _ _ hr)
          · cases h
        · cases h
      · cases h
  · cases h;exact⟨_,rfl⟩
theorem drawOp_new{ops:List Oper}{d:Drawn}{o:Oper}{a a₁:Fr}{s s₁:St}(h:qW P call ops d o a s=.normal a₁ s₁)(hw:kQ ops a o=true)(hh:d.how=.new) :
    ∃s' ob,opM P call o a {next:=s.next,bar:=s.next,prot:=[],heap:=.nil}=.normal a₁ s'∧s'.next=s.next+1∧s.room=true∧kJ a₁ o=some s.next∧s'.get s.next=some ob∧s₁=s.new ob:=by
  unfold qW at h
  rw[hw,hh]at h
  simp only at h
  split at h
  · rename_i a' s' hr
    split at h
    · rename_i b ob hn hb hg
      split at h
      · rename_i hbn
        cases h
        rw[Bool.and_eq_true]at hn
        rw[Nat.eq_of_beq_eq_true hbn]at hb
        exact⟨s',ob,hr,Nat.eq_of_beq_eq_true hn.1,hn.2,hb,hg,rfl⟩
      · cases h
    · cases h
  · cases h
theorem put_size(a:Fr)(dst:Option Tmp)(v:Value):(a.put dst v).size=a.size:=by
  unfold Fr.put
  (repeat' split)<;>rfl
theorem put_other{a:Fr}(hs:a.size≤65534){dst:Option Tmp}{v:Value}{t:Nat}(h:dst≠some t):(a.put dst v).get t=a.get t:=by
  unfold Fr.put
  split
  · rename_i d
    split
    · rename_i hlt
      change Nat at d
      have hlt:d<a.size:=by simpa[Nat.blt_eq]using hlt
      unfold Fr.get
      rw [Tr.get_put fdepth _ _ _ _ (by have : (2 : Nat) ^ fdepth = 65536 := by decide
                                        omega),if_neg (fun e=>h (by rw[e]))]
    · rfl
  · rfl
variable{ops:Array Oper}{l:List Drawn}{N:Nat}{A:Nat→Fr}{S:Nat→St}
theorem Chain.size(h:Chain P call ops l N A S):∀p,p≤N→(A p).size=(A 0).size
  |0,_=>rfl
  |p+1,hp=>by
    obtain⟨d,o,_,_,hr⟩:=h.step p O
    obtain⟨v,hv⟩:=drawOp_frame hr
    rw[hv,put_size,Chain.size h p O]
theorem Chain.keepsSlot(h:Chain P call ops l N A S)(hs:(A 0).size≤65534)(t:Nat)(p:Nat):∀q,p≤q→q≤N →
    (∀r d o,p≤r→r<q→l[r]? = some d→ops[d.ix]? = some o→o.dst≠some t)→(A q).get t=(A p).get t:=by
  intro q
  induction q with
  | zero => intro hpq _ _; have : p = 0 := by omega
            subst this;rfl
  |succ q ih=>
    intro hpq hq hno
    by_cases he:p=q+1
    · subst he;rfl
    · obtain⟨d,o,h1,h2,hr⟩:=h.step q O
      obtain⟨v,hv⟩:=drawOp_frame hr
      rw[hv,put_other (by rw[Chain.size h q O];exact hs) (hno q d o O O h1 h2)]
      exact ih O O fun r d o hr1 hr2=>hno r d o hr1 O
theorem Chain.kp(h:Chain P call ops l N A S)(hk:∀f args s,WF s→(call f args s).keeps s)(h0:WF (S 0)):∀q,q≤N→Kp (S 0) (S q)
  |0,_=>Kp.refl h0
  |q+1,hq=>by
    have ih:=Chain.kp h hk h0 q O
    obtain⟨d,o,_,_,hr⟩:=h.step q O
    have:=drawOp_keeps (P:=P) hk ih.wf ops.toList d o (A q)
    rw[hr]at this
    exact ih.trans this
theorem Chain.kp2(h:Chain P call ops l N A S)(hk:∀f args s,WF s→(call f args s).keeps s)(h0:WF (S 0))(p:Nat):∀q,p≤q→q≤N→Kp (S p) (S q):=by
  intro q
  induction q with
  | zero => intro hpq _; have : p = 0 := by omega
            subst this;exact Kp.refl h0
  |succ q ih=>
    intro hpq hq
    by_cases he:p=q+1
    · subst he;exact Kp.refl (h.kp hk h0 _ hq).wf
    · have ih:=ih O O
      obtain⟨d,o,_,_,hr⟩:=h.step q O
      have:=drawOp_keeps (P:=P) hk ih.wf ops.toList d o (A q)
      rw[hr]at this
      exact ih.trans this
theorem drawOp_below(hk:∀f args s,WF s→(call f args s).keeps s){ops:List Oper}{d:Drawn}{o:Oper}{a a₁:Fr}{s s₁:St}(hwf:WF s)(h:qW P call ops d o a s=.normal a₁ s₁)(hw:howW d.how=false) :
    ∀b,b<s.next→s₁.get b=s.get b:=by
  intro b hb
  unfold qW at h
  split at h
  · split at h
    · split at h
      · split at h
        · cases h;rfl
        · cases h
      · cases h
    · rename_i hh;rw[hh]at hw;cases hw
    · have h0:WF {s with bar:=s.next}:=hwf.of_heap rfl rfl
      have h1:=opM_keeps (P:=P) hk h0 o a
      split at h
      · rename_i a' s' hr
        cases h
        rw[hr]at h1
        have h1:Kp {s with bar:=s.next} s':=h1
        have:=h1.same b hb (by
          unfold St.may
          simp only[Bool.and_eq_false_iff]
          left
          rw[Bool.eq_false_iff]
          intro hh
          have:=Nat.le_of_ble_eq_true hh
          omega)
        exact this
      · cases h
    · split at h
      · split at h
        · rename_i hn _ _
          split at h
          · cases h
            rw[Bool.and_eq_true]at hn
            have:=room_lt hn.2
            rw[St.get_new O,if_neg O]
          · cases h
        · cases h
      · cases h
  · cases h;rfl
theorem drawOp_prot(hk:∀f args s,WF s→(call f args s).keeps s){ops:List Oper}{d:Drawn}{o:Oper}{a a₁:Fr}{s s₁:St}(hwf:WF s)(h:qW P call ops d o a s=.normal a₁ s₁)
    {b:Nat} (hb:b<s.next) (hm:howW d.how=true→b∈qZ ops a d.free):s₁.get b=s.get b:=by
  cases hw:howW d.how with
  |false=>exact drawOp_below hk hwf h hw b hb
  |true=>
    have hm:=hm hw
    unfold qW at h
    split at h
    · split at h
      · rename_i hh;rw[hh]at hw;cases hw
      · have h0:WF {s with prot:=qZ ops a d.free++s.prot}:=hwf.of_heap rfl rfl
        have h1:=opM_keeps (P:=P) hk h0 o a
        split at h
        · rename_i a' s' hr
          cases h
          rw[hr]at h1
          have h1:Kp {s with prot:=qZ ops a d.free++s.prot} s':=h1
          exact h1.same b hb (by
            unfold St.may
            simp only[Bool.and_eq_false_iff,Bool.not_eq_false',List.any_append,Bool.or_eq_true]
            right;left
            rw[List.any_eq_true]
            exact⟨b,hm,by simp⟩)
        · cases h
        · cases h
      · rename_i hh;rw[hh]at hw;cases hw
      · rename_i hh;rw[hh]at hw;cases hw
    · cases h;rfl
end
end Go.M
namespace Go.M
theorem Rel.of_same{P:Program}{β:Ren}{s T:St}{w:World}(h:Rel P β s w)(hn:T.next=s.next)(hh:T.heap=s.heap):Rel P β T w:=by
  have hg:∀b,T.get b=s.get b:=fun b=>by simp only[St.get,hh]
  exact{
    img:=by rw[hn];exact h.img
    obj:=fun b m o hb hlt hg'=>h.obj b m o hb O (by rw[←hg];exact hg')
    inj:=fun b b' m m' o o' h1 h2 l1 l2 g1 g2=>h.inj b b' m m' o o' h1 h2 O O (by rw[←hg];exact g1) (by rw[←hg];exact g2)
    room:=by rw[hn];exact h.room
    top:=fun b hb=>by rw[hg];exact h.top b O}
theorem Rel.at_state{P:Program}{β:Ren}{s T:St}{w:World}(h:Rel P β s w)(hT:WF T)(hlt:∀b m,β b=some m→b<T.next→b<s.next)
    (hg:∀b m o,β b=some m→b<T.next→T.get b=some o→s.get b=some o):Rel P β T w where
  img:=fun b m hb hl=>h.img b m hb (hlt b m hb hl)
  obj:=fun b m o hb hl hgt=>h.obj b m o hb (hlt b m hb hl) (hg b m o hb hl hgt)
  inj:=fun b b' m m' o o' h1 h2 l1 l2 g1 g2=>h.inj b b' m m' o o' h1 h2 (hlt _ _ h1 l1) (hlt _ _ h2 l2) (hg _ _ _ h1 l1 g1) (hg _ _ _ h2 l2 g2)
  room:=hT.room
  top:=hT.top
theorem Rel.grow{P:Program}{β:Ren}{s:St}{w w':World}(h:Rel P β s w)(hs:w.heap.size≤w'.heap.size)(hh:∀r,r<w.heap.size→w'.heap[r]? = w.heap[r]?):Rel P β s w' where
  img:=fun b m hb hl=>Nat.lt_of_lt_of_le (h.img b m hb hl) hs
  obj:=fun b m o hb hl hg=>by
    obtain⟨o',h1,h2⟩:=h.obj b m o hb hl hg
    exact⟨o',by rw[hh _ (h.img b m hb hl)];exact h1,h2⟩
  inj:=h.inj
  room:=h.room
  top:=h.top
theorem wanted_eq'{P:Program}{β:Ren}{a:Fr}{a':Act}(ops:Array Oper)(o:Oper)
    (h:∀g q d,o.guard=some g→ops[g.1]? = some q→q.dst=some d→VRel P β (a.get d) (a'.tmps.getD d undef)):kQ ops.toList a o=Region.wanted o (yielded ops a'.tmps):=by
  unfold kQ Region.wanted
  split
  · rename_i hg;rw[hg]
  · rename_i j want hg
    have h:=fun q d=>h (j,want) q d hg
    rw[hg]
    simp only[yielded]
    rw[qR]
    cases hq:ops[j]? with
    |none=>
      have:ops.toList[j]? = none:=by simpa using hq
      rw[this]
      simp
    |some q=>
      have:ops.toList[j]? = some q:=by simpa using hq
      rw[this]
      simp only[Option.bind_some]
      cases hd:q.dst with
      |none=>simp
      |some d=>
        simp only[Option.bind_some]
        have hg:=h q d hq hd
        cases ht:a'.tmps[d]? with
        |none=>
          rw[Array.getD_eq_getD_getElem?,ht]at hg
          simp only[Option.getD_none]at hg
          have:∀b,a.get d≠.bool b:=fun b hb=>by rw[hb]at hg;cases hg
          cases hv:a.get d<;>first|rfl|exact(this _ hv).elim
        |some v=>
          rw[Array.getD_eq_getD_getElem?,ht]at hg
          simp only[Option.getD_some]at hg
          generalize a.get d=u at hg
          cases hg<;>first|rfl|(cases want<;>rename_i b<;>cases b<;>rfl)
theorem put_ge{a:Fr}(hs:a.size≤65534){dst:Option Tmp}{v:Value}{t:Nat}(h:a.size≤t):(a.put dst v).get t=a.get t:=by
  by_cases hd:dst=some t
  · subst hd
    unfold Fr.put
    simp only
    have:Nat.blt t a.size=false:=by
      rw[Bool.eq_false_iff];intro hh
      have:t<a.size:=by simpa[Nat.blt_eq]using hh
      omega
    rw[this]
  · exact put_other hs hd
section
variable{P:Program}{call:FuncId→Array Value→St→CallOut}{ops:Array Oper}{l:List Drawn}{anc:Nat→Nat}{N:Nat}{A:Nat→Fr}{S:Nat→St}{β₀:Ren}{w₀:World}{D₀:List Deferred}{ro:Option Nat}{a₀:Act}
structure Inv(P:Program)(ops:Array Oper)(l:List Drawn)(anc:Nat→Nat)(N:Nat)(A:Nat→Fr)(S:Nat→St)(β₀:Ren)(w₀:World)(D₀:List Deferred)(L:Nat→Prop)(M:Nat)(β:Ren)(a':Act)(w:World):Prop where
  closed:∀i k,i<ops.size→L i→(anc i).testBit k=true→L k
  before:∀(p:Nat) (d:Drawn),l[p]? = some d→L d.ix→p<M
  wholes:∀(p:Nat) (d:Drawn),l[p]? = some d→howW d.how=true→p<M→L d.ix
  leN:M≤N
  rel:Rel P β (S M) w
  le:β₀.le β
  dom:∀b m,β b=some m→β₀ b=some m∨∃(p:Nat) (d:Drawn),l[p]? = some d∧L d.ix∧(S p).next≤b∧b<(S (p+1)).next
  tsize:a'.tmps.size=(A 0).size
  defers:a'.defers=D₀
  filled:∀(p:Nat) (d:Drawn) (o:Oper) (t:Nat),l[p]? = some d→ops[d.ix]? = some o→L d.ix→o.dst=some t→t<(A 0).size→VRel P β ((A (p+1)).get t) (a'.tmps.getD t undef)
  old:∀t:Nat,t<(A 0).size→(∀(p:Nat) (d:Drawn) (o:Oper),l[p]? = some d→ops[d.ix]? = some o→L d.ix→o.dst≠some t)→VRel P β ((A 0).get t) (a'.tmps.getD t undef)
  size:w₀.heap.size≤w.heap.size
  out:∀r,r<w₀.heap.size→(∀b m o,β₀ b=some m→b<(S 0).next→(S 0).may b=true→(S 0).get b=some o→m.blk≠r)→w.heap[r]? = w₀.heap[r]?
  fresh:∀b m,β b=some m→β₀ b=none→w₀.heap.size≤m.blk∨∃b₁ m₁ o₁,β₀ b₁=some m₁∧b₁<(S 0).next∧(S 0).may b₁=true∧(S 0).get b₁=some o₁∧m₁.blk=m.blk
  os:w.os=w₀.os
  output:w.output=w₀.output
  tape:w.tape=w₀.tape
structure Ctx(P:Program)(call:FuncId→Array Value→St→CallOut)(ops:Array Oper)(l:List Drawn)(anc:Nat→Nat)(N:Nat)(A:Nat→Fr)(S:Nat→St)(β₀:Ren)(w₀:World)(a₀:Act):Prop where
  hc:CallS P call
  hk:∀f args s,WF s→(call f args s).keeps s
  plan:PlanOk ops l anc
  chain:Chain P call ops l N A S
  small:(A 0).size≤65534
  rel:Rel P β₀ (S 0) w₀
  fr:FRel P β₀ (A 0) a₀
  free:Free β₀ (S 0) (S N)
  opsB:∀(i:Nat) (o:Oper),ops[i]? = some o→o.op.operands.toList.all je=true
variable(C:Ctx P call ops l anc N A S β₀ w₀ a₀)
include C
theorem Ctx.wf0:WF (S 0):=⟨C.rel.room,C.rel.top⟩
theorem Ctx.wf{q:Nat}(hq:q≤N):WF (S q):=(C.chain.kp C.hk C.wf0 q hq).wf
theorem Ctx.kp{p q:Nat}(h:p≤q)(hq:q≤N):Kp (S p) (S q):=C.chain.kp2 C.hk C.wf0 p q h hq
theorem Ctx.pos{p q:Nat}{d e:Drawn}(hp:l[p]? = some d)(hq:l[q]? = some e)(h:d.ix=e.ix):p=q:=by
  rcases Nat.lt_trichotomy p q with hlt|heq|hlt
  · exact((C.plan.pair p q d e hlt hp hq).1 h).elim
  · exact heq
  · exact((C.plan.pair q p e d hlt hq hp).1 h.symm).elim
theorem Ctx.ahead{p q:Nat}{d e:Drawn}(hp:l[p]? = some d)(hq:l[q]? = some e)(h:(anc e.ix).testBit d.ix=true):p<q:=by
  rcases Nat.lt_trichotomy p q with hlt|heq|hlt
  · exact hlt
  · subst heq
    rw[hp]at hq;cases hq
    obtain⟨o,ho⟩:=C.plan.op p d hp
    have:=C.plan.below _ o _ ho h
    omega
  · have:=(C.plan.pair q p e d hlt hq hp).2.1
    rw[h]at this;cases this
theorem Ctx.stays{p:Nat}:∀q,p≤q→q≤N→(∀(r:Nat) (d:Drawn),p≤r→r<q→l[r]? = some d→howW d.how=false)→∀b,b<(S p).next→(S q).get b=(S p).get b:=by
  intro q
  induction q with
  | zero => intro hpq _ _ b _; have : p = 0 := by omega
            subst this;rfl
  |succ q ih=>
    intro hpq hq hno b hb
    by_cases he:p=q+1
    · subst he;rfl
    · obtain⟨d,o,h1,h2,hr⟩:=C.chain.step q O
      rw[drawOp_below C.hk (C.wf O) hr (hno q d O O h1) b (Nat.lt_of_lt_of_le hb (C.kp O O).next)]
      exact ih O O (fun r d h1 h2=>hno r d h1 O) b hb
variable{L:Nat→Prop}{M:Nat}{β:Ren}{a':Act}{w:World}(I:Inv P ops l anc N A S β₀ w₀ D₀ L M β a' w)
include I
theorem Ctx.known{b:Nat}{m:Img}(hb:β b=some m){q:Nat}(hq:q≤N)(hlt:b<(S q).next):b<(S M).next:=by
  rcases I.dom b m hb with h|⟨p,d,h1,h2,_,h4⟩
  · rcases Nat.lt_or_ge b (S 0).next with hh|hh
    · exact Nat.lt_of_lt_of_le hh (C.kp (Nat.zero_le _) I.leN).next
    · have:=C.free b hh (Nat.lt_of_lt_of_le hlt (C.kp hq (Nat.le_refl N)).next)
      rw[h]at this;cases this
  · exact Nat.lt_of_lt_of_le h4 (C.kp (I.before p d h1 h2) I.leN).next
theorem Ctx.done{i:Nat}{o:Oper}(ho:ops[i]? = some o)(he:∀e∈o.after.toList,Region.binds .any e=true→L e.on){k:Nat}(hk:(anc i).testBit k=true):L k:=by
  obtain⟨e,h1,h2,h3⟩:=C.plan.just i o k ho hk
  have hl:=he e h1 h2
  have hlt:=(C.plan.edges i o ho e h1 h2).1
  have hi:i<ops.size:=by
    rcases Nat.lt_or_ge i ops.size with hh|hh
    · exact hh
    · rw[Array.getElem?_eq_none hh]at ho;cases ho
  rcases h3 with h3|h3
  · rw[←h3];exact hl
  · exact I.closed e.on k O hl h3
theorem Ctx.slot{i j:Nat}{d:Drawn}(hj:l[j]? = some d)(hi:d.ix=i)(hjN:j≤N)(hn:¬L i)(hanc:∀k,(anc i).testBit k=true→L k)(t:Nat)
    (hw:∀u q,ops[u]? = some q→q.dst=some t→(anc i).testBit u=true∨u=i∨(anc u).testBit i=true):VRel P β ((A j).get t) (a'.tmps.getD t undef):=by
  subst hi
  by_cases ht:t<(A 0).size
  · by_cases hex:∃u q,ops[u]? = some q∧q.dst=some t∧L u
    · obtain⟨u,q,hq,hd,hl⟩:=hex
      have hu:u<ops.size:=by
        rcases Nat.lt_or_ge u ops.size with hh|hh
        · exact hh
        · rw[Array.getElem?_eq_none hh]at hq;cases hq
      obtain⟨p,e,hp,hix⟩:=C.plan.surj u hu
      have hanc':(anc d.ix).testBit u=true:=by
        rcases hw u q hq hd with h|h|h
        · exact h
        · rw[h]at hl;exact(hn hl).elim
        · exact(hn (I.closed u d.ix hu hl h)).elim
      have hpj:p<j:=C.ahead hp hj (by rw[hix];exact hanc')
      have hv:=I.filled p e q t hp (by rw[hix];exact hq) (by rw[hix];exact hl) hd ht
      have:(A j).get t=(A (p+1)).get t:=C.chain.keepsSlot C.small t (p+1) j O hjN fun r e' o' hr1 hr2 hr3 hr4 hr5=>by
        have heq:=C.plan.dst e'.ix u o' q t hr4 hq hr5 hd
        have:=C.pos hr3 hp (by rw[heq,hix])
        omega
      rw[this];exact hv
    · have hno:∀(p:Nat) (e:Drawn) (o:Oper),l[p]? = some e→ops[e.ix]? = some o→L e.ix→o.dst≠some t:=fun p e o _ h2 h3 h4=>hex ⟨e.ix,o,h2,h4,h3⟩
      have hv:=I.old t ht hno
      have:(A j).get t=(A 0).get t:=C.chain.keepsSlot C.small t 0 j (Nat.zero_le _) hjN fun r e' o' _ hr2 hr3 hr4 hr5=>by
        -- its writer is not done,so it does not lie ahead
        have hnl:¬L e'.ix:=fun hl=>hno r e' o' hr3 hr4 hl hr5
        rcases hw e'.ix o' hr4 hr5 with h|h|h
        · exact hnl (hanc _ h)
        · have:=C.pos hr3 hj h;omega
        · have:=C.ahead hj hr3 h;omega
      rw[this];exact hv
  · have h1:∀q,q≤N→(A q).get t=(A 0).get t:=by
      intro q
      induction q with
      |zero=>intro _;rfl
      |succ q ih=>
        intro hq
        obtain⟨d,o,_,_,hr⟩:=C.chain.step q O
        obtain⟨v,hv⟩:=drawOp_frame hr
        rw[hv,put_ge (by rw[C.chain.size q O];exact C.small) (by rw[C.chain.size q O];omega)]
        exact ih O
    rw[h1 j hjN]
    have h2:a'.tmps.getD t undef=a₀.tmps.getD t undef:=by
      rw[Array.getD_eq_getD_getElem?,Array.getD_eq_getD_getElem?,Array.getElem?_eq_none (by rw[I.tsize];omega),Array.getElem?_eq_none (by rw[C.fr.size];omega)]
    rw[h2]
    exact(C.fr.get t).mono I.le
theorem Ctx.operands{i j:Nat}{d:Drawn}{o:Oper}(hj:l[j]? = some d)(hi:d.ix=i)(hjN:j≤N)(ho:ops[i]? = some o)(hn:¬L i)(hanc:∀k,(anc i).testBit k=true→L k) :
    ∀x∈o.op.operands.toList,VRel P β ((A j).eval x) (a'.eval x):=by
  intro x hx
  have hall:=C.opsB i o ho
  rw[List.all_eq_true]at hall
  have hxb:=hall x hx
  cases x with
  |tmp t=>
    refine C.slot I hj hi hjN hn hanc t fun u q hq hd=>?_
    rcases C.plan.reads i o ho t hx u q hq hd with h|⟨_,h⟩
    · exact .inl h
    · exact .inr h
  |const v=>exact plainZ_rel hxb
  |global g=>simp[je]at hxb
  |func f=>exact .func .nil .nil rfl
theorem Ctx.wants{i j:Nat}{d:Drawn}{o:Oper}(hj:l[j]? = some d)(hi:d.ix=i)(hjN:j≤N)(ho:ops[i]? = some o)(hn:¬L i)(hanc:∀k,(anc i).testBit k=true→L k) :
    kQ ops.toList (A j) o=Region.wanted o (yielded ops a'.tmps):=by
  refine wanted_eq' (P:=P) (β:=β) ops o fun g q t hg hq hd=>?_
  refine C.slot I hj hi hjN hn hanc t fun u q' hq' hd'=>?_
  have:=C.plan.dst u g.1 q' q t hq' hq hd' hd
  subst this
  exact .inl (C.plan.guard i o g ho hg)
end
end Go.M
namespace Go.M
section
variable{P:Program}{call:FuncId→Array Value→St→CallOut}{ops:Array Oper}{l:List Drawn}{anc:Nat→Nat}{N:Nat}{A:Nat→Fr}{S:Nat→St}{β₀:Ren}{w₀:World}{D₀:List Deferred}{ro:Option Nat}{a₀:Act}
theorem put_same{a:Fr}(hs:a.size≤65534){v:Value}{t:Nat}(h:t<a.size):(a.put (some t) v).get t=v:=by
  unfold Fr.put
  simp only
  have:Nat.blt t a.size=true:=by simpa[Nat.blt_eq]using h
  rw[this]
  unfold Fr.get
  simp only
  rw [Tr.get_put fdepth _ _ _ _ (by have : (2 : Nat) ^ fdepth = 65536 := by decide
                                    omega),if_pos rfl]
theorem act_put_same{a':Act}{v':Value}{t:Nat}(h:t<a'.tmps.size):(a'.put (some t) v').tmps.getD t undef=v':=by
  unfold Act.put
  simp only
  rw[Array.getD_eq_getD_getElem?,Array.getElem?_setIfInBounds_self_of_lt h]
  rfl
theorem act_put_other{a':Act}{dst:Option Tmp}{v':Value}{t:Nat}(h:dst≠some t):(a'.put dst v').tmps.getD t undef=a'.tmps.getD t undef:=by
  unfold Act.put
  split
  · rename_i d
    rw[Array.getD_eq_getD_getElem?,Array.getD_eq_getD_getElem?,Array.getElem?_setIfInBounds_ne (fun e=>h (by rw[e]))]
  · rfl
theorem act_put_size{a':Act}{dst:Option Tmp}{v':Value}:(a'.put dst v').tmps.size=a'.tmps.size:=by
  unfold Act.put
  split<;>simp
structure Next1(ops:Array Oper)(l:List Drawn)(anc:Nat→Nat)(L:Nat→Prop)(i j:Nat)(d:Drawn)(o:Oper):Prop where
  hj:l[j]? = some d
  hi:d.ix=i
  ho:ops[i]? = some o
  hn:¬L i
  hanc:∀k,(anc i).testBit k=true→L k
variable(C:Ctx P call ops l anc N A S β₀ w₀ a₀){L:Nat→Prop}{M:Nat}{β:Ren}{a':Act}{w:World}(I:Inv P ops l anc N A S β₀ w₀ D₀ L M β a' w)
  {i j:Nat} {d:Drawn} {o:Oper} (X:Next1 ops l anc L i j d o)
include C I X
theorem Ctx.gap(r:Nat)(e:Drawn)(h1:M≤r)(h2:r<j)(he:l[r]? = some e):howW e.how=false:=by
  have hnl:¬L e.ix:=fun hl=>by have:=I.before r e he hl;omega
  have hp:=C.plan.pair r j e d h2 he X.hj
  cases hb:(anc d.ix).testBit e.ix with
  |true=>rw[X.hi]at hb;exact(hnl (X.hanc _ hb)).elim
  |false=>exact(hp.2.2 hb).1
theorem Ctx.gap2(r:Nat)(e:Drawn)(h1:j≤r)(h2:r<M)(he:l[r]? = some e)(hw:howW e.how=true):j<r∧(howL d.how=true∨howN d.how=true)∧(isLoad o=true∨howN d.how=true→i∈e.free):=by
  have hl:=I.wholes r e he hw h2
  have hne:j≠r:=fun heq=>by
    subst heq
    rw[X.hj]at he;cases he
    rw[X.hi]at hl;exact X.hn hl
  have hlt:j<r:=by omega
  have hp:=C.plan.pair j r d e hlt X.hj he
  obtain⟨oe,hoe⟩:=C.plan.op r e he
  have hsz:e.ix<ops.size:=by
    rcases Nat.lt_or_ge e.ix ops.size with hh|hh
    · exact hh
    · rw[Array.getElem?_eq_none hh]at hoe;cases hoe
  cases hb:(anc e.ix).testBit d.ix with
  |true=>rw[X.hi]at hb;exact(X.hn (I.closed e.ix i hsz hl hb)).elim
  |false=>
    obtain⟨g1,g2⟩:=(hp.2.2 hb).2 hw
    exact⟨hlt,g1,fun hld=>by have:=g2 o (by rw[X.hi];exact X.ho) hld;rw[X.hi]at this;exact this⟩
theorem Ctx.relAt(hjN:j≤N)(h:M≤j∨(howL d.how=false∧howN d.how=false)):Rel P β (S j) w:=by
  refine I.rel.at_state (C.wf hjN) (fun b m hb hlt=>C.known I hb hjN hlt) fun b m o' hb hlt hg=>?_
  rcases Nat.lt_or_ge j M with hjm|hjm
  · have hl:=h.resolve_left O
    rw[C.stays M O I.leN (fun r e h1 h2 he=>by
      cases hw:howW e.how with
      |false=>rfl
      |true=>
        rcases(C.gap2 I X r e h1 h2 he hw).2.1 with this|this
        · rw[hl.1]at this;cases this
        · rw[hl.2]at this;cases this) b hlt]
    exact hg
  · rw[←C.stays j hjm hjN (fun r e h1 h2 he=>C.gap I X r e h1 h2 he) b (C.known I hb hjN hlt)]
    exact hg
theorem Ctx.freeAt(hjN:j<N):Free β (S j) (S (j+1)):=fun b h1 h2=>by
  cases hb:β b with
  |none=>rfl
  |some m=>
    exfalso
    rcases I.dom b m hb with h|⟨p,e,g1,g2,g3,g4⟩
    · have:=C.free b (Nat.le_trans (C.kp (Nat.zero_le j) O).next h1) (Nat.lt_of_lt_of_le h2 (C.kp (by omega:j+1≤N) (Nat.le_refl N)).next)
      rw[h]at this;cases this
    · have hpM:=I.before p e g1 g2
      have hleN:=I.leN
      rcases Nat.lt_trichotomy p j with hlt|heq|hlt
      · have:=(C.kp (by omega:p+1≤j) O).next;omega
      · subst heq
        rw[X.hj]at g1;cases g1
        rw[X.hi]at g2;exact X.hn g2
      · have:=(C.kp (by omega:j+1≤p) O).next;omega
theorem Ctx.advance(hjN:j<N){v v':Value}(hA:A (j+1)=(A j).put o.dst v){M':Nat}(hM:M≤M')(hjM:j<M')(hM':M'≤N)
    (hw:∀(p:Nat) (e:Drawn),l[p]? = some e→howW e.how=true→p<M'→L e.ix∨e.ix=i) {β':Ren} {w':World} (hv:VRel P β' v v') (hrel:Rel P β' (S M') w') (hle:β.le β')
    (hdom:∀b m,β' b=some m→β b=none→(S j).next≤b∧b<(S (j+1)).next) (hsize:w.heap.size≤w'.heap.size)
    (hout:∀r,r<w.heap.size→(∀b m o,β b=some m→b<(S j).next→(S 0).may b=true→(S j).get b=some o→m.blk≠r)→w'.heap[r]? = w.heap[r]?)
    (hfresh:∀b m,β' b=some m→β b=none→w.heap.size≤m.blk∨∃b₁ m₁ o₁,β b₁=some m₁∧b₁<(S j).next∧(S 0).may b₁=true∧(S j).get b₁=some o₁∧m₁.blk=m.blk)
    (hos:w'.os=w.os) (hop:w'.output=w.output) (htp:w'.tape=w.tape) :
    Inv P ops l anc N A S β₀ w₀ D₀ (fun k=>L k∨k=i) M' β' (a'.put o.dst v') w':=by
  have hsm:=C.small
  have hszj:=C.chain.size j O
  -- what lives and may be written at the next operation's turn did so at the region's beginning
  have back:∀b m o,β b=some m→b<(S j).next→(S 0).may b=true→(S j).get b=some o→∀r,m.blk=r →
      w₀.heap.size≤r∨∃b₁ m₁ o₁,β₀ b₁=some m₁∧b₁<(S 0).next∧(S 0).may b₁=true∧(S 0).get b₁=some o₁∧m₁.blk=r:=by
    intro b m oo hb hlt hmay hg r hr
    cases h0:β₀ b with
    |some m₀=>
      have:=I.le b m₀ h0
      rw[hb]at this;cases this
      have hb0:b<(S 0).next:=by
        rcases Nat.lt_or_ge b (S 0).next with hh|hh
        · exact hh
        · have:=C.free b hh (Nat.lt_of_lt_of_le hlt (C.kp (by omega:j≤N) (Nat.le_refl N)).next)
          rw[h0]at this;cases this
      cases hg0:(S 0).get b with
      |none=>rw[(C.kp (Nat.zero_le j) O).dead b hb0 hg0]at hg;cases hg
      |some o₁=>exact .inr ⟨b,m,o₁,h0,hb0,hmay,hg0,hr⟩
    |none=>rw[←hr];exact I.fresh b m hb h0
  exact{
    closed:=fun k q hk hl hq=>by
      rcases hl with hl|hl
      · exact .inl (I.closed k q hk hl hq)
      · subst hl;exact .inl (X.hanc q hq)
    before:=fun p e hp hl=>by
      rcases hl with hl|hl
      · exact Nat.lt_of_lt_of_le (I.before p e hp hl) hM
      · have:=C.pos hp X.hj (by rw[hl,X.hi]);omega
    wholes:=hw
    leN:=hM'
    rel:=hrel
    le:=Ren.le_trans I.le hle
    dom:=fun b m hb=>by
      cases h1:β b with
      |some m₁=>
        have:=hle b m₁ h1
        rw[hb]at this;cases this
        rcases I.dom b m h1 with h|⟨p,e,g1,g2,g3,g4⟩
        · exact .inl h
        · exact .inr ⟨p,e,g1,.inl g2,g3,g4⟩
      |none=>
        obtain⟨g1,g2⟩:=hdom b m hb h1
        exact .inr ⟨j,d,X.hj,.inr X.hi,g1,g2⟩
    tsize:=by rw[act_put_size];exact I.tsize
    defers:=by rw[act_put_defers];exact I.defers
    filled:=fun p e q t hp hq hl hd ht=>by
      rcases hl with hl|hl
      · have hne:o.dst≠some t:=fun hh=>by
          have:=C.plan.dst e.ix i q o t hq X.ho hd hh
          rw[this]at hl;exact X.hn hl
        rw[act_put_other hne]
        exact(I.filled p e q t hp hq hl hd ht).mono hle
      · have hpj:=C.pos hp X.hj (by rw[hl,X.hi])
        subst hpj
        rw[hl,X.ho]at hq;cases hq
        rw[hA,hd,put_same O O,act_put_same (by rw[I.tsize];exact ht)]
        exact hv
    old:=fun t ht hno=>by
      have hne:o.dst≠some t:=hno j d o X.hj (by rw[X.hi];exact X.ho) (.inr X.hi)
      rw[act_put_other hne]
      exact(I.old t ht fun p e q hp hq hl=>hno p e q hp hq (.inl hl)).mono hle
    size:=Nat.le_trans I.size hsize
    out:=fun r hr hno=>by
      rw[←I.out r hr hno]
      refine hout r (Nat.lt_of_lt_of_le hr I.size) fun b m oo hb hlt hmay hg heq=>?_
      rcases back b m oo hb hlt hmay hg r heq with h|⟨b₁,m₁,o₁,g1,g2,g3,g4,g5⟩
      · omega
      · exact hno b₁ m₁ o₁ g1 g2 g3 g4 g5
    fresh:=fun b m hb h0=>by
      cases h1:β b with
      |some m₁=>
        have:=hle b m₁ h1
        rw[hb]at this;cases this
        exact I.fresh b m h1 h0
      |none=>
        rcases hfresh b m hb h1 with h|⟨b₁,m₁,o₁,g1,g2,g3,g4,g5⟩
        · exact .inl (Nat.le_trans I.size h)
        · exact back b₁ m₁ o₁ g1 g2 g3 g4 m.blk g5
    os:=hos.trans I.os
    output:=hop.trans I.output
    tape:=htp.trans I.tape}
omit I X in
theorem Ctx.mayAt(hjN:j≤N)(b:Nat):(S j).may b=(S 0).may b:=St.may_eq (C.kp (Nat.zero_le j) hjN).bar (C.kp (Nat.zero_le j) hjN).prot b
theorem Ctx.pass(hjN:j<N)(hr:qW P call ops.toList d o (A j) (S j)=.normal (A (j+1)) (S (j+1)))(hwant:kQ ops.toList (A j) o=false) :
    ∃M',Inv P ops l anc N A S β₀ w₀ D₀ (fun k=>L k∨k=i) M' β (a'.put o.dst undef) w:=by
  unfold qW at hr
  rw[hwant]at hr
  simp only[Out.normal.injEq]at hr
  obtain⟨hA,hS⟩:=hr
  rcases Nat.lt_or_ge j M with hjm|hjm
  · refine⟨M,C.advance I X hjN hA.symm (Nat.le_refl M) hjm I.leN (fun p e hp hw hlt=>.inl (I.wholes p e hp hw hlt)) undef_rel I.rel (Ren.le_refl β) V5 Z3 (fun _ _ _=>rfl) V5 rfl rfl rfl⟩
  · refine⟨j+1,C.advance I X hjN hA.symm O O O (fun p e hp hw hlt=>?_) undef_rel (by rw[←hS];exact C.relAt I X O (.inl hjm)) (Ren.le_refl β) V5 Z3 (fun _ _ _=>rfl) V5 rfl rfl rfl⟩
    rcases Nat.lt_or_ge p M with hpm|hpm
    · exact .inl (I.wholes p e hp hw hpm)
    · by_cases hpj:p=j
      · subst hpj;rw[X.hj]at hp;cases hp;exact .inr X.hi
      · have:=C.gap I X p e hpm O hp
        rw[hw]at this;cases this
end
end Go.M
