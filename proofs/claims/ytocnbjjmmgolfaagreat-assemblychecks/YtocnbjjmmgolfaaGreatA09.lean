/- A drawn region, in whatever order it runs. -/
/- A drawn region: one operation more. -/
/- A drawn region: the three kinds of operations; every order. -/
/- Drawn regions, whole. -/
import Derived.Test.YtocnbjjmmgolfaaGreatA08
namespace Go.M
theorem Rel.of_same{P:Program}{β:Ren}{s T:St}{w:World}(h:Rel P β s w)(hn:T.next=s.next)(hh:T.heap=s.heap)(hr:∀b m,β b=some m→b<s.next→m.ro=true→b<T.bar):Rel P β T w:=by
  have hg:∀b,T.get b=s.get b:=fun b=>by simp only[St.get,hh]
  exact{
    img:=by rw[hn];exact h.img
    obj:=fun b m o hb hlt hg'=>h.obj b m o hb O (by rw[←hg];exact hg')
    inj:=fun b b' m m' o o' h1 h2 l1 l2 g1 g2=>h.inj b b' m m' o o' h1 h2 O O (by rw[←hg];exact g1) (by rw[←hg];exact g2)
    ro:=fun b m h1 h2 h3=>hr b m h1 O h3
    room:=by rw[hn];exact h.room
    top:=fun b hb=>by rw[hg];exact h.top b O}
theorem Rel.at_state{P:Program}{β:Ren}{s T:St}{w:World}(h:Rel P β s w)(hT:WF T)(hlt:∀b m,β b=some m→b<T.next→b<s.next)
    (hg:∀b m o,β b=some m→b<T.next→T.get b=some o→s.get b=some o) (hr:∀b m,β b=some m→b<T.next→m.ro=true→b<T.bar):Rel P β T w where
  img:=fun b m hb hl=>h.img b m hb (hlt b m hb hl)
  obj:=fun b m o hb hl hgt=>h.obj b m o hb (hlt b m hb hl) (hg b m o hb hl hgt)
  inj:=fun b b' m m' o o' h1 h2 l1 l2 g1 g2=>h.inj b b' m m' o o' h1 h2 (hlt _ _ h1 l1) (hlt _ _ h2 l2) (hg _ _ _ h1 l1 g1) (hg _ _ _ h2 l2 g2)
  ro:=hr
  room:=hT.room
  top:=hT.top
theorem Ext.roOld{P:Program}{β β':Ren}{s s':St}{w w':World}(h:Ext P β s w β' s' w')(hb:s.bar≤s.next){b:Nat}{m:Img}(h1:β' b=some m)(h2:b<s'.next)(h3:m.ro=true):β b=some m∧b<s.next:=by
  have h4:=h.rel.ro b m h1 h2 h3
  rw[h.bar]at h4
  cases hq:β b with
  |some m'=>
    have:=h.le b m' hq
    rw[h1]at this
    cases this
    exact⟨rfl,by omega⟩
  |none=>
    have:=h.dom b m h1 hq
    omega
theorem Rel.grow{P:Program}{β:Ren}{s:St}{w w':World}(h:Rel P β s w)(hs:w.heap.size≤w'.heap.size)(hh:∀r,r<w.heap.size→w'.heap[r]? = w.heap[r]?):Rel P β s w' where
  img:=fun b m hb hl=>Nat.lt_of_lt_of_le (h.img b m hb hl) hs
  obj:=fun b m o hb hl hg=>by
    obtain⟨o',h1,h2⟩:=h.obj b m o hb hl hg
    exact⟨o',by rw[hh _ (h.img b m hb hl)];exact h1,h2⟩
  inj:=h.inj
  ro:=h.ro
  room:=h.room
  top:=h.top
theorem wanted_eq'{P:Program}{β:Ren}{a:Fr}{a':Act}(ops:Array Oper)(o:Oper)
    (h:∀g q d,o.guard=some g→ops[g.1]? = some q→q.dst=some d→VRel P β (a.get d) (a'.tmps.getD d undef)):yT ops.toList a o=Region.wanted o (yielded ops a'.tmps):=by
  unfold yT Region.wanted
  split
  · rename_i hg;rw[hg]
  · rename_i j want hg
    have h:=fun q d=>h (j,want) q d hg
    rw[hg]
    simp only[yielded]
    rw[zC]
    cases hq:ops[j]? with
    |none=>
      have:ops.toList[j]? = none:=by simpa using hq
      rw[this]
      simp
    |some q=>
      have:ops.toList[j]? = some q:=by simpa using hq
      rw[this]
      simp only[Option.bind_some]
      cases hd:q.dst with
      |none=>simp
      |some d=>
        simp only[Option.bind_some]
        have hg:=h q d hq hd
        cases ht:a'.tmps[d]? with
        |none=>
          rw[Array.getD_eq_getD_getElem?,ht]at hg
          simp only[Option.getD_none]at hg
          have:∀b,a.get d≠.bool b:=fun b hb=>by rw[hb]at hg;cases hg
          cases hv:a.get d<;>first|rfl|exact(this _ hv).elim
        |some v=>
          rw[Array.getD_eq_getD_getElem?,ht]at hg
          simp only[Option.getD_some]at hg
          generalize a.get d=u at hg
          cases hg<;>first|rfl|(cases want<;>rename_i b<;>cases b<;>rfl)
theorem put_ge{a:Fr}(hs:a.size≤65534){dst:Option Tmp}{v:Value}{t:Nat}(h:a.size≤t):(a.put dst v).get t=a.get t:=by
  by_cases hd:dst=some t
  · subst hd
    unfold Fr.put
    simp only
    have:Nat.blt t a.size=false:=by
      rw[Bool.eq_false_iff];intro hh
      have:t<a.size:=by simpa[Nat.blt_eq]using hh
      omega
    rw[this]
  · exact put_other hs hd
section
variable{P:Program}{call:FuncId→Array Value→St→CallOut}{ops:Array Oper}{l:List Drawn}{anc:Nat→Nat}{N:Nat}{A:Nat→Fr}{S:Nat→St}{β₀:Ren}{w₀:World}{D₀:List Deferred}{ro:Option Nat}{a₀:Act}
structure Inv(P:Program)(ops:Array Oper)(l:List Drawn)(anc:Nat→Nat)(N:Nat)(A:Nat→Fr)(S:Nat→St)(β₀:Ren)(w₀:World)(D₀:List Deferred)(L:Nat→Prop)(M:Nat)(β:Ren)(a':Act)(w:World):Prop where
  closed:∀i k,i<ops.size→L i→(anc i).testBit k=true→L k
  before:∀(p:Nat) (d:Drawn),l[p]? = some d→L d.ix→p<M
  wholes:∀(p:Nat) (d:Drawn),l[p]? = some d→howW d.how=true→p<M→L d.ix
  leN:M≤N
  rel:Rel P β (S M) w
  le:β₀.le β
  dom:∀b m,β b=some m→β₀ b=some m∨∃(p:Nat) (d:Drawn),l[p]? = some d∧L d.ix∧(S p).next≤b∧b<(S (p+1)).next
  tsize:a'.tmps.size=(A 0).size
  defers:a'.defers=D₀
  filled:∀(p:Nat) (d:Drawn) (o:Oper) (t:Nat),l[p]? = some d→ops[d.ix]? = some o→L d.ix→o.dst=some t→t<(A 0).size→VRel P β ((A (p+1)).get t) (a'.tmps.getD t undef)
  old:∀t:Nat,t<(A 0).size→(∀(p:Nat) (d:Drawn) (o:Oper),l[p]? = some d→ops[d.ix]? = some o→L d.ix→o.dst≠some t)→VRel P β ((A 0).get t) (a'.tmps.getD t undef)
  size:w₀.heap.size≤w.heap.size
  out:∀r,r<w₀.heap.size→(∀b m o,β₀ b=some m→b<(S 0).next→(S 0).may b=true→(S 0).get b=some o→m.blk≠r)→w.heap[r]? = w₀.heap[r]?
  fresh:∀b m,β b=some m→β₀ b=none→w₀.heap.size≤m.blk∨∃b₁ m₁ o₁,β₀ b₁=some m₁∧b₁<(S 0).next∧(S 0).may b₁=true∧(S 0).get b₁=some o₁∧m₁.blk=m.blk
  os:w.os=w₀.os
  output:w.output=w₀.output
  tape:w.tape=w₀.tape
structure Ctx(P:Program)(call:FuncId→Array Value→St→CallOut)(ops:Array Oper)(l:List Drawn)(anc:Nat→Nat)(N:Nat)(A:Nat→Fr)(S:Nat→St)(β₀:Ren)(w₀:World)(a₀:Act):Prop where
  hc:CallS P call
  hk:∀f args s,WF s→(call f args s).keeps s
  plan:PlanOk ops l anc
  chain:Chain P call ops l N A S
  small:(A 0).size≤65534
  rel:Rel P β₀ (S 0) w₀
  fr:FRel P β₀ (A 0) a₀
  free:Free β₀ (S 0) (S N)
  opsB:∀(i:Nat) (o:Oper),ops[i]? = some o→o.op.operands.toList.all xY=true
variable(C:Ctx P call ops l anc N A S β₀ w₀ a₀)
include C
theorem Ctx.wf0:WF (S 0):=⟨C.rel.room,C.rel.top⟩
theorem Ctx.wf{q:Nat}(hq:q≤N):WF (S q):=(C.chain.kp C.hk C.wf0 q hq).wf
theorem Ctx.kp{p q:Nat}(h:p≤q)(hq:q≤N):Kp (S p) (S q):=C.chain.kp2 C.hk C.wf0 p q h hq
theorem Ctx.pos{p q:Nat}{d e:Drawn}(hp:l[p]? = some d)(hq:l[q]? = some e)(h:d.ix=e.ix):p=q:=by
  rcases Nat.lt_trichotomy p q with hlt|heq|hlt
  · exact((C.plan.pair p q d e hlt hp hq).1 h).elim
  · exact heq
  · exact((C.plan.pair q p e d hlt hq hp).1 h.symm).elim
theorem Ctx.ahead{p q:Nat}{d e:Drawn}(hp:l[p]? = some d)(hq:l[q]? = some e)(h:(anc e.ix).testBit d.ix=true):p<q:=by
  rcases Nat.lt_trichotomy p q with hlt|heq|hlt
  · exact hlt
  · subst heq
    rw[hp]at hq;cases hq
    obtain⟨o,ho⟩:=C.plan.op p d hp
    have:=C.plan.below _ o _ ho h
    omega
  · have:=(C.plan.pair q p e d hlt hq hp).2.1
    rw[h]at this;cases this
theorem Ctx.stays{p:Nat}:∀q,p≤q→q≤N→(∀(r:Nat) (d:Drawn),p≤r→r<q→l[r]? = some d→howW d.how=false)→∀b,b<(S p).next→(S q).get b=(S p).get b:=by
  intro q
  induction q with
  | zero => intro hpq _ _ b _; have : p = 0 := by omega
            subst this;rfl
  |succ q ih=>
    intro hpq hq hno b hb
    by_cases he:p=q+1
    · subst he;rfl
    · obtain⟨d,o,h1,h2,hr⟩:=C.chain.step q O
      rw[drawOp_below C.hk (C.wf O) hr (hno q d O O h1) b (Nat.lt_of_lt_of_le hb (C.kp O O).next)]
      exact ih O O (fun r d h1 h2=>hno r d h1 O) b hb
variable{L:Nat→Prop}{M:Nat}{β:Ren}{a':Act}{w:World}(I:Inv P ops l anc N A S β₀ w₀ D₀ L M β a' w)
include I
theorem Ctx.known{b:Nat}{m:Img}(hb:β b=some m){q:Nat}(hq:q≤N)(hlt:b<(S q).next):b<(S M).next:=by
  rcases I.dom b m hb with h|⟨p,d,h1,h2,_,h4⟩
  · rcases Nat.lt_or_ge b (S 0).next with hh|hh
    · exact Nat.lt_of_lt_of_le hh (C.kp (Nat.zero_le _) I.leN).next
    · have:=C.free b hh (Nat.lt_of_lt_of_le hlt (C.kp hq (Nat.le_refl N)).next)
      rw[h]at this;cases this
  · exact Nat.lt_of_lt_of_le h4 (C.kp (I.before p d h1 h2) I.leN).next
theorem Ctx.done{i:Nat}{o:Oper}(ho:ops[i]? = some o)(he:∀e∈o.after.toList,Region.binds .any e=true→L e.on){k:Nat}(hk:(anc i).testBit k=true):L k:=by
  obtain⟨e,h1,h2,h3⟩:=C.plan.just i o k ho hk
  have hl:=he e h1 h2
  have hlt:=(C.plan.edges i o ho e h1 h2).1
  have hi:i<ops.size:=by
    rcases Nat.lt_or_ge i ops.size with hh|hh
    · exact hh
    · rw[Array.getElem?_eq_none hh]at ho;cases ho
  rcases h3 with h3|h3
  · rw[←h3];exact hl
  · exact I.closed e.on k O hl h3
theorem Ctx.slot{i j:Nat}{d:Drawn}(hj:l[j]? = some d)(hi:d.ix=i)(hjN:j≤N)(hn:¬L i)(hanc:∀k,(anc i).testBit k=true→L k)(t:Nat)
    (hw:∀u q,ops[u]? = some q→q.dst=some t→(anc i).testBit u=true∨u=i∨(anc u).testBit i=true):VRel P β ((A j).get t) (a'.tmps.getD t undef):=by
  subst hi
  by_cases ht:t<(A 0).size
  · by_cases hex:∃u q,ops[u]? = some q∧q.dst=some t∧L u
    · obtain⟨u,q,hq,hd,hl⟩:=hex
      have hu:u<ops.size:=by
        rcases Nat.lt_or_ge u ops.size with hh|hh
        · exact hh
        · rw[Array.getElem?_eq_none hh]at hq;cases hq
      obtain⟨p,e,hp,hix⟩:=C.plan.surj u hu
      have hanc':(anc d.ix).testBit u=true:=by
        rcases hw u q hq hd with h|h|h
        · exact h
        · rw[h]at hl;exact(hn hl).elim
        · exact(hn (I.closed u d.ix hu hl h)).elim
      have hpj:p<j:=C.ahead hp hj (by rw[hix];exact hanc')
      have hv:=I.filled p e q t hp (by rw[hix];exact hq) (by rw[hix];exact hl) hd ht
      have:(A j).get t=(A (p+1)).get t:=C.chain.keepsSlot C.small t (p+1) j O hjN fun r e' o' hr1 hr2 hr3 hr4 hr5=>by
        have heq:=C.plan.dst e'.ix u o' q t hr4 hq hr5 hd
        have:=C.pos hr3 hp (by rw[heq,hix])
        omega
      rw[this];exact hv
    · have hno:∀(p:Nat) (e:Drawn) (o:Oper),l[p]? = some e→ops[e.ix]? = some o→L e.ix→o.dst≠some t:=fun p e o _ h2 h3 h4=>hex ⟨e.ix,o,h2,h4,h3⟩
      have hv:=I.old t ht hno
      have:(A j).get t=(A 0).get t:=C.chain.keepsSlot C.small t 0 j (Nat.zero_le _) hjN fun r e' o' _ hr2 hr3 hr4 hr5=>by
        -- its writer is not done,so it does not lie ahead
        have hnl:¬L e'.ix:=fun hl=>hno r e' o' hr3 hr4 hl hr5
        rcases hw e'.ix o' hr4 hr5 with h|h|h
        · exact hnl (hanc _ h)
        · have:=C.pos hr3 hj h;omega
        · have:=C.ahead hj hr3 h;omega
      rw[this];exact hv
  · have h1:∀q,q≤N→(A q).get t=(A 0).get t:=by
      intro q
      induction q with
      |zero=>intro _;rfl
      |succ q ih=>
        intro hq
        obtain⟨d,o,_,_,hr⟩:=C.chain.step q O
        obtain⟨v,hv⟩:=drawOp_frame hr
        rw[hv,put_ge (by rw[C.chain.size q O];exact C.small) (by rw[C.chain.size q O];omega)]
        exact ih O
    rw[h1 j hjN]
    have h2:a'.tmps.getD t undef=a₀.tmps.getD t undef:=by
      rw[Array.getD_eq_getD_getElem?,Array.getD_eq_getD_getElem?,Array.getElem?_eq_none (by rw[I.tsize];omega),Array.getElem?_eq_none (by rw[C.fr.size];omega)]
    rw[h2]
    exact(C.fr.get t).mono I.le
theorem Ctx.operands{i j:Nat}{d:Drawn}{o:Oper}(hj:l[j]? = some d)(hi:d.ix=i)(hjN:j≤N)(ho:ops[i]? = some o)(hn:¬L i)(hanc:∀k,(anc i).testBit k=true→L k) :
    ∀x∈o.op.operands.toList,VRel P β ((A j).eval x) (a'.eval x):=by
  intro x hx
  have hall:=C.opsB i o ho
  rw[List.all_eq_true]at hall
  have hxb:=hall x hx
  cases x with
  |tmp t=>
    refine C.slot I hj hi hjN hn hanc t fun u q hq hd=>?_
    rcases C.plan.reads i o ho t hx u q hq hd with h|⟨_,h⟩
    · exact .inl h
    · exact .inr h
  |const v=>exact plainZ_rel hxb
  |global g=>simp[xY]at hxb
  |func f=>exact .func .nil .nil rfl
theorem Ctx.wants{i j:Nat}{d:Drawn}{o:Oper}(hj:l[j]? = some d)(hi:d.ix=i)(hjN:j≤N)(ho:ops[i]? = some o)(hn:¬L i)(hanc:∀k,(anc i).testBit k=true→L k) :
    yT ops.toList (A j) o=Region.wanted o (yielded ops a'.tmps):=by
  refine wanted_eq' (P:=P) (β:=β) ops o fun g q t hg hq hd=>?_
  refine C.slot I hj hi hjN hn hanc t fun u q' hq' hd'=>?_
  have:=C.plan.dst u g.1 q' q t hq' hq hd' hd
  subst this
  exact .inl (C.plan.guard i o g ho hg)
end
end Go.M
namespace Go.M
section
variable{P:Program}{call:FuncId→Array Value→St→CallOut}{ops:Array Oper}{l:List Drawn}{anc:Nat→Nat}{N:Nat}{A:Nat→Fr}{S:Nat→St}{β₀:Ren}{w₀:World}{D₀:List Deferred}{ro:Option Nat}{a₀:Act}
theorem put_same{a:Fr}(hs:a.size≤65534){v:Value}{t:Nat}(h:t<a.size):(a.put (some t) v).get t=v:=by
  unfold Fr.put
  simp only
  have:Nat.blt t a.size=true:=by simpa[Nat.blt_eq]using h
  rw[this]
  unfold Fr.get
  simp only
  rw [Tr.get_put fdepth _ _ _ _ (by have : (2 : Nat) ^ fdepth = 65536 := by decide
                                    omega),if_pos rfl]
theorem act_put_same{a':Act}{v':Value}{t:Nat}(h:t<a'.tmps.size):(a'.put (some t) v').tmps.getD t undef=v':=by
  unfold Act.put
  simp only
  rw[Array.getD_eq_getD_getElem?,Array.getElem?_setIfInBounds_self_of_lt h]
  rfl
theorem act_put_other{a':Act}{dst:Option Tmp}{v':Value}{t:Nat}(h:dst≠some t):(a'.put dst v').tmps.getD t undef=a'.tmps.getD t undef:=by
  unfold Act.put
  split
  · rename_i d
    rw[Array.getD_eq_getD_getElem?,Array.getD_eq_getD_getElem?,Array.getElem?_setIfInBounds_ne (fun e=>h (by rw[e]))]
  · rfl
theorem act_put_size{a':Act}{dst:Option Tmp}{v':Value}:(a'.put dst v').tmps.size=a'.tmps.size:=by
  unfold Act.put
  split<;>simp
structure Next1(ops:Array Oper)(l:List Drawn)(anc:Nat→Nat)(L:Nat→Prop)(i j:Nat)(d:Drawn)(o:Oper):Prop where
  hj:l[j]? = some d
  hi:d.ix=i
  ho:ops[i]? = some o
  hn:¬L i
  hanc:∀k,(anc i).testBit k=true→L k
variable(C:Ctx P call ops l anc N A S β₀ w₀ a₀){L:Nat→Prop}{M:Nat}{β:Ren}{a':Act}{w:World}(I:Inv P ops l anc N A S β₀ w₀ D₀ L M β a' w)
  {i j:Nat} {d:Drawn} {o:Oper} (X:Next1 ops l anc L i j d o)
include C I X
theorem Ctx.gap(r:Nat)(e:Drawn)(h1:M≤r)(h2:r<j)(he:l[r]? = some e):howW e.how=false:=by
  have hnl:¬L e.ix:=fun hl=>by have:=I.before r e he hl;omega
  have hp:=C.plan.pair r j e d h2 he X.hj
  cases hb:(anc d.ix).testBit e.ix with
  |true=>rw[X.hi]at hb;exact(hnl (X.hanc _ hb)).elim
  |false=>exact(hp.2.2 hb).1
theorem Ctx.gap2(r:Nat)(e:Drawn)(h1:j≤r)(h2:r<M)(he:l[r]? = some e)(hw:howW e.how=true):j<r∧(howL d.how=true∨howN d.how=true)∧(isLd o=true∨howN d.how=true→i∈e.free):=by
  have hl:=I.wholes r e he hw h2
  have hne:j≠r:=fun heq=>by
    subst heq
    rw[X.hj]at he;cases he
    rw[X.hi]at hl;exact X.hn hl
  have hlt:j<r:=by omega
  have hp:=C.plan.pair j r d e hlt X.hj he
  obtain⟨oe,hoe⟩:=C.plan.op r e he
  have hsz:e.ix<ops.size:=by
    rcases Nat.lt_or_ge e.ix ops.size with hh|hh
    · exact hh
    · rw[Array.getElem?_eq_none hh]at hoe;cases hoe
  cases hb:(anc e.ix).testBit d.ix with
  |true=>rw[X.hi]at hb;exact(X.hn (I.closed e.ix i hsz hl hb)).elim
  |false=>
    obtain⟨g1,g2⟩:=(hp.2.2 hb).2 hw
    exact⟨hlt,g1,fun hld=>by have:=g2 o (by rw[X.hi];exact X.ho) hld;rw[X.hi]at this;exact this⟩
theorem Ctx.relAt(hjN:j≤N)(h:M≤j∨(howL d.how=false∧howN d.how=false)):Rel P β (S j) w:=by
  refine I.rel.at_state (C.wf hjN) (fun b m hb hlt=>C.known I hb hjN hlt) (fun b m o' hb hlt hg=>?_) fun b m hb hlt hr=>by
    have:=I.rel.ro b m hb (C.known I hb hjN hlt) hr
    have e1:=(C.kp (Nat.zero_le j) hjN).bar
    have e2:=(C.kp (Nat.zero_le M) I.leN).bar
    omega
  rcases Nat.lt_or_ge j M with hjm|hjm
  · have hl:=h.resolve_left O
    rw[C.stays M O I.leN (fun r e h1 h2 he=>by
      cases hw:howW e.how with
      |false=>rfl
      |true=>
        rcases(C.gap2 I X r e h1 h2 he hw).2.1 with this|this
        · rw[hl.1]at this;cases this
        · rw[hl.2]at this;cases this) b hlt]
    exact hg
  · rw[←C.stays j hjm hjN (fun r e h1 h2 he=>C.gap I X r e h1 h2 he) b (C.known I hb hjN hlt)]
    exact hg
theorem Ctx.freeAt(hjN:j<N):Free β (S j) (S (j+1)):=fun b h1 h2=>by
  cases hb:β b with
  |none=>rfl
  |some m=>
    exfalso
    rcases I.dom b m hb with h|⟨p,e,g1,g2,g3,g4⟩
    · have:=C.free b (Nat.le_trans (C.kp (Nat.zero_le j) O).next h1) (Nat.lt_of_lt_of_le h2 (C.kp (by omega:j+1≤N) (Nat.le_refl N)).next)
      rw[h]at this;cases this
    · have hpM:=I.before p e g1 g2
      have hleN:=I.leN
      rcases Nat.lt_trichotomy p j with hlt|heq|hlt
      · have:=(C.kp (by omega:p+1≤j) O).next;omega
      · subst heq
        rw[X.hj]at g1;cases g1
        rw[X.hi]at g2;exact X.hn g2
      · have:=(C.kp (by omega:j+1≤p) O).next;omega
theorem Ctx.advance(hjN:j<N){v v':Value}(hA:A (j+1)=(A j).put o.dst v){M':Nat}(hM:M≤M')(hjM:j<M')(hM':M'≤N)
    (hw:∀(p:Nat) (e:Drawn),l[p]? = some e→howW e.how=true→p<M'→L e.ix∨e.ix=i) {β':Ren} {w':World} (hv:VRel P β' v v') (hrel:Rel P β' (S M') w') (hle:β.le β')
    (hdom:∀b m,β' b=some m→β b=none→(S j).next≤b∧b<(S (j+1)).next) (hsize:w.heap.size≤w'.heap.size)
    (hout:∀r,r<w.heap.size→(∀b m o,β b=some m→b<(S j).next→(S 0).may b=true→(S j).get b=some o→m.blk≠r)→w'.heap[r]? = w.heap[r]?)
    (hfresh:∀b m,β' b=some m→β b=none→w.heap.size≤m.blk∨∃b₁ m₁ o₁,β b₁=some m₁∧b₁<(S j).next∧(S 0).may b₁=true∧(S j).get b₁=some o₁∧m₁.blk=m.blk)
    (hos:w'.os=w.os) (hop:w'.output=w.output) (htp:w'.tape=w.tape) :
    Inv P ops l anc N A S β₀ w₀ D₀ (fun k=>L k∨k=i) M' β' (a'.put o.dst v') w':=by
  have hsm:=C.small
  have hszj:=C.chain.size j O
  -- what lives and may be written at the next operation's turn did so at the region's beginning
  have back:∀b m o,β b=some m→b<(S j).next→(S 0).may b=true→(S j).get b=some o→∀r,m.blk=r →
      w₀.heap.size≤r∨∃b₁ m₁ o₁,β₀ b₁=some m₁∧b₁<(S 0).next∧(S 0).may b₁=true∧(S 0).get b₁=some o₁∧m₁.blk=r:=by
    intro b m oo hb hlt hmay hg r hr
    cases h0:β₀ b with
    |some m₀=>
      have:=I.le b m₀ h0
      rw[hb]at this;cases this
      have hb0:b<(S 0).next:=by
        rcases Nat.lt_or_ge b (S 0).next with hh|hh
        · exact hh
        · have:=C.free b hh (Nat.lt_of_lt_of_le hlt (C.kp (by omega:j≤N) (Nat.le_refl N)).next)
          rw[h0]at this;cases this
      cases hg0:(S 0).get b with
      |none=>rw[(C.kp (Nat.zero_le j) O).dead b hb0 hg0]at hg;cases hg
      |some o₁=>exact .inr ⟨b,m,o₁,h0,hb0,hmay,hg0,hr⟩
    |none=>rw[←hr];exact I.fresh b m hb h0
  exact{
    closed:=fun k q hk hl hq=>by
      rcases hl with hl|hl
      · exact .inl (I.closed k q hk hl hq)
      · subst hl;exact .inl (X.hanc q hq)
    before:=fun p e hp hl=>by
      rcases hl with hl|hl
      · exact Nat.lt_of_lt_of_le (I.before p e hp hl) hM
      · have:=C.pos hp X.hj (by rw[hl,X.hi]);omega
    wholes:=hw
    leN:=hM'
    rel:=hrel
    le:=Ren.le_trans I.le hle
    dom:=fun b m hb=>by
      cases h1:β b with
      |some m₁=>
        have:=hle b m₁ h1
        rw[hb]at this;cases this
        rcases I.dom b m h1 with h|⟨p,e,g1,g2,g3,g4⟩
        · exact .inl h
        · exact .inr ⟨p,e,g1,.inl g2,g3,g4⟩
      |none=>
        obtain⟨g1,g2⟩:=hdom b m hb h1
        exact .inr ⟨j,d,X.hj,.inr X.hi,g1,g2⟩
    tsize:=by rw[act_put_size];exact I.tsize
    defers:=by rw[act_put_defers];exact I.defers
    filled:=fun p e q t hp hq hl hd ht=>by
      rcases hl with hl|hl
      · have hne:o.dst≠some t:=fun hh=>by
          have:=C.plan.dst e.ix i q o t hq X.ho hd hh
          rw[this]at hl;exact X.hn hl
        rw[act_put_other hne]
        exact(I.filled p e q t hp hq hl hd ht).mono hle
      · have hpj:=C.pos hp X.hj (by rw[hl,X.hi])
        subst hpj
        rw[hl,X.ho]at hq;cases hq
        rw[hA,hd,put_same O O,act_put_same (by rw[I.tsize];exact ht)]
        exact hv
    old:=fun t ht hno=>by
      have hne:o.dst≠some t:=hno j d o X.hj (by rw[X.hi];exact X.ho) (.inr X.hi)
      rw[act_put_other hne]
      exact(I.old t ht fun p e q hp hq hl=>hno p e q hp hq (.inl hl)).mono hle
    size:=Nat.le_trans I.size hsize
    out:=fun r hr hno=>by
      rw[←I.out r hr hno]
      refine hout r (Nat.lt_of_lt_of_le hr I.size) fun b m oo hb hlt hmay hg heq=>?_
      rcases back b m oo hb hlt hmay hg r heq with h|⟨b₁,m₁,o₁,g1,g2,g3,g4,g5⟩
      · omega
      · exact hno b₁ m₁ o₁ g1 g2 g3 g4 g5
    fresh:=fun b m hb h0=>by
      cases h1:β b with
      |some m₁=>
        have:=hle b m₁ h1
        rw[hb]at this;cases this
        exact I.fresh b m h1 h0
      |none=>
        rcases hfresh b m hb h1 with h|⟨b₁,m₁,o₁,g1,g2,g3,g4,g5⟩
        · exact .inl (Nat.le_trans I.size h)
        · exact back b₁ m₁ o₁ g1 g2 g3 g4 m.blk g5
    os:=hos.trans I.os
    output:=hop.trans I.output
    tape:=htp.trans I.tape}
omit I X in
theorem Ctx.mayAt(hjN:j≤N)(b:Nat):(S j).may b=(S 0).may b:=St.may_eq (C.kp (Nat.zero_le j) hjN).bar (C.kp (Nat.zero_le j) hjN).prot b
theorem Ctx.pass(hjN:j<N)(hr:yd P call ops.toList d o (A j) (S j)=.normal (A (j+1)) (S (j+1)))(hwant:yT ops.toList (A j) o=false) :
    ∃M',Inv P ops l anc N A S β₀ w₀ D₀ (fun k=>L k∨k=i) M' β (a'.put o.dst undef) w:=by
  unfold yd at hr
  rw[hwant]at hr
  simp only[Out.normal.injEq]at hr
  obtain⟨hA,hS⟩:=hr
  rcases Nat.lt_or_ge j M with hjm|hjm
  · refine⟨M,C.advance I X hjN hA.symm (Nat.le_refl M) hjm I.leN (fun p e hp hw hlt=>.inl (I.wholes p e hp hw hlt)) undef_rel I.rel (Ren.le_refl β) V5 Z3 (fun _ _ _=>rfl) V5 rfl rfl rfl⟩
  · refine⟨j+1,C.advance I X hjN hA.symm O O O (fun p e hp hw hlt=>?_) undef_rel (by rw[←hS];exact C.relAt I X O (.inl hjm)) (Ren.le_refl β) V5 Z3 (fun _ _ _=>rfl) V5 rfl rfl rfl⟩
    rcases Nat.lt_or_ge p M with hpm|hpm
    · exact .inl (I.wholes p e hp hw hpm)
    · by_cases hpj:p=j
      · subst hpj;rw[X.hj]at hp;cases hp;exact .inr X.hi
      · have:=C.gap I X p e hpm O hp
        rw[hw]at this;cases this
end
end Go.M
namespace Go.M
section
variable{P:Program}{call:FuncId→Array Value→St→CallOut}{ops:Array Oper}{l:List Drawn}{anc:Nat→Nat}{N:Nat}{A:Nat→Fr}{S:Nat→St}{β₀:Ren}{w₀:World}{D₀:List Deferred}{ro:Option Nat}{a₀:Act}
theorem frame_eq{o:Oper}{a:Fr}{v:Value}{s s₁:St}{a₁:Fr}(hr:opM P call o a s=.normal a₁ s₁){s':St}(h:opM P call o a s=.normal (a.put o.dst v) s'):a₁=a.put o.dst v∧s'=s₁:=by
  rw[hr]at h
  simp only[Out.normal.injEq]at h
  exact⟨h.1,h.2.symm⟩
variable(C:Ctx P call ops l anc N A S β₀ w₀ a₀){L:Nat→Prop}{M:Nat}{β:Ren}{a':Act}{w:World}(I:Inv P ops l anc N A S β₀ w₀ D₀ L M β a' w)
  {i j:Nat} {d:Drawn} {o:Oper} (X:Next1 ops l anc L i j d o)
include C I X
theorem Ctx.wholesTo(hjm:M≤j)(p:Nat)(e:Drawn)(hp:l[p]? = some e)(hw:howW e.how=true)(hlt:p<j+1):L e.ix∨e.ix=i:=by
  rcases Nat.lt_or_ge p M with hpm|hpm
  · exact .inl (I.wholes p e hp hw hpm)
  · by_cases hpj:p=j
    · subst hpj;rw[X.hj]at hp;cases hp;exact .inr X.hi
    · have:=C.gap I X p e hpm O hp
      rw[hw]at this;cases this
omit C in
theorem wholeJ(hh:howW d.how=true):M≤j:=by
  rcases Nat.lt_or_ge j M with hjm|hjm
  · have:=I.wholes j d X.hj hh hjm
    rw[X.hi]at this
    exact(X.hn this).elim
  · exact hjm
theorem Ctx.whole(hjN:j<N)(hr:yd P call ops.toList d o (A j) (S j)=.normal (A (j+1)) (S (j+1)))(hwant:yT ops.toList (A j) o=true)(hh:d.how=.whole)
    (K:Act→World→Prop) (Q:Exit→Act→World→Prop)
    (hK:∀M' β' v' w',Inv P ops l anc N A S β₀ w₀ D₀ (fun k=>L k∨k=i) M' β' (a'.put o.dst v') w'→K (a'.put o.dst v') w'):o.wpIn (FW ro) 0 P a' w K Q:=by
  have hW:howW d.how=true:=by rw[hh];rfl
  have hjm:=wholeJ I X hW
  unfold yd at hr
  rw[hwant,hh]at hr
  simp only at hr
  have hfree:=C.freeAt I X hjN
  let sm:St:={S j with prot:=yh ops.toList (A j) d.free++(S j).prot}
  have hrel:Rel P β sm w:=(C.relAt I X O (.inl hjm)).of_same rfl rfl (C.relAt I X O (.inl hjm)).ro
  split at hr
  · rename_i a₁ s₁ hop
    simp only[Out.normal.injEq]at hr
    obtain⟨hA,hS⟩:=hr
    have hnext:(S (j+1)).next=s₁.next:=by rw[←hS]
    refine op_sound C.hc hrel (C.operands I X.hj X.hi O X.ho X.hn X.hanc) (by rw[hop];simp) (by rw[hop];exact fun b h1 h2=>hfree b h1 (by rw[hnext];exact h2)) K Q (fun v v' s' β' w' he hx hv=>?_) (fun c c' s' β' w' he=>by rw[hop]at he;cases he) ro
    obtain⟨e1,e2⟩:=frame_eq hop he
    subst e2
    refine hK (j+1) β' v' w' (C.advance I X hjN (by rw[←hA,e1]) O O O (C.wholesTo I X hjm) hv ?_ hx.le (fun b m h1 h2=>by rw[hnext];exact hx.dom b m h1 h2) hx.size (fun r hr hno=>?_) (fun b m h1 h2=>?_) hx.os hx.output hx.tape)
    · refine hx.rel.of_same hnext (by rw[←hS]) fun b m h1 h2 h3=>?_
      have:=hx.rel.ro b m h1 h2 h3
      rw[hx.bar]at this
      rw[←hS]
      exact this
    · refine hx.out r hr fun b m oo hb hlt hmay hg=>hno b m oo hb hlt ?_ hg
      rw[←C.mayAt (by omega:j≤N)]
      unfold St.may at hmay ⊢
      simp only[sm,Bool.and_eq_true,Bool.not_eq_true',List.any_append,Bool.or_eq_false_iff]at hmay ⊢
      exact⟨hmay.1,hmay.2.2⟩
    · rcases hx.fresh b m h1 h2 with h|⟨b₁,m₁,o₁,g1,g2,g3,g4,g5⟩
      · exact .inl h
      · refine .inr ⟨b₁,m₁,o₁,g1,g2,?_,g4,g5⟩
        rw[←C.mayAt (by omega:j≤N)]
        unfold St.may at g3 ⊢
        simp only[sm,Bool.and_eq_true,Bool.not_eq_true',List.any_append,Bool.or_eq_false_iff]at g3 ⊢
        exact⟨g3.1,g3.2.2⟩
  · cases hr
  · cases hr
omit C I X in
theorem no_may{s:St}{b:Nat}(hb:b<s.next)(p:List Nat):({s with bar:=s.next,prot:=p}:St).may b=false:=by
  unfold St.may
  simp only[Bool.and_eq_false_iff]
  left
  rw[Bool.eq_false_iff]
  intro hh
  have:=Nat.le_of_ble_eq_true hh
  omega
theorem Ctx.freshOp(hjN:j<N)(hr:yd P call ops.toList d o (A j) (S j)=.normal (A (j+1)) (S (j+1)))(hwant:yT ops.toList (A j) o=true)(hh:d.how=.fresh)
    (K:Act→World→Prop) (Q:Exit→Act→World→Prop)
    (hK:∀M' β' v' w',Inv P ops l anc N A S β₀ w₀ D₀ (fun k=>L k∨k=i) M' β' (a'.put o.dst v') w'→K (a'.put o.dst v') w'):o.wpIn (FW ro) 0 P a' w K Q:=by
  unfold yd at hr
  rw[hwant,hh]at hr
  simp only at hr
  have hfree:=C.freeAt I X hjN
  have hrelj:Rel P β (S j) w:=C.relAt I X O (.inr ⟨by rw[hh];rfl,by rw[hh];rfl⟩)
  let sm:St:={S j with bar:=(S j).next}
  have hrel:Rel P β sm w:=hrelj.of_same rfl rfl fun b m h1 h2 h3=>h2
  split at hr
  · rename_i a₁ s₁ hop
    simp only[Out.normal.injEq]at hr
    obtain⟨hA,hS⟩:=hr
    have hnext:(S (j+1)).next=s₁.next:=by rw[←hS]
    refine op_sound C.hc hrel (C.operands I X.hj X.hi O X.ho X.hn X.hanc) (by rw[hop];simp) (by rw[hop];exact fun b h1 h2=>hfree b h1 (by rw[hnext];exact h2)) K Q (fun v v' s' β' w' he hx hv=>?_) (fun c c' s' β' w' he=>by rw[hop]at he;cases he) ro
    obtain⟨e1,e2⟩:=frame_eq hop he
    subst e2
    -- nothing that was there is written
    have hkept:∀r,r<w.heap.size→w'.heap[r]? = w.heap[r]? :=fun r hr=>hx.out r hr fun b m oo hb hlt hmay=>by
      have:=no_may (s:=S j) hlt (S j).prot
      rw[this]at hmay;cases hmay
    have hnew:∀b m,β' b=some m→β b=none→w.heap.size≤m.blk:=fun b m h1 h2=>by
      rcases hx.fresh b m h1 h2 with h|⟨b₁,m₁,o₁,g1,g2,g3,_⟩
      · exact h
      · have:=no_may (s:=S j) g2 (S j).prot
        rw[this]at g3;cases g3
    have hrel1:Rel P β' (S (j+1)) w':=hx.rel.of_same hnext (by rw[←hS]) fun b m h1 h2 h3=>by
      obtain⟨q1,q2⟩:=hx.roOld Z3 h1 h2 h3
      rw[←hS]
      exact hrelj.ro b m q1 q2 h3
    rcases Nat.lt_or_ge j M with hjm|hjm
    · -- others behind it are done
      have hstay:∀b,b<(S (j+1)).next→(S M).get b=(S (j+1)).get b:=C.stays M O I.leN (fun r e h1 h2 he=>by
        cases hw:howW e.how with
        |false=>rfl
        |true=>rcases(C.gap2 I X r e O h2 he hw).2.1 with this|this<;>(rw[hh]at this;cases this))
      have holdrel:=(I.rel.grow hx.size hkept)
      have back:∀b m,β' b=some m→b<(S M).next→β b=some m∨(β b=none∧b<(S (j+1)).next):=fun b m h1 _=>by
        cases hb:β b with
        |some m₁=>have:=hx.le b m₁ hb;rw[h1]at this;cases this;exact .inl rfl
        |none=>exact .inr ⟨rfl,by rw[hnext];exact(hx.dom b m h1 hb).2⟩
      have hrelM:Rel P β' (S M) w':={
        img:=fun b m h1 h2=>by
          rcases back b m h1 h2 with h|⟨_,h⟩
          · exact holdrel.img b m h h2
          · exact hrel1.img b m h1 h
        obj:=fun b m oo h1 h2 hg=>by
          rcases back b m h1 h2 with h|⟨_,h⟩
          · obtain⟨o',q1,q2⟩:=holdrel.obj b m oo h h2 hg
            exact⟨o',q1,q2.mono hx.le⟩
          · exact hrel1.obj b m oo h1 h (by rw[←hstay b h];exact hg)
        inj:=fun b1 b2 m1 m2 o1 o2 h1 h2 l1 l2 g1 g2 e=>by
          rcases back b1 m1 h1 l1 with k1|⟨k1,k1'⟩
          · rcases back b2 m2 h2 l2 with k2|⟨k2,k2'⟩
            · exact holdrel.inj b1 b2 m1 m2 o1 o2 k1 k2 l1 l2 g1 g2 e
            · have:=I.rel.img b1 m1 k1 l1
              have:=hnew b2 m2 h2 k2
              omega
          · rcases back b2 m2 h2 l2 with k2|⟨k2,k2'⟩
            · have:=I.rel.img b2 m2 k2 l2
              have:=hnew b1 m1 h1 k1
              omega
            · exact hrel1.inj b1 b2 m1 m2 o1 o2 h1 h2 k1' k2' (by rw[←hstay b1 k1'];exact g1) (by rw[←hstay b2 k2'];exact g2) e
        ro:=fun b m h1 h2 h3=>by
          rcases back b m h1 h2 with k|⟨k,k'⟩
          · exact holdrel.ro b m k h2 h3
          · obtain⟨q1,_⟩:=hx.roOld Z3 h1 (by rw[←hnext];exact k') h3
            rw[k]at q1;cases q1
        room:=I.rel.room
        top:=I.rel.top}
      exact hK M β' v' w' (C.advance I X hjN (by rw[←hA,e1]) (Nat.le_refl M) hjm I.leN (fun p e hp hw hlt=>.inl (I.wholes p e hp hw hlt)) hv hrelM hx.le (fun b m h1 h2=>by rw[hnext];exact hx.dom b m h1 h2) hx.size (fun r hr _=>hkept r hr) (fun b m h1 h2=>.inl (hnew b m h1 h2)) hx.os hx.output hx.tape)
    · exact hK (j+1) β' v' w' (C.advance I X hjN (by rw[←hA,e1]) O O O (C.wholesTo I X hjm) hv hrel1 hx.le (fun b m h1 h2=>by rw[hnext];exact hx.dom b m h1 h2) hx.size (fun r hr _=>hkept r hr) (fun b m h1 h2=>.inl (hnew b m h1 h2)) hx.os hx.output hx.tape)
  · cases hr
theorem Ctx.loadKept(hjN:j≤N)(hli:isLight o=true){b:Nat}(hb:yK (A j) o=some b)(hlt:b<(S j).next)(hjm:j<M):(S M).get b=(S j).get b:=by
  have hld:isLd o=true:=by
    unfold yK at hb
    split at hb
    · rename_i t x hop;simp[isLd,isLoad,hop]
    · rename_i t x lo hi hop;simp[isLd,isSlc,hop]
    · rename_i hop;simp[isLight,isLight0,isSlc,hop]at hli
    · rename_i hop;simp[isLight,isLight0,isSlc,hop]at hli
    · cases hb
  -- its address is the same at every later turn
  have same:∀q,j≤q→q≤N→yK (A q) o=some b:=fun q hq hqN=>by
    unfold yK at hb ⊢
    split at hb
    · rename_i t x hop
      have:(A q).eval x=(A j).eval x:=by
        cases x with
        |tmp u=>
          refine C.chain.keepsSlot C.small u j q hq hqN fun r e oe h1 h2 he hoe hd=>?_
          rcases C.plan.reads i o X.ho u (by rw[hop];simp[Op.operands]) e.ix oe hoe hd with h|⟨h,_⟩
          · have:=C.ahead he X.hj (by rw[X.hi];exact h);omega
          · rw[hld]at h;cases h
        |const v=>rfl
        |global g=>rfl
        |func f=>rfl
      rw[this];exact hb
    · rename_i t x lo hi hop
      have:(A q).eval x=(A j).eval x:=by
        cases x with
        |tmp u=>
          refine C.chain.keepsSlot C.small u j q hq hqN fun r e oe h1 h2 he hoe hd=>?_
          rcases C.plan.reads i o X.ho u (by rw[hop];simp[Op.operands]) e.ix oe hoe hd with h|⟨h,_⟩
          · have:=C.ahead he X.hj (by rw[X.hi];exact h);omega
          · rw[hld]at h;cases h
        |const v=>rfl
        |global g=>rfl
        |func f=>rfl
      rw[this];exact hb
    · rename_i hop;simp[isLight,isLight0,isSlc,hop]at hli
    · rename_i hop;simp[isLight,isLight0,isSlc,hop]at hli
    · cases hb
  -- and no operation on the way writes there
  have hblk:∀(f:List Nat) (a:Fr),i∈f→yK a o=some b→b∈yh ops.toList a f:=by
    intro f a
    induction f with
    |nil=>intro h;cases h
    |cons k f ih=>
      intro hm hbk
      unfold yh
      rcases List.mem_cons.1 hm with rfl|hm
      · have:zM ops.toList i=some o:=by rw[zC];simpa using X.ho
        rw[this]
        simp only[hbk,List.mem_cons,true_or]
      · have:=ih hm hbk
        split
        · split
          · exact List.mem_cons_of_mem _ this
          · exact this
        · exact this
  have:∀q,j≤q→q≤M→(S q).get b=(S j).get b:=by
    intro q
    induction q with
    | zero => intro h _; have : j = 0 := by omega
              subst this;rfl
    |succ q ih=>
      intro h1 h2
      by_cases he:j=q+1
      · rw[he]
      · have hMN:=I.leN
        obtain⟨e,oe,g1,g2,g3⟩:=C.chain.step q O
        rw[drawOp_prot C.hk (C.wf O) g3 (Nat.lt_of_lt_of_le hlt (C.kp (by omega:j≤q) O).next) (fun hw=>by
          obtain⟨_,_,q3⟩:=C.gap2 I X q e O O g1 hw
          exact hblk e.free (A q) (q3 (.inl hld)) (same q O O))]
        exact ih O O
  exact this M O (Nat.le_refl M)
theorem Ctx.lightOp(hjN:j<N)(hr:yd P call ops.toList d o (A j) (S j)=.normal (A (j+1)) (S (j+1)))(hwant:yT ops.toList (A j) o=true)(hh:d.how=.light)
    (K:Act→World→Prop) (Q:Exit→Act→World→Prop)
    (hK:∀M' β' v' w',Inv P ops l anc N A S β₀ w₀ D₀ (fun k=>L k∨k=i) M' β' (a'.put o.dst v') w'→K (a'.put o.dst v') w'):o.wpIn (FW ro) 0 P a' w K Q:=by
  unfold yd at hr
  rw[hwant,hh]at hr
  simp only at hr
  let sm:St:={next:=(S j).next,bar:=(S j).next,prot:=[],heap:=only (S j) (yK (A j) o)}
  have hget:∀b,sm.get b=if yK (A j) o=some b then(S j).get b else none:=fun b=>by
    show Tr.get (only (S j) (yK (A j) o)) b=_
    unfold only
    cases hb:yK (A j) o with
    |none=>simp[Tr.get]
    |some b₀=>
      simp only
      rcases Nat.lt_or_ge b₀ 281474976710655 with hlt|hge
      · rw [Tr.get_put depth _ _ _ _ (by have : (2 : Nat) ^ depth = 281474976710656 := by decide
                                         omega)]
        by_cases he:b=b₀
        · subst he;simp
        · have:¬(some b₀=some b):=fun h=>he (by cases h;rfl)
          rw[if_neg he,if_neg this];rfl
      · -- so great a number is none
        have hno:(S j).get b₀=none:=(C.wf (by omega:j≤N)).top b₀ (by have:=(C.wf (by omega:j≤N)).room;omega)
        have all:∀(d n:Nat) (t:Tr MObj) (m:Nat),(∀k,t.get k=none)→(Tr.put d t n none).get m=none:=by
          intro d
          induction d with
          |zero=>intro n t m ht;exact ht m
          |succ d ih=>
            intro n t m ht
            cases t with
            |nil=>
              cases n with
              |zero=>cases m<;>simp only[Tr.put,Tr.get];split<;>rfl
              |succ k=>
                simp only[Tr.put]
                split<;>(cases m<;>simp only[Tr.get];split<;>first|rfl|exact ih _ _ _ (fun _=>rfl))
            |node v a b=>
              have hv:v=none:=ht 0
              have ha:∀k,a.get k=none:=fun k=>by
                have:=ht (2*k+1)
                simp only[Tr.get]at this
                rw[show 2*k % 2=0 by omega,show 2*k / 2=k by omega]at this
                exact this
              have hb:∀k,b.get k=none:=fun k=>by
                have:=ht (2*k+2)
                simp only[Tr.get]at this
                rw[show(2*k+1) % 2=1 by omega,show(2*k+1) / 2=k by omega]at this
                exact this
              cases n with
              |zero=>cases m<;>simp only[Tr.put,Tr.get];split<;>first|exact ha _|exact hb _
              |succ k=>
                simp only[Tr.put]
                split <;> (cases m <;> simp only [Tr.get]; · exact hv
                           · split<;>first|exact ha _|exact hb _|exact ih _ _ _ ha|exact ih _ _ _ hb)
        rw[hno,all depth b₀ .nil b (fun _=>rfl)]
        split
        · rename_i he;cases he;exact hno.symm
        · rfl
  have hwfm:WF sm:=⟨(C.wf (by omega:j≤N)).room,fun b hb=>by
    rw[hget]
    split
    · exact(C.wf (by omega:j≤N)).top b hb
    · rfl⟩
  have hrel:Rel P β sm w:=by
    refine I.rel.at_state hwfm (fun b m hb hlt=>C.known I hb (by omega:j≤N) hlt) (fun b m oo hb hlt hg=>?_) fun b m hb hlt hr=>hlt
    rw[hget]at hg
    split at hg
    · rename_i hbo
      rcases Nat.lt_or_ge j M with hjm|hjm
      · rw[C.loadKept I X O (C.plan.light j d o X.hj (by rw[X.hi];exact X.ho) (by rw[hh];rfl)) hbo hlt hjm];exact hg
      · rw[←C.stays j hjm O (fun r e h1 h2 he=>C.gap I X r e h1 h2 he) b (C.known I hb (by omega:j≤N) hlt)]
        exact hg
    · cases hg
  split at hr
  · rename_i a₁ s₁ hop
    split at hr
    · rename_i hn
      have hn:s₁.next=(S j).next:=Nat.eq_of_beq_eq_true hn
      simp only[Out.normal.injEq]at hr
      obtain⟨hA,hS⟩:=hr
      refine op_sound C.hc hrel (C.operands I X.hj X.hi O X.ho X.hn X.hanc) (by rw[hop];simp) (by
        rw[hop]
        intro b h1 h2
        have h1:(S j).next≤b:=h1
        omega) K Q (fun v v' s' β' w' he hx hv=>?_) (fun c c' s' β' w' he=>by rw[hop]at he;cases he) ro
      obtain⟨e1,e2⟩:=frame_eq hop he
      subst e2
      have hkept:∀r,r<w.heap.size→w'.heap[r]? = w.heap[r]? :=fun r hr=>hx.out r hr fun b m oo hb hlt hmay=>by
        have:=no_may (s:=sm) hlt []
        have e:({sm with bar:=sm.next,prot:=[]}:St)=sm:=rfl
        rw[e,hmay]at this;cases this
      have hno:∀b m,β' b=some m→β b=none→False:=fun b m h1 h2=>by
        have h:=hx.dom b m h1 h2
        have h1:(S j).next≤b:=h.1
        have h2:=h.2
        omega
      have hle':β'.le β:=fun b m hb=>by
        cases h1:β b with
        |some m₁=>have:=hx.le b m₁ h1;rw[hb]at this;cases this;rfl
        |none=>exact(hno b m hb h1).elim
      have hbe:β'=β:=by
        funext b
        cases h1:β b with
        |some m=>exact hx.le b m h1
        |none=>cases h2:β' b with
          |none=>rfl
          |some m=>exact(hno b m h2 h1).elim
      subst hbe
      rcases Nat.lt_or_ge j M with hjm|hjm
      · exact hK M β' v' w' (C.advance I X hjN (by rw[←hA,e1]) (Nat.le_refl M) hjm I.leN (fun p e hp hw hlt=>.inl (I.wholes p e hp hw hlt)) hv (I.rel.grow hx.size hkept) hx.le V5 hx.size (fun r hr _=>hkept r hr) V5 hx.os hx.output hx.tape)
      · exact hK (j+1) β' v' w' (C.advance I X hjN (by rw[←hA,e1]) O O O (C.wholesTo I X hjm) hv (by rw[←hS];exact(C.relAt I X O (.inl hjm)).grow hx.size hkept) hx.le V5 hx.size (fun r hr _=>hkept r hr) V5 hx.os hx.output hx.tape)
    · cases hr
  · cases hr
omit C I X in
theorem Rel.newDead{s:St}(h:Rel P β s w)(hroom:s.room=true)(hn:β s.next=none)(o:MObj):Rel P β (s.new o) w:=by
  have hr:=room_lt hroom
  have gp:=fun b'=>St.get_new (s:=s) O o b'
  have ne:∀b m,β b=some m→b≠s.next:=fun b m hb e=>by rw[e,hn]at hb;cases hb
  exact{
    img:=fun b m hb hlt=>h.img b m hb (by have:=ne b m hb;simp at hlt;omega)
    obj:=fun b m oo hb hlt hg=>by
      rw[gp,if_neg (ne b m hb)]at hg
      exact h.obj b m oo hb (by have:=ne b m hb;simp at hlt;omega) hg
    inj:=fun b1 b2 m1 m2 o1 o2 h1 h2 l1 l2 g1 g2 e=>by
      rw[gp,if_neg (ne b1 m1 h1)]at g1
      rw[gp,if_neg (ne b2 m2 h2)]at g2
      exact h.inj b1 b2 m1 m2 o1 o2 h1 h2 (by have:=ne b1 m1 h1;simp at l1;omega) (by have:=ne b2 m2 h2;simp at l2;omega) g1 g2 e
    ro:=fun b m hb hlt hr=>h.ro b m hb (by have:=ne b m hb;simp at hlt;omega) hr
    room:=by simp;omega
    top:=fun b hb=>by simp at hb;rw[gp,if_neg O];exact h.top b O}
theorem Ctx.newKept(hjN:j<N)(hh:d.how=.new){b:Nat}(hbo:yK (A (j+1)) o=some b)(hlt:b<(S (j+1)).next)(hjm:j<M):(S M).get b=(S (j+1)).get b:=by
  have hal:(isAlloc o||isBS o)=true:=C.plan.alloc j d o X.hj (by rw[X.hi];exact X.ho) (by rw[hh];rfl)
  have same:∀q,j+1≤q→q≤N→yK (A q) o=some b:=fun q hq hqN=>by
    unfold yK at hbo ⊢
    split at hbo
    · rename_i t x hop;simp[isAlloc,isBS,hop]at hal
    · rename_i t x lo hi hop;simp[isAlloc,isBS,hop]at hal
    · cases hd:o.dst with
      |none=>rw[hd]at hbo;cases hbo
      |some u=>
        rw[hd]at hbo
        have:(A q).get u=(A (j+1)).get u:=C.chain.keepsSlot C.small u (j+1) q hq hqN fun r e oe h1 h2 he hoe hde=>by
          have hix:=C.plan.dst i e.ix o oe u X.ho hoe hd hde
          have:=C.pos X.hj he (by rw[X.hi];exact hix)
          omega
        simp only[this]
        exact hbo
    · cases hd:o.dst with
      |none=>rw[hd]at hbo;cases hbo
      |some u=>
        rw[hd]at hbo
        have:(A q).get u=(A (j+1)).get u:=C.chain.keepsSlot C.small u (j+1) q hq hqN fun r e oe h1 h2 he hoe hde=>by
          have hix:=C.plan.dst i e.ix o oe u X.ho hoe hd hde
          have:=C.pos X.hj he (by rw[X.hi];exact hix)
          omega
        simp only[this]
        exact hbo
    · cases hbo
  have hblk:∀(f:List Nat) (a:Fr),i∈f→yK a o=some b→b∈yh ops.toList a f:=by
    intro f a
    induction f with
    |nil=>intro h;cases h
    |cons k f ih=>
      intro hm hbk
      unfold yh
      rcases List.mem_cons.1 hm with rfl|hm
      · have:zM ops.toList i=some o:=by rw[zC];simpa using X.ho
        rw[this]
        simp only[hbk,List.mem_cons,true_or]
      · have:=ih hm hbk
        split
        · split
          · exact List.mem_cons_of_mem _ this
          · exact this
        · exact this
  have:∀q,j+1≤q→q≤M→(S q).get b=(S (j+1)).get b:=by
    intro q
    induction q with
    |zero=>intro h _;omega
    |succ q ih=>
      intro h1 h2
      by_cases he:j=q
      · rw[he]
      · have hMN:=I.leN
        obtain⟨e,oe,g1,g2,g3⟩:=C.chain.step q O
        rw[drawOp_prot C.hk (C.wf O) g3 (Nat.lt_of_lt_of_le hlt (C.kp (by omega:j+1≤q) O).next) (fun hw=>by
          obtain⟨_,_,q3⟩:=C.gap2 I X q e O O g1 hw
          exact hblk e.free (A q) (q3 (.inr (by rw[hh];rfl))) (same q O O))]
        exact ih O O
  exact this M O (Nat.le_refl M)
theorem Ctx.newOp(hjN:j<N)(hr:yd P call ops.toList d o (A j) (S j)=.normal (A (j+1)) (S (j+1)))(hwant:yT ops.toList (A j) o=true)(hh:d.how=.new)
    (K:Act→World→Prop) (Q:Exit→Act→World→Prop)
    (hK:∀M' β' v' w',Inv P ops l anc N A S β₀ w₀ D₀ (fun k=>L k∨k=i) M' β' (a'.put o.dst v') w'→K (a'.put o.dst v') w'):o.wpIn (FW ro) 0 P a' w K Q:=by
  obtain⟨s₁,ob,hop,hn,hroom,hbo,hob,hS⟩:=drawOp_new hr hwant hh
  have hfree:=C.freeAt I X hjN
  have hSn:(S (j+1)).next=(S j).next+1:=by rw[hS];rfl
  let sm:St:={next:=(S j).next,bar:=(S j).next,prot:=[],heap:=.nil}
  have hwfm:WF sm:=⟨(C.wf (by omega:j≤N)).room,fun b _=>rfl⟩
  have hrel:Rel P β sm w:=I.rel.at_state hwfm (fun b m hb hlt=>C.known I hb (by omega:j≤N) hlt) (fun b m oo hb hlt hg=>by
    have:sm.get b=none:=rfl
    rw[this]at hg
    cases hg) fun b m hb hlt hr=>hlt
  refine op_sound C.hc hrel (C.operands I X.hj X.hi O X.ho X.hn X.hanc) (by rw[hop];simp) (by
    rw[hop]
    intro b h1 h2
    exact hfree b h1 (by rw[hSn];rw[hn]at h2;exact h2)) K Q (fun v v' s' β' w' he hx hv=>?_) (fun c c' s' β' w' he=>by rw[hop]at he;cases he) ro
  obtain⟨e1,e2⟩:=frame_eq hop he
  subst e2
  have hkept:∀r,r<w.heap.size→w'.heap[r]? = w.heap[r]? :=fun r hr=>hx.out r hr fun b m oo hb hlt hmay=>by
    have:=no_may (s:=sm) hlt []
    have e:({sm with bar:=sm.next,prot:=[]}:St)=sm:=rfl
    rw[e,hmay]at this;cases this
  have hnew:∀b m,β' b=some m→β b=none→w.heap.size≤m.blk:=fun b m h1 h2=>by
    rcases hx.fresh b m h1 h2 with h|⟨b₁,m₁,o₁,g1,g2,g3,_⟩
    · exact h
    · have:=no_may (s:=sm) g2 []
      have e:({sm with bar:=sm.next,prot:=[]}:St)=sm:=rfl
      rw[e,g3]at this;cases this
  have hone:∀b m,β' b=some m→β b=none→b=(S j).next:=fun b m h1 h2=>by
    have h3:=hx.dom b m h1 h2
    have h4:(S j).next≤b:=h3.1
    have h5:=h3.2
    omega
  have key:∀T:St,Rel P β T w→T.get (S j).next=some ob→Rel P β' T w':=fun T hT hg0=>by
    have holdrel:=hT.grow hx.size hkept
    have back:∀b m,β' b=some m→β b=some m∨(β b=none∧b=(S j).next):=fun b m h1=>by
      cases hb:β b with
      |some m₁=>have:=hx.le b m₁ hb;rw[h1]at this;cases this;exact .inl rfl
      |none=>exact .inr ⟨rfl,hone b m h1 hb⟩
    exact{
      img:=fun b m h1 h2=>by
        rcases back b m h1 with h|⟨_,h⟩
        · exact holdrel.img b m h h2
        · exact hx.rel.img b m h1 O
      obj:=fun b m oo h1 h2 hg=>by
        rcases back b m h1 with h|⟨_,h⟩
        · obtain⟨o',q1,q2⟩:=holdrel.obj b m oo h h2 hg
          exact⟨o',q1,q2.mono hx.le⟩
        · subst h
          rw[hg0]at hg
          cases hg
          exact hx.rel.obj _ m ob h1 O hob
      inj:=fun b1 b2 m1 m2 o1 o2 h1 h2 l1 l2 g1 g2 e=>by
        rcases back b1 m1 h1 with k1|⟨k1,k1'⟩
        · rcases back b2 m2 h2 with k2|⟨k2,k2'⟩
          · exact holdrel.inj b1 b2 m1 m2 o1 o2 k1 k2 l1 l2 g1 g2 e
          · have:=hT.img b1 m1 k1 l1
            have:=hnew b2 m2 h2 k2
            omega
        · rcases back b2 m2 h2 with k2|⟨k2,k2'⟩
          · have:=hT.img b2 m2 k2 l2
            have:=hnew b1 m1 h1 k1
            omega
          · exact .inl O
      ro:=fun b m h1 h2 h3=>by
        rcases back b m h1 with k|⟨k,k'⟩
        · exact holdrel.ro b m k h2 h3
        · obtain⟨q1,_⟩:=hx.roOld Z3 h1 O h3
          rw[k]at q1;cases q1
      room:=hT.room
      top:=hT.top}
  have hgn:(S (j+1)).get (S j).next=some ob:=by
    have:=room_lt hroom
    rw[hS,St.get_new O,if_pos rfl]
  have hdom:∀b m,β' b=some m→β b=none→(S j).next≤b∧b<(S (j+1)).next:=fun b m h1 h2=>by
    have:=hone b m h1 h2
    omega
  rcases Nat.lt_or_ge j M with hjm|hjm
  · have hst:=C.newKept I X hjN hh hbo O hjm
    exact hK M β' v' w' (C.advance I X hjN e1 (Nat.le_refl M) hjm I.leN (fun p e hp hw hlt=>.inl (I.wholes p e hp hw hlt)) hv (key (S M) I.rel (by rw[hst];exact hgn)) hx.le hdom hx.size (fun r hr _=>hkept r hr) (fun b m h1 h2=>.inl (hnew b m h1 h2)) hx.os hx.output hx.tape)
  · have hrj:=C.relAt I X (by omega:j≤N) (.inl hjm)
    have hrj1:Rel P β (S (j+1)) w:=by
      rw[hS]
      exact Rel.newDead hrj hroom (hfree _ Z3 O) ob
    exact hK (j+1) β' v' w' (C.advance I X hjN e1 O O O (C.wholesTo I X hjm) hv (key _ hrj1 hgn) hx.le hdom hx.size (fun r hr _=>hkept r hr) (fun b m h1 h2=>.inl (hnew b m h1 h2)) hx.os hx.output hx.tape)
end
end Go.M
namespace Go.M
theorem Ext.relax{P:Program}{β β':Ren}{s s₀ s₁:St}{w w':World}(hh:s₀.heap=s.heap)(hn:s₀.next=s.next)(hm:∀b,s₀.may b=true→s.may b=true)(hb:s₀.bar=s.bar)(h:Ext P β s₀ w β' s₁ w') :
  Ext P β s w β' {next:=s₁.next,bar:=s.bar,prot:=s.prot,heap:=s₁.heap} w':=by
 have hg:∀b,s₀.get b=s.get b:=fun b=>by simp only[St.get,hh]
 exact{
  rel:=h.rel.of_same rfl rfl fun b m h1 h2 h3=>by
   have:=h.rel.ro b m h1 h2 h3
   rw[h.bar,hb]at this
   exact this
  le:=h.le
  dom:=fun b m h1 h2=>by have:=h.dom b m h1 h2;rw[hn]at this;exact this
  next:=by have:=h.next;simp only;omega
  bar:=rfl
  prot:=rfl
  size:=h.size
  out:=fun r hr hno=>h.out r hr fun b m o hb hlt hmay hgb=>hno b m o hb O (hm b hmay) (by rw[←hg];exact hgb)
  same:=fun b hb hmb=>by
   have hf:s₀.may b=false:=by
    cases hx:s₀.may b with
    |false=>rfl
    |true=>rw[hm b hx]at hmb;cases hmb
   have:=h.same b O hf
   rw[hg]at this
   exact this
  dead:=fun b hb hd=>h.dead b O (by rw[hg];exact hd)
  fresh:=fun b m h1 h2=>by
   rcases h.fresh b m h1 h2 with g|⟨b₁,m₁,o₁,g1,g2,g3,g4,g5⟩
   ·exact .inl g
   ·exact .inr ⟨b₁,m₁,o₁,g1,by omega,hm _ g3,by rw[←hg];exact g4,g5⟩
  os:=h.os
  output:=h.output
  tape:=h.tape}
section
variable{P:Program}{lo:Nat}{call:FuncId→Array Value→St→CallOut}{ops:Array Oper}{l:List Drawn}{anc:Nat→Nat}{N:Nat}{A:Nat→Fr}{S:Nat→St}{β₀:Ren}{w₀:World}{D₀:List Deferred}{ro:Option Nat}{a₀:Act}
theorem Ctx.ext(C:Ctx P call ops l anc N A S β₀ w₀ a₀){L:Nat→Prop}{M:Nat}{β:Ren}{a':Act}{w:World}(I:Inv P ops l anc N A S β₀ w₀ D₀ L M β a' w){q:Nat}(hMq:M≤q)(hq:q≤N)(hrel:Rel P β (S q) w) :
  Ext P β₀ (S 0) w₀ β (S q) w:=by
 have hk:=C.kp (Nat.zero_le q) hq
 exact{
  rel:=hrel
  le:=I.le
  dom:=fun b m h1 h2=>by
   rcases I.dom b m h1 with h|⟨p,d,g1,g2,g3,g4⟩
   ·rw[h2]at h;cases h
   ·have:=I.before p d g1 g2
    exact⟨Nat.le_trans (C.kp (Nat.zero_le p) O).next g3,Nat.lt_of_lt_of_le g4 (C.kp (by omega:p+1≤q) hq).next⟩
  next:=hk.next
  bar:=hk.bar
  prot:=hk.prot
  size:=I.size
  out:=I.out
  same:=hk.same
  dead:=hk.dead
  fresh:=I.fresh
  os:=I.os
  output:=I.output
  tape:=I.tape}
theorem Ctx.finish(C:Ctx P call ops l anc N A S β₀ w₀ a₀)(hN:N=l.length){L:Nat→Prop}{M:Nat}{β:Ren}{a':Act}{w:World}(I:Inv P ops l anc N A S β₀ w₀ D₀ L M β a' w)(hall:∀i,i<ops.size→L i)(hmk:Marks lo β₀ (S 0) w₀ D₀) :
  OutP P lo β₀ (S 0) w₀ (.normal (A N) (S N)) .normal a' w:=by
 have hsz:∀i (o:Oper),ops[i]? = some o→i<ops.size:=fun i o ho=>by
  rcases Nat.lt_or_ge i ops.size with hh|hh
  ·exact hh
  ·rw[Array.getElem?_eq_none hh]at ho;cases ho
 have hM:M=N:=by
  have h1:=I.leN
  rcases Nat.lt_or_ge M N with hlt|hge
  ·obtain⟨d,hd⟩:∃d,l[M]? = some d:=⟨l[M],by simp[hN▸hlt]⟩
   obtain⟨o,ho⟩:=C.plan.op M d hd
   have:=I.before M d hd (hall _ (hsz _ o ho))
   omega
  ·omega
 subst hM
 refine⟨rfl,β,C.ext I (Nat.le_refl M) (Nat.le_refl M) I.rel,?_,by rw[I.defers];exact hmk.ext (C.ext I (Nat.le_refl M) (Nat.le_refl M) I.rel) C.free⟩
 refine⟨by rw[I.tsize,C.chain.size M (Nat.le_refl M)],by rw[C.chain.size M (Nat.le_refl M)];exact C.small,fun t=>?_⟩
 by_cases ht:t<(A 0).size
 ·by_cases hex:∃(p:Nat) (d:Drawn) (o:Oper),l[p]? = some d∧ops[d.ix]? = some o∧o.dst=some t
  ·obtain⟨p,d,o,hp,ho,hd⟩:=hex
   have hl:=hall _ (hsz _ o ho)
   have hv:=I.filled p d o t hp ho hl hd ht
   have hpM:=I.before p d hp hl
   have:(A M).get t=(A (p+1)).get t:=C.chain.keepsSlot C.small t (p+1) M O (Nat.le_refl M) fun r e oe h1 h2 he hoe hde=>by
    have heq:=C.plan.dst e.ix d.ix oe o t hoe ho hde hd
    have:=C.pos he hp heq
    omega
   rw[this];exact hv
  ·have:(A M).get t=(A 0).get t:=C.chain.keepsSlot C.small t 0 M (Nat.zero_le _) (Nat.le_refl M) fun r e oe h1 h2 he hoe hde=>hex ⟨r,e,oe,he,hoe,hde⟩
   rw[this]
   exact I.old t ht fun p d o hp ho _ hd=>hex ⟨p,d,o,hp,ho,hd⟩
 ·have h1:∀q,q≤M→(A q).get t=(A 0).get t:=by
   intro q
   induction q with
   |zero=>intro _;rfl
   |succ q ih=>
    intro hq
    obtain⟨d,o,_,_,hr⟩:=C.chain.step q O
    obtain⟨v,hv⟩:=drawOp_frame hr
    rw[hv,put_ge (by rw[C.chain.size q O];exact C.small) (by rw[C.chain.size q O];omega)]
    exact ih O
  rw[h1 M (Nat.le_refl M)]
  have h2:a'.tmps.getD t undef=a₀.tmps.getD t undef:=by
   rw[Array.getD_eq_getD_getElem?,Array.getD_eq_getD_getElem?,Array.getElem?_eq_none (by rw[I.tsize];omega),Array.getElem?_eq_none (by rw[C.fr.size];omega)]
  rw[h2]
  exact(C.fr.get t).mono I.le
def Ends(P:Program)(call:FuncId→Array Value→St→CallOut)(ops:Array Oper)(l:List Drawn)(N:Nat)(A:Nat→Fr)(S:Nat→St)(r:Out):Prop:=
 (N=l.length∧r=.normal (A N) (S N)) ∨
 ∃d o c a₁ s₁,l[N]? = some d∧ops[d.ix]? = some o∧yd P call ops.toList d o (A N) (S N)=.panic c a₁ s₁∧r=.panic c a₁ s₁
theorem Ctx.sched(C:Ctx P call ops l anc N A S β₀ w₀ a₀){r:Out}(hend:Ends P call ops l N A S r)(hfree:r.free β₀ (S 0))(Q:Exit→Act→World→Prop)(hQ:∀e a₂ w₂,OutP P lo β₀ (S 0) w₀ r e a₂ w₂→Q e a₂ w₂)(hmk:Marks lo β₀ (S 0) w₀ D₀)(ro:Option Nat) :
  ∀(σ:List Nat) (L:Nat→Prop),Sched ops L σ→∀(M:Nat) (β:Ren) (a':Act) (w:World),Inv P ops l anc N A S β₀ w₀ D₀ L M β a' w→wpOpsIn (FW ro) 0 P ops Q σ a' w:=by
 intro σ
 induction σ with
 |nil=>
  intro L hs M β a' w I
  cases hs with
  |nil hall=>
   rcases hend with⟨hN,hr⟩|⟨d,o,c,a₁,s₁,hd,ho,_,_⟩
   ·subst hr
    exact hQ _ _ _ (C.finish hN I hall hmk)
   ·exfalso
    have hl:=hall d.ix (by
     rcases Nat.lt_or_ge d.ix ops.size with hh|hh
     ·exact hh
     ·rw[Array.getElem?_eq_none hh]at ho;cases ho)
    have:=I.before N d hd hl
    have:=I.leN
    omega
 |cons i rest ih=>
  intro L hs M β a' w I
  cases hs with
  |cons hi hn he hs=>
   obtain⟨j,d,hj,hix⟩:=C.plan.surj i hi
   obtain⟨o,ho⟩:=C.plan.op j d hj
   rw[hix]at ho
   have X:Next1 ops l anc L i j d o:=⟨hj,hix,ho,hn,fun k hk=>C.done I ho (he o ho) hk⟩
   unfold wpOpsIn
   rw[ho]
   simp only
   rcases Nat.lt_or_ge j N with hjN|hjN
   ·obtain⟨d',o',g1,g2,hr⟩:=C.chain.step j hjN
    rw[hj]at g1;cases g1
    rw[hix,ho]at g2;cases g2
    rw[←C.wants I hj hix O ho hn X.hanc]
    cases hw:yT ops.toList (A j) o with
    |false=>
     obtain⟨M',I'⟩:=C.pass I X hjN hr hw
     simp only[Bool.false_eq_true,if_false]
     exact⟨fun _ _=>trivial,ih _ hs M' β _ w I'⟩
    |true=>
     simp only[if_true]
     have hK:∀M' β' v' w',Inv P ops l anc N A S β₀ w₀ D₀ (fun k=>L k∨k=i) M' β' (a'.put o.dst v') w'→wpOpsIn (FW ro) 0 P ops Q rest (a'.put o.dst v') w':=fun M' β' v' w' I'=>ih _ hs M' β' _ w' I'
     cases hh:d.how with
     |light=>exact C.lightOp I X hjN hr hw hh _ Q hK
     |whole=>exact C.whole I X hjN hr hw hh _ Q hK
     |fresh=>exact C.freshOp I X hjN hr hw hh _ Q hK
     |new=>exact C.newOp I X hjN hr hw hh _ Q hK
   ·-- it panics
    rcases hend with⟨hN,_⟩|⟨dN,oN,c,a₁,s₁,hdN,hoN,hpan,hr⟩
    ·exfalso
     have:j<l.length:=by
      rcases Nat.lt_or_ge j l.length with hh|hh
      ·exact hh
      ·rw[List.getElem?_eq_none hh]at hj;cases hj
     omega
    ·-- the operation that panics is a whole one
     have hwant:yT ops.toList (A N) oN=true∧dN.how=.whole∧∃s',opM P call oN (A N) {S N with prot:=yh ops.toList (A N) dN.free++(S N).prot}=.panic c a₁ s'∧s₁={next:=s'.next,bar:=(S N).bar,prot:=(S N).prot,heap:=s'.heap}:=by
      unfold yd at hpan
      split at hpan
      ·rename_i hw
       split at hpan
       ·(repeat' split at hpan)<;>cases hpan
       ·rename_i hh
        split at hpan
        ·cases hpan
        ·rename_i c' a'' s' hop
         cases hpan
         exact⟨hw,hh,s',hop,rfl⟩
        ·cases hpan
       ·(repeat' split at hpan)<;>cases hpan
       ·(repeat' split at hpan)<;>cases hpan
      ·cases hpan
     obtain⟨hw,hh,s',hop,hs₁⟩:=hwant
     have hjeq:j=N:=by
      rcases Nat.lt_or_ge N j with hlt|hge
      ·exfalso
       have hnl:¬L dN.ix:=fun hl=>by
        have:=I.before N dN hdN hl
        have:=I.leN
        omega
       have hp:=C.plan.pair N j dN d hlt hdN hj
       cases hb:(anc d.ix).testBit dN.ix with
       |true=>rw[hix]at hb;exact hnl (X.hanc _ hb)
       |false=>
        have:=(hp.2.2 hb).1
        rw[hh]at this;cases this
      ·omega
     subst hjeq
     rw[hj]at hdN;cases hdN
     rw[hix,ho]at hoN;cases hoN
     rw[←C.wants I hj hix (Nat.le_refl j) ho hn X.hanc,hw]
     simp only[if_true]
     subst hr hs₁
     have hrelj:=C.relAt I X (Nat.le_refl j) (.inl I.leN)
     have hext:=C.ext I I.leN (Nat.le_refl j) hrelj
     have hfr:Free β (S j) s':=hext.freeOf hfree
     refine op_sound C.hc (hrelj.of_same (T:={S j with prot:=yh ops.toList (A j) d.free++(S j).prot}) rfl rfl hrelj.ro) (C.operands I hj hix (Nat.le_refl j) ho hn X.hanc) (by rw[hop];simp) (by rw[hop];exact hfr) _ Q (fun v v' s'' β' w' he=>by rw[hop]at he;cases he) (fun ch ch' s'' β' w' he hx hch=>?_) ro
     rw[hop]at he
     simp only[Out.panic.injEq]at he
     obtain⟨rfl,_,rfl⟩:=he
     have hx':=Ext.relax (s:=S j) (s₀:={S j with prot:=yh ops.toList (A j) d.free++(S j).prot}) rfl rfl (fun b hb=>by
      unfold St.may at hb ⊢
      simp only[Bool.and_eq_true,Bool.not_eq_true',List.any_append,Bool.or_eq_false_iff]at hb ⊢
      exact⟨hb.1,hb.2.2⟩) rfl hx
     exact hQ _ _ _ ⟨ch',β',rfl,hext.trans hx' hfree,hch,by rw[I.defers];exact hmk.ext (hext.trans hx' hfree) hfree⟩
end
theorem draw_sound{P:Program}{lo:Nat}{call:FuncId→Array Value→St→CallOut}(hmix:P.follows .mixedOrders=true)(hc:CallS P call)(hk:∀f args s,WF s→(call f args s).keeps s){id:Nat}{ops:Array Oper}{l:List Drawn}
  (hplan:planB ops.toList l=true) (hops:ops.toList.all (fun o=>o.op.operands.toList.all xY)=true) {a:Fr} {a':Act} {s:St} {β:Ren} {w:World} (h:Rel P β s w) (hf:FRel P β a a') (hm:Marks lo β s w a'.defers) (ro:Option Nat)
  (hne:drawM P call ops.toList l a s≠.stuck) (hfree:(drawM P call ops.toList l a s).free β s):(Code.region id ops true).wpIn (FW ro) 0 P (OutP P lo β s w (drawM P call ops.toList l a s)) a' w:=by
 obtain⟨anc,hp⟩:=plan_ok hplan
 obtain⟨N,A,S,hA,hS,hch,hend⟩:=chain_of l a s hne
 subst hA hS
 refine wpIn_region_draw fun t=>?_
 have hsch:Region.schedule (P.follows .mixedOrders) ops t=Region.linearise .any ops t:=by
  unfold Region.schedule
  rw[hmix]
  simp
 rw[hsch]
 have hwf:WF (S 0):=⟨h.room,h.top⟩
 have hkN:=hch.kp hk hwf N (Nat.le_refl N)
 have hfreeN:Free β (S 0) (S N):=by
  rcases hend with⟨_,hr⟩|⟨d,o,c,a₁,s₁,_,_,hpan,hr⟩
  ·rw[hr]at hfree;exact hfree
  ·rw[hr]at hfree
   have:=drawOp_keeps (P:=P) hk hkN.wf ops.toList d o (A N)
   rw[hpan]at this
   have this:Kp (S N) s₁:=this
   exact Free.sub hfree this.next
 have C:Ctx P call ops l anc N A S β (drewW w) a':={
  hc:=hc
  hk:=hk
  plan:=hp
  chain:=hch
  small:=hf.small
  rel:=h.drewW
  fr:=hf
  free:=hfreeN
  opsB:=fun i o ho=>by
   rw[List.all_eq_true]at hops
   exact hops o (by rw[Array.mem_toList_iff];exact Array.mem_of_getElem? ho)}
 have I:Inv P ops l anc N A S β (drewW w) a'.defers (fun _=>False) 0 β a' (drewW w):={
  closed:=fun _ _ _ hl=>hl.elim
  before:=fun _ _ _ hl=>hl.elim
  wholes:=fun _ _ _ _ hlt=>by omega
  leN:=Nat.zero_le _
  rel:=h.drewW
  le:=Ren.le_refl β
  dom:=fun b m hb=>.inl hb
  tsize:=hf.size
  defers:=rfl
  filled:=fun _ _ _ _ _ _ hl=>hl.elim
  old:=fun t _ _=>hf.get t
  size:=Nat.le_refl _
  out:=fun _ _ _=>rfl
  fresh:=fun b m h1 h2=>by rw[h2]at h1;cases h1
  os:=rfl
  output:=rfl
  tape:=rfl}
 refine C.sched (r:=drawM P call ops.toList l (A 0) (S 0)) ?_ hfree _ (fun e a₂ w₂ ho=>?_) (D₀:=a'.defers) (Marks.same (w:=w) (w':=drewW w) rfl hm) ro _ _ (linearise_sched ops (fun i o ho e he hb=>(hp.edges i o ho e he hb).1) t) 0 β a' (drewW w) I
 ·rcases hend with⟨h1,h2⟩|⟨d,o,c,a₁,s₁,g1,g2,g3,g4⟩
  ·exact .inl ⟨h1,h2⟩
  ·exact .inr ⟨d,o,c,a₁,s₁,g1,g2,g3,g4⟩
 ·have back:∀β' s',Ext P β (S 0) (drewW w) β' s' w₂→Ext P β (S 0) w β' s' w₂:=fun β' s' hx=>⟨hx.rel,hx.le,hx.dom,hx.next,hx.bar,hx.prot,hx.size,hx.out,hx.same,hx.dead,hx.fresh,hx.os,hx.output,hx.tape⟩
  cases hr:drawM P call ops.toList l (A 0) (S 0)with
  |normal a₁ s₁=>rw[hr]at ho;obtain⟨h1,β',h2,h3,h4⟩:=ho;exact⟨h1,β',back _ _ h2,h3,h4⟩
  |exit i a₁ s₁=>rw[hr]at ho;obtain⟨h1,β',h2,h3,h4⟩:=ho;exact⟨h1,β',back _ _ h2,h3,h4⟩
  |ret a₁ s₁=>rw[hr]at ho;obtain⟨h1,β',h2,h3,h4⟩:=ho;exact⟨h1,β',back _ _ h2,h3,h4⟩
  |panic c a₁ s₁=>rw[hr]at ho;obtain⟨c',β',h1,h2,h3,h4⟩:=ho;exact⟨c',β',h1,back _ _ h2,h3,h4⟩
  |stuck=>rw[hr]at ho;exact ho
end Go.M
