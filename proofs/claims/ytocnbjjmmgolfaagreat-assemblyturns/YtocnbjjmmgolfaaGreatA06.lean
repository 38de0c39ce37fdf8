/- A drawn region: the three kinds of operations; every order. -/
/- Drawn regions, whole. -/
/- Code and calls of the abstract machine stand for the model's. -/
import Derived.Test.YtocnbjjmmgolfaaGreatA05
import Derived.LoopNIn
import Derived.Scope
namespace Go.M
section
variable{P:Program}{call:FuncId→Array Value→St→CallOut}{ops:Array Oper}{l:List Drawn}{anc:Nat→Nat}{N:Nat}{A:Nat→Fr}{S:Nat→St}{β₀:Ren}{w₀:World}{D₀:List Deferred}{ro:Option Nat}{a₀:Act}
theorem frame_eq{o:Oper}{a:Fr}{v:Value}{s s₁:St}{a₁:Fr}(hr:opM P call o a s=.normal a₁ s₁){s':St}(h:opM P call o a s=.normal (a.put o.dst v) s'):a₁=a.put o.dst v∧s'=s₁:=by
  rw[hr]at h
  simp only[Out.normal.injEq]at h
  exact⟨h.1,h.2.symm⟩
variable(C:Ctx P call ops l anc N A S β₀ w₀ a₀){L:Nat→Prop}{M:Nat}{β:Ren}{a':Act}{w:World}(I:Inv P ops l anc N A S β₀ w₀ D₀ L M β a' w)
  {i j:Nat} {d:Drawn} {o:Oper} (X:Next1 ops l anc L i j d o)
include C I X
theorem Ctx.wholesTo(hjm:M≤j)(p:Nat)(e:Drawn)(hp:l[p]? = some e)(hw:howW e.how=true)(hlt:p<j+1):L e.ix∨e.ix=i:=by
  rcases Nat.lt_or_ge p M with hpm|hpm
  · exact .inl (I.wholes p e hp hw hpm)
  · by_cases hpj:p=j
    · subst hpj;rw[X.hj]at hp;cases hp;exact .inr X.hi
    · have:=C.gap I X p e hpm O hp
      rw[hw]at this;cases this
omit C in
theorem wholeJ(hh:howW d.how=true):M≤j:=by
  rcases Nat.lt_or_ge j M with hjm|hjm
  · have:=I.wholes j d X.hj hh hjm
    rw[X.hi]at this
    exact(X.hn this).elim
  · exact hjm
theorem Ctx.whole(hjN:j<N)(hr:qW P call ops.toList d o (A j) (S j)=.normal (A (j+1)) (S (j+1)))(hwant:kQ ops.toList (A j) o=true)(hh:d.how=.whole)
    (K:Act→World→Prop) (Q:Exit→Act→World→Prop)
    (hK:∀M' β' v' w',Inv P ops l anc N A S β₀ w₀ D₀ (fun k=>L k∨k=i) M' β' (a'.put o.dst v') w'→K (a'.put o.dst v') w'):o.wpIn (FW ro) 0 P a' w K Q:=by
  have hW:howW d.how=true:=by rw[hh];rfl
  have hjm:=wholeJ I X hW
  unfold qW at hr
  rw[hwant,hh]at hr
  simp only at hr
  have hfree:=C.freeAt I X hjN
  let sm:St:={S j with prot:=qZ ops.toList (A j) d.free++(S j).prot}
  have hrel:Rel P β sm w:=(C.relAt I X O (.inl hjm)).of_same rfl rfl
  split at hr
  · rename_i a₁ s₁ hop
    simp only[Out.normal.injEq]at hr
    obtain⟨hA,hS⟩:=hr
    have hnext:(S (j+1)).next=s₁.next:=by rw[←hS]
    refine op_sound C.hc hrel (C.operands I X.hj X.hi O X.ho X.hn X.hanc) (by rw[hop];simp) (by rw[hop];exact fun b h1 h2=>hfree b h1 (by rw[hnext];exact h2)) K Q (fun v v' s' β' w' he hx hv=>?_) (fun c c' s' β' w' he=>by rw[hop]at he;cases he) ro
    obtain⟨e1,e2⟩:=frame_eq hop he
    subst e2
    refine hK (j+1) β' v' w' (C.advance I X hjN (by rw[←hA,e1]) O O O (C.wholesTo I X hjm) hv ?_ hx.le (fun b m h1 h2=>by rw[hnext];exact hx.dom b m h1 h2) hx.size (fun r hr hno=>?_) (fun b m h1 h2=>?_) hx.os hx.output hx.tape)
    · exact hx.rel.of_same hnext (by rw[←hS])
    · refine hx.out r hr fun b m oo hb hlt hmay hg=>hno b m oo hb hlt ?_ hg
      rw[←C.mayAt (by omega:j≤N)]
      unfold St.may at hmay ⊢
      simp only[sm,Bool.and_eq_true,Bool.not_eq_true',List.any_append,Bool.or_eq_false_iff]at hmay ⊢
      exact⟨hmay.1,hmay.2.2⟩
    · rcases hx.fresh b m h1 h2 with h|⟨b₁,m₁,o₁,g1,g2,g3,g4,g5⟩
      · exact .inl h
      · refine .inr ⟨b₁,m₁,o₁,g1,g2,?_,g4,g5⟩
        rw[←C.mayAt (by omega:j≤N)]
        unfold St.may at g3 ⊢
        simp only[sm,Bool.and_eq_true,Bool.not_eq_true',List.any_append,Bool.or_eq_false_iff]at g3 ⊢
        exact⟨g3.1,g3.2.2⟩
  · cases hr
  · cases hr
omit C I X in
theorem no_may{s:St}{b:Nat}(hb:b<s.next)(p:List Nat):({s with bar:=s.next,prot:=p}:St).may b=false:=by
  unfold St.may
  simp only[Bool.and_eq_false_iff]
  left
  rw[Bool.eq_false_iff]
  intro hh
  have:=Nat.le_of_ble_eq_true hh
  omega
theorem Ctx.freshOp(hjN:j<N)(hr:qW P call ops.toList d o (A j) (S j)=.normal (A (j+1)) (S (j+1)))(hwant:kQ ops.toList (A j) o=true)(hh:d.how=.fresh)
    (K:Act→World→Prop) (Q:Exit→Act→World→Prop)
    (hK:∀M' β' v' w',Inv P ops l anc N A S β₀ w₀ D₀ (fun k=>L k∨k=i) M' β' (a'.put o.dst v') w'→K (a'.put o.dst v') w'):o.wpIn (FW ro) 0 P a' w K Q:=by
  unfold qW at hr
  rw[hwant,hh]at hr
  simp only at hr
  have hfree:=C.freeAt I X hjN
  have hrelj:Rel P β (S j) w:=C.relAt I X O (.inr ⟨by rw[hh];rfl,by rw[hh];rfl⟩)
  let sm:St:={S j with bar:=(S j).next}
  have hrel:Rel P β sm w:=hrelj.of_same rfl rfl
  split at hr
  · rename_i a₁ s₁ hop
    simp only[Out.normal.injEq]at hr
    obtain⟨hA,hS⟩:=hr
    have hnext:(S (j+1)).next=s₁.next:=by rw[←hS]
    refine op_sound C.hc hrel (C.operands I X.hj X.hi O X.ho X.hn X.hanc) (by rw[hop];simp) (by rw[hop];exact fun b h1 h2=>hfree b h1 (by rw[hnext];exact h2)) K Q (fun v v' s' β' w' he hx hv=>?_) (fun c c' s' β' w' he=>by rw[hop]at he;cases he) ro
    obtain⟨e1,e2⟩:=frame_eq hop he
    subst e2
    -- nothing that was there is written
    have hkept:∀r,r<w.heap.size→w'.heap[r]? = w.heap[r]? :=fun r hr=>hx.out r hr fun b m oo hb hlt hmay=>by
      have:=no_may (s:=S j) hlt (S j).prot
      rw[this]at hmay;cases hmay
    have hnew:∀b m,β' b=some m→β b=none→w.heap.size≤m.blk:=fun b m h1 h2=>by
      rcases hx.fresh b m h1 h2 with h|⟨b₁,m₁,o₁,g1,g2,g3,_⟩
      · exact h
      · have:=no_may (s:=S j) g2 (S j).prot
        rw[this]at g3;cases g3
    have hrel1:Rel P β' (S (j+1)) w':=hx.rel.of_same hnext (by rw[←hS])
    rcases Nat.lt_or_ge j M with hjm|hjm
    · -- others behind it are done
      have hstay:∀b,b<(S (j+1)).next→(S M).get b=(S (j+1)).get b:=C.stays M O I.leN (fun r e h1 h2 he=>by
        cases hw:howW e.how with
        |false=>rfl
        |true=>rcases(C.gap2 I X r e O h2 he hw).2.1 with this|this<;>(rw[hh]at this;cases this))
      have holdrel:=(I.rel.grow hx.size hkept)
      have back:∀b m,β' b=some m→b<(S M).next→β b=some m∨(β b=none∧b<(S (j+1)).next):=fun b m h1 _=>by
        cases hb:β b with
        |some m₁=>have:=hx.le b m₁ hb;rw[h1]at this;cases this;exact .inl rfl
        |none=>exact .inr ⟨rfl,by rw[hnext];exact(hx.dom b m h1 hb).2⟩
      have hrelM:Rel P β' (S M) w':={
        img:=fun b m h1 h2=>by
          rcases back b m h1 h2 with h|⟨_,h⟩
          · exact holdrel.img b m h h2
          · exact hrel1.img b m h1 h
        obj:=fun b m oo h1 h2 hg=>by
          rcases back b m h1 h2 with h|⟨_,h⟩
          · obtain⟨o',q1,q2⟩:=holdrel.obj b m oo h h2 hg
            exact⟨o',q1,q2.mono hx.le⟩
          · exact hrel1.obj b m oo h1 h (by rw[←hstay b h];exact hg)
        inj:=fun b1 b2 m1 m2 o1 o2 h1 h2 l1 l2 g1 g2 e=>by
          rcases back b1 m1 h1 l1 with k1|⟨k1,k1'⟩
          · rcases back b2 m2 h2 l2 with k2|⟨k2,k2'⟩
            · exact holdrel.inj b1 b2 m1 m2 o1 o2 k1 k2 l1 l2 g1 g2 e
            · have:=I.rel.img b1 m1 k1 l1
              have:=hnew b2 m2 h2 k2
              omega
          · rcases back b2 m2 h2 l2 with k2|⟨k2,k2'⟩
            · have:=I.rel.img b2 m2 k2 l2
              have:=hnew b1 m1 h1 k1
              omega
            · exact hrel1.inj b1 b2 m1 m2 o1 o2 h1 h2 k1' k2' (by rw[←hstay b1 k1'];exact g1) (by rw[←hstay b2 k2'];exact g2) e
        room:=I.rel.room
        top:=I.rel.top}
      exact hK M β' v' w' (C.advance I X hjN (by rw[←hA,e1]) (Nat.le_refl M) hjm I.leN (fun p e hp hw hlt=>.inl (I.wholes p e hp hw hlt)) hv hrelM hx.le (fun b m h1 h2=>by rw[hnext];exact hx.dom b m h1 h2) hx.size (fun r hr _=>hkept r hr) (fun b m h1 h2=>.inl (hnew b m h1 h2)) hx.os hx.output hx.tape)
    · exact hK (j+1) β' v' w' (C.advance I X hjN (by rw[←hA,e1]) O O O (C.wholesTo I X hjm) hv hrel1 hx.le (fun b m h1 h2=>by rw[hnext];exact hx.dom b m h1 h2) hx.size (fun r hr _=>hkept r hr) (fun b m h1 h2=>.inl (hnew b m h1 h2)) hx.os hx.output hx.tape)
  · cases hr
theorem Ctx.loadKept(hjN:j≤N)(hli:jE o=true){b:Nat}(hb:kJ (A j) o=some b)(hlt:b<(S j).next)(hjm:j<M):(S M).get b=(S j).get b:=by
  have hld:isLoad o=true:=by
    unfold kJ at hb
    split at hb
    · rename_i t x hop;simp[isLoad,hop]
    · rename_i hop;simp[jE,hop]at hli
    · rename_i hop;simp[jE,hop]at hli
    · cases hb
  -- its address is the same at every later turn
  have same:∀q,j≤q→q≤N→kJ (A q) o=some b:=fun q hq hqN=>by
    unfold kJ at hb ⊢
    split at hb
    · rename_i t x hop
      have:(A q).eval x=(A j).eval x:=by
        cases x with
        |tmp u=>
          refine C.chain.keepsSlot C.small u j q hq hqN fun r e oe h1 h2 he hoe hd=>?_
          rcases C.plan.reads i o X.ho u (by rw[hop];simp[Op.operands]) e.ix oe hoe hd with h|⟨h,_⟩
          · have:=C.ahead he X.hj (by rw[X.hi];exact h);omega
          · rw[hld]at h;cases h
        |const v=>rfl
        |global g=>rfl
        |func f=>rfl
      rw[this];exact hb
    · rename_i hop;simp[jE,hop]at hli
    · rename_i hop;simp[jE,hop]at hli
    · cases hb
  -- and no operation on the way writes there
  have hblk:∀(f:List Nat) (a:Fr),i∈f→kJ a o=some b→b∈qZ ops.toList a f:=by
    intro f a
    induction f with
    |nil=>intro h;cases h
    |cons k f ih=>
      intro hm hbk
      unfold qZ
      rcases List.mem_cons.1 hm with rfl|hm
      · have:qG ops.toList i=some o:=by rw[qR];simpa using X.ho
        rw[this]
        simp only[hbk,List.mem_cons,true_or]
      · have:=ih hm hbk
        split
        · split
          · exact List.mem_cons_of_mem _ this
          · exact this
        · exact this
  have:∀q,j≤q→q≤M→(S q).get b=(S j).get b:=by
    intro q
    induction q with
    | zero => intro h _; have : j = 0 := by omega
              subst this;rfl
    |succ q ih=>
      intro h1 h2
      by_cases he:j=q+1
      · rw[he]
      · have hMN:=I.leN
        obtain⟨e,oe,g1,g2,g3⟩:=C.chain.step q O
        rw[drawOp_prot C.hk (C.wf O) g3 (Nat.lt_of_lt_of_le hlt (C.kp (by omega:j≤q) O).next) (fun hw=>by
          obtain⟨_,_,q3⟩:=C.gap2 I X q e O O g1 hw
          exact hblk e.free (A q) (q3 (.inl hld)) (same q O O))]
        exact ih O O
  exact this M O (Nat.le_refl M)
theorem Ctx.lightOp(hjN:j<N)(hr:qW P call ops.toList d o (A j) (S j)=.normal (A (j+1)) (S (j+1)))(hwant:kQ ops.toList (A j) o=true)(hh:d.how=.light)
    (K:Act→World→Prop) (Q:Exit→Act→World→Prop)
    (hK:∀M' β' v' w',Inv P ops l anc N A S β₀ w₀ D₀ (fun k=>L k∨k=i) M' β' (a'.put o.dst v') w'→K (a'.put o.dst v') w'):o.wpIn (FW ro) 0 P a' w K Q:=by
  unfold qW at hr
  rw[hwant,hh]at hr
  simp only at hr
  let sm:St:={next:=(S j).next,bar:=(S j).next,prot:=[],heap:=only (S j) (kJ (A j) o)}
  have hget:∀b,sm.get b=if kJ (A j) o=some b then(S j).get b else none:=fun b=>by
    show Tr.get (only (S j) (kJ (A j) o)) b=_
    unfold only
    cases hb:kJ (A j) o with
    |none=>simp[Tr.get]
    |some b₀=>
      simp only
      rcases Nat.lt_or_ge b₀ 281474976710655 with hlt|hge
      · rw [Tr.get_put depth _ _ _ _ (by have : (2 : Nat) ^ depth = 281474976710656 := by decide
                                         omega)]
        by_cases he:b=b₀
        · subst he;simp
        · have:¬(some b₀=some b):=fun h=>he (by cases h;rfl)
          rw[if_neg he,if_neg this];rfl
      · -- so great a number is none
        have hno:(S j).get b₀=none:=(C.wf (by omega:j≤N)).top b₀ (by have:=(C.wf (by omega:j≤N)).room;omega)
        have all:∀(d n:Nat) (t:Tr MObj) (m:Nat),(∀k,t.get k=none)→(Tr.put d t n none).get m=none:=by
          intro d
          induction d with
          |zero=>intro n t m ht;exact ht m
          |succ d ih=>
            intro n t m ht
            cases t with
            |nil=>
              cases n with
              |zero=>cases m<;>simp only[Tr.put,Tr.get];split<;>rfl
              |succ k=>
                simp only[Tr.put]
                split<;>(cases m<;>simp only[Tr.get];split<;>first|rfl|exact ih _ _ _ (fun _=>rfl))
            |node v a b=>
              have hv:v=none:=ht 0
              have ha:∀k,a.get k=none:=fun k=>by
                have:=ht (2*k+1)
                simp only[Tr.get]at this
                rw[show 2*k % 2=0 by omega,show 2*k / 2=k by omega]at this
                exact this
              have hb:∀k,b.get k=none:=fun k=>by
                have:=ht (2*k+2)
                simp only[Tr.get]at this
                rw[show(2*k+1) % 2=1 by omega,show(2*k+1) / 2=k by omega]at this
                exact this
              cases n with
              |zero=>cases m<;>simp only[Tr.put,Tr.get];split<;>first|exact ha _|exact hb _
              |succ k=>
                simp only[Tr.put]
                split <;> (cases m <;> simp only [Tr.get]; · exact hv
                           · split<;>first|exact ha _|exact hb _|exact ih _ _ _ ha|exact ih _ _ _ hb)
        rw[hno,all depth b₀ .nil b (fun _=>rfl)]
        split
        · rename_i he;cases he;exact hno.symm
        · rfl
  have hwfm:WF sm:=⟨(C.wf (by omega:j≤N)).room,fun b hb=>by
    rw[hget]
    split
    · exact(C.wf (by omega:j≤N)).top b hb
    · rfl⟩
  have hrel:Rel P β sm w:=by
    refine I.rel.at_state hwfm (fun b m hb hlt=>C.known I hb (by omega:j≤N) hlt) fun b m oo hb hlt hg=>?_
    rw[hget]at hg
    split at hg
    · rename_i hbo
      rcases Nat.lt_or_ge j M with hjm|hjm
      · rw[C.loadKept I X O (C.plan.light j d o X.hj (by rw[X.hi];exact X.ho) (by rw[hh];rfl)) hbo hlt hjm];exact hg
      · rw[←C.stays j hjm O (fun r e h1 h2 he=>C.gap I X r e h1 h2 he) b (C.known I hb (by omega:j≤N) hlt)]
        exact hg
    · cases hg
  split at hr
  · rename_i a₁ s₁ hop
    split at hr
    · rename_i hn
      have hn:s₁.next=(S j).next:=Nat.eq_of_beq_eq_true hn
      simp only[Out.normal.injEq]at hr
      obtain⟨hA,hS⟩:=hr
      refine op_sound C.hc hrel (C.operands I X.hj X.hi O X.ho X.hn X.hanc) (by rw[hop];simp) (by
        rw[hop]
        intro b h1 h2
        have h1:(S j).next≤b:=h1
        omega) K Q (fun v v' s' β' w' he hx hv=>?_) (fun c c' s' β' w' he=>by rw[hop]at he;cases he) ro
      obtain⟨e1,e2⟩:=frame_eq hop he
      subst e2
      have hkept:∀r,r<w.heap.size→w'.heap[r]? = w.heap[r]? :=fun r hr=>hx.out r hr fun b m oo hb hlt hmay=>by
        have:=no_may (s:=sm) hlt []
        have e:({sm with bar:=sm.next,prot:=[]}:St)=sm:=rfl
        rw[e,hmay]at this;cases this
      have hno:∀b m,β' b=some m→β b=none→False:=fun b m h1 h2=>by
        have h:=hx.dom b m h1 h2
        have h1:(S j).next≤b:=h.1
        have h2:=h.2
        omega
      have hle':β'.le β:=fun b m hb=>by
        cases h1:β b with
        |some m₁=>have:=hx.le b m₁ h1;rw[hb]at this;cases this;rfl
        |none=>exact(hno b m hb h1).elim
      have hbe:β'=β:=by
        funext b
        cases h1:β b with
        |some m=>exact hx.le b m h1
        |none=>cases h2:β' b with
          |none=>rfl
          |some m=>exact(hno b m h2 h1).elim
      subst hbe
      rcases Nat.lt_or_ge j M with hjm|hjm
      · exact hK M β' v' w' (C.advance I X hjN (by rw[←hA,e1]) (Nat.le_refl M) hjm I.leN (fun p e hp hw hlt=>.inl (I.wholes p e hp hw hlt)) hv (I.rel.grow hx.size hkept) hx.le V5 hx.size (fun r hr _=>hkept r hr) V5 hx.os hx.output hx.tape)
      · exact hK (j+1) β' v' w' (C.advance I X hjN (by rw[←hA,e1]) O O O (C.wholesTo I X hjm) hv (by rw[←hS];exact(C.relAt I X O (.inl hjm)).grow hx.size hkept) hx.le V5 hx.size (fun r hr _=>hkept r hr) V5 hx.os hx.output hx.tape)
    · cases hr
  · cases hr
omit C I X in
theorem Rel.newDead{s:St}(h:Rel P β s w)(hroom:s.room=true)(hn:β s.next=none)(o:MObj):Rel P β (s.new o) w:=by
  have hr:=room_lt hroom
  have gp:=fun b'=>St.get_new (s:=s) O o b'
  have ne:∀b m,β b=some m→b≠s.next:=fun b m hb e=>by rw[e,hn]at hb;cases hb
  exact{
    img:=fun b m hb hlt=>h.img b m hb (by have:=ne b m hb;simp at hlt;omega)
    obj:=fun b m oo hb hlt hg=>by
      rw[gp,if_neg (ne b m hb)]at hg
      exact h.obj b m oo hb (by have:=ne b m hb;simp at hlt;omega) hg
    inj:=fun b1 b2 m1 m2 o1 o2 h1 h2 l1 l2 g1 g2 e=>by
      rw[gp,if_neg (ne b1 m1 h1)]at g1
      rw[gp,if_neg (ne b2 m2 h2)]at g2
      exact h.inj b1 b2 m1 m2 o1 o2 h1 h2 (by have:=ne b1 m1 h1;simp at l1;omega) (by have:=ne b2 m2 h2;simp at l2;omega) g1 g2 e
    room:=by simp;omega
    top:=fun b hb=>by simp at hb;rw[gp,if_neg O];exact h.top b O}
theorem Ctx.newKept(hjN:j<N)(hh:d.how=.new){b:Nat}(hbo:kJ (A (j+1)) o=some b)(hlt:b<(S (j+1)).next)(hjm:j<M):(S M).get b=(S (j+1)).get b:=by
  have hal:(isAlloc o||isBS o)=true:=C.plan.alloc j d o X.hj (by rw[X.hi];exact X.ho) (by rw[hh];rfl)
  have same:∀q,j+1≤q→q≤N→kJ (A q) o=some b:=fun q hq hqN=>by
    unfold kJ at hbo ⊢
    split at hbo
    · rename_i t x hop;simp[isAlloc,isBS,hop]at hal
    · cases hd:o.dst with
      |none=>rw[hd]at hbo;cases hbo
      |some u=>
        rw[hd]at hbo
        have:(A q).get u=(A (j+1)).get u:=C.chain.keepsSlot C.small u (j+1) q hq hqN fun r e oe h1 h2 he hoe hde=>by
          have hix:=C.plan.dst i e.ix o oe u X.ho hoe hd hde
          have:=C.pos X.hj he (by rw[X.hi];exact hix)
          omega
        simp only[this]
        exact hbo
    · cases hd:o.dst with
      |none=>rw[hd]at hbo;cases hbo
      |some u=>
        rw[hd]at hbo
        have:(A q).get u=(A (j+1)).get u:=C.chain.keepsSlot C.small u (j+1) q hq hqN fun r e oe h1 h2 he hoe hde=>by
          have hix:=C.plan.dst i e.ix o oe u X.ho hoe hd hde
          have:=C.pos X.hj he (by rw[X.hi];exact hix)
          omega
        simp only[this]
        exact hbo
    · cases hbo
  have hblk:∀(f:List Nat) (a:Fr),i∈f→kJ a o=some b→b∈qZ ops.toList a f:=by
    intro f a
    induction f with
    |nil=>intro h;cases h
    |cons k f ih=>
      intro hm hbk
      unfold qZ
      rcases List.mem_cons.1 hm with rfl|hm
      · have:qG ops.toList i=some o:=by rw[qR];simpa using X.ho
        rw[this]
        simp only[hbk,List.mem_cons,true_or]
      · have:=ih hm hbk
        split
        · split
          · exact List.mem_cons_of_mem _ this
          · exact this
        · exact this
  have:∀q,j+1≤q→q≤M→(S q).get b=(S (j+1)).get b:=by
    intro q
    induction q with
    |zero=>intro h _;omega
    |succ q ih=>
      intro h1 h2
      by_cases he:j=q
      · rw[he]
      · have hMN:=I.leN
        obtain⟨e,oe,g1,g2,g3⟩:=C.chain.step q O
        rw[drawOp_prot C.hk (C.wf O) g3 (Nat.lt_of_lt_of_le hlt (C.kp (by omega:j+1≤q) O).next) (fun hw=>by
          obtain⟨_,_,q3⟩:=C.gap2 I X q e O O g1 hw
          exact hblk e.free (A q) (q3 (.inr (by rw[hh];rfl))) (same q O O))]
        exact ih O O
  exact this M O (Nat.le_refl M)
theorem Ctx.newOp(hjN:j<N)(hr:qW P call ops.toList d o (A j) (S j)=.normal (A (j+1)) (S (j+1)))(hwant:kQ ops.toList (A j) o=true)(hh:d.how=.new)
    (K:Act→World→Prop) (Q:Exit→Act→World→Prop)
    (hK:∀M' β' v' w',Inv P ops l anc N A S β₀ w₀ D₀ (fun k=>L k∨k=i) M' β' (a'.put o.dst v') w'→K (a'.put o.dst v') w'):o.wpIn (FW ro) 0 P a' w K Q:=by
  obtain⟨s₁,ob,hop,hn,hroom,hbo,hob,hS⟩:=drawOp_new hr hwant hh
  have hfree:=C.freeAt I X hjN
  have hSn:(S (j+1)).next=(S j).next+1:=by rw[hS];rfl
  let sm:St:={next:=(S j).next,bar:=(S j).next,prot:=[],heap:=.nil}
  have hwfm:WF sm:=⟨(C.wf (by omega:j≤N)).room,fun b _=>rfl⟩
  have hrel:Rel P β sm w:=I.rel.at_state hwfm (fun b m hb hlt=>C.known I hb (by omega:j≤N) hlt) fun b m oo hb hlt hg=>by
    have:sm.get b=none:=rfl
    rw[this]at hg
    cases hg
  refine op_sound C.hc hrel (C.operands I X.hj X.hi O X.ho X.hn X.hanc) (by rw[hop];simp) (by
    rw[hop]
    intro b h1 h2
    exact hfree b h1 (by rw[hSn];rw[hn]at h2;exact h2)) K Q (fun v v' s' β' w' he hx hv=>?_) (fun c c' s' β' w' he=>by rw[hop]at he;cases he) ro
  obtain⟨e1,e2⟩:=frame_eq hop he
  subst e2
  have hkept:∀r,r<w.heap.size→w'.heap[r]? = w.heap[r]? :=fun r hr=>hx.out r hr fun b m oo hb hlt hmay=>by
    have:=no_may (s:=sm) hlt []
    have e:({sm with bar:=sm.next,prot:=[]}:St)=sm:=rfl
    rw[e,hmay]at this;cases this
  have hnew:∀b m,β' b=some m→β b=none→w.heap.size≤m.blk:=fun b m h1 h2=>by
    rcases hx.fresh b m h1 h2 with h|⟨b₁,m₁,o₁,g1,g2,g3,_⟩
    · exact h
    · have:=no_may (s:=sm) g2 []
      have e:({sm with bar:=sm.next,prot:=[]}:St)=sm:=rfl
      rw[e,g3]at this;cases this
  have hone:∀b m,β' b=some m→β b=none→b=(S j).next:=fun b m h1 h2=>by
    have h3:=hx.dom b m h1 h2
    have h4:(S j).next≤b:=h3.1
    have h5:=h3.2
    omega
  have key:∀T:St,Rel P β T w→T.get (S j).next=some ob→Rel P β' T w':=fun T hT hg0=>by
    have holdrel:=hT.grow hx.size hkept
    have back:∀b m,β' b=some m→β b=some m∨(β b=none∧b=(S j).next):=fun b m h1=>by
      cases hb:β b with
      |some m₁=>have:=hx.le b m₁ hb;rw[h1]at this;cases this;exact .inl rfl
      |none=>exact .inr ⟨rfl,hone b m h1 hb⟩
    exact{
      img:=fun b m h1 h2=>by
        rcases back b m h1 with h|⟨_,h⟩
        · exact holdrel.img b m h h2
        · exact hx.rel.img b m h1 O
      obj:=fun b m oo h1 h2 hg=>by
        rcases back b m h1 with h|⟨_,h⟩
        · obtain⟨o',q1,q2⟩:=holdrel.obj b m oo h h2 hg
          exact⟨o',q1,q2.mono hx.le⟩
        · subst h
          rw[hg0]at hg
          cases hg
          exact hx.rel.obj _ m ob h1 O hob
      inj:=fun b1 b2 m1 m2 o1 o2 h1 h2 l1 l2 g1 g2 e=>by
        rcases back b1 m1 h1 with k1|⟨k1,k1'⟩
        · rcases back b2 m2 h2 with k2|⟨k2,k2'⟩
          · exact holdrel.inj b1 b2 m1 m2 o1 o2 k1 k2 l1 l2 g1 g2 e
          · have:=hT.img b1 m1 k1 l1
            have:=hnew b2 m2 h2 k2
            omega
        · rcases back b2 m2 h2 with k2|⟨k2,k2'⟩
          · have:=hT.img b2 m2 k2 l2
            have:=hnew b1 m1 h1 k1
            omega
          · omega
      room:=hT.room
      top:=hT.top}
  have hgn:(S (j+1)).get (S j).next=some ob:=by
    have:=room_lt hroom
    rw[hS,St.get_new O,if_pos rfl]
  have hdom:∀b m,β' b=some m→β b=none→(S j).next≤b∧b<(S (j+1)).next:=fun b m h1 h2=>by
    have:=hone b m h1 h2
    omega
  rcases Nat.lt_or_ge j M with hjm|hjm
  · have hst:=C.newKept I X hjN hh hbo O hjm
    exact hK M β' v' w' (C.advance I X hjN e1 (Nat.le_refl M) hjm I.leN (fun p e hp hw hlt=>.inl (I.wholes p e hp hw hlt)) hv (key (S M) I.rel (by rw[hst];exact hgn)) hx.le hdom hx.size (fun r hr _=>hkept r hr) (fun b m h1 h2=>.inl (hnew b m h1 h2)) hx.os hx.output hx.tape)
  · have hrj:=C.relAt I X (by omega:j≤N) (.inl hjm)
    have hrj1:Rel P β (S (j+1)) w:=by
      rw[hS]
      exact Rel.newDead hrj hroom (hfree _ Z3 O) ob
    exact hK (j+1) β' v' w' (C.advance I X hjN e1 O O O (C.wholesTo I X hjm) hv (key _ hrj1 hgn) hx.le hdom hx.size (fun r hr _=>hkept r hr) (fun b m h1 h2=>.inl (hnew b m h1 h2)) hx.os hx.output hx.tape)
end
end Go.M
namespace Go.M
theorem Ext.relax{P:Program}{β β':Ren}{s s₀ s₁:St}{w w':World}(hh:s₀.heap=s.heap)(hn:s₀.next=s.next)(hm:∀b,s₀.may b=true→s.may b=true)(h:Ext P β s₀ w β' s₁ w') :
  Ext P β s w β' {next:=s₁.next,bar:=s.bar,prot:=s.prot,heap:=s₁.heap} w':=by
 have hg:∀b,s₀.get b=s.get b:=fun b=>by simp only[St.get,hh]
 exact{
  rel:=h.rel.of_same rfl rfl
  le:=h.le
  dom:=fun b m h1 h2=>by have:=h.dom b m h1 h2;rw[hn]at this;exact this
  next:=by have:=h.next;simp only;omega
  bar:=rfl
  prot:=rfl
  size:=h.size
  out:=fun r hr hno=>h.out r hr fun b m o hb hlt hmay hgb=>hno b m o hb O (hm b hmay) (by rw[←hg];exact hgb)
  same:=fun b hb hmb=>by
   have hf:s₀.may b=false:=by
    cases hx:s₀.may b with
    |false=>rfl
    |true=>rw[hm b hx]at hmb;cases hmb
   have:=h.same b O hf
   rw[hg]at this
   exact this
  dead:=fun b hb hd=>h.dead b O (by rw[hg];exact hd)
  fresh:=fun b m h1 h2=>by
   rcases h.fresh b m h1 h2 with g|⟨b₁,m₁,o₁,g1,g2,g3,g4,g5⟩
   ·exact .inl g
   ·exact .inr ⟨b₁,m₁,o₁,g1,by omega,hm _ g3,by rw[←hg];exact g4,g5⟩
  os:=h.os
  output:=h.output
  tape:=h.tape}
section
variable{P:Program}{lo:Nat}{call:FuncId→Array Value→St→CallOut}{ops:Array Oper}{l:List Drawn}{anc:Nat→Nat}{N:Nat}{A:Nat→Fr}{S:Nat→St}{β₀:Ren}{w₀:World}{D₀:List Deferred}{ro:Option Nat}{a₀:Act}
theorem Ctx.ext(C:Ctx P call ops l anc N A S β₀ w₀ a₀){L:Nat→Prop}{M:Nat}{β:Ren}{a':Act}{w:World}(I:Inv P ops l anc N A S β₀ w₀ D₀ L M β a' w){q:Nat}(hMq:M≤q)(hq:q≤N)(hrel:Rel P β (S q) w) :
  Ext P β₀ (S 0) w₀ β (S q) w:=by
 have hk:=C.kp (Nat.zero_le q) hq
 exact{
  rel:=hrel
  le:=I.le
  dom:=fun b m h1 h2=>by
   rcases I.dom b m h1 with h|⟨p,d,g1,g2,g3,g4⟩
   ·rw[h2]at h;cases h
   ·have:=I.before p d g1 g2
    exact⟨Nat.le_trans (C.kp (Nat.zero_le p) O).next g3,Nat.lt_of_lt_of_le g4 (C.kp (by omega:p+1≤q) hq).next⟩
  next:=hk.next
  bar:=hk.bar
  prot:=hk.prot
  size:=I.size
  out:=I.out
  same:=hk.same
  dead:=hk.dead
  fresh:=I.fresh
  os:=I.os
  output:=I.output
  tape:=I.tape}
theorem Ctx.finish(C:Ctx P call ops l anc N A S β₀ w₀ a₀)(hN:N=l.length){L:Nat→Prop}{M:Nat}{β:Ren}{a':Act}{w:World}(I:Inv P ops l anc N A S β₀ w₀ D₀ L M β a' w)(hall:∀i,i<ops.size→L i)(hmk:Marks lo β₀ (S 0) w₀ D₀) :
  OutP P lo β₀ (S 0) w₀ (.normal (A N) (S N)) .normal a' w:=by
 have hsz:∀i (o:Oper),ops[i]? = some o→i<ops.size:=fun i o ho=>by
  rcases Nat.lt_or_ge i ops.size with hh|hh
  ·exact hh
  ·rw[Array.getElem?_eq_none hh]at ho;cases ho
 have hM:M=N:=by
  have h1:=I.leN
  rcases Nat.lt_or_ge M N with hlt|hge
  ·obtain⟨d,hd⟩:∃d,l[M]? = some d:=⟨l[M],by simp[hN▸hlt]⟩
   obtain⟨o,ho⟩:=C.plan.op M d hd
   have:=I.before M d hd (hall _ (hsz _ o ho))
   omega
  ·omega
 subst hM
 refine⟨rfl,β,C.ext I (Nat.le_refl M) (Nat.le_refl M) I.rel,?_,by rw[I.defers];exact hmk.ext (C.ext I (Nat.le_refl M) (Nat.le_refl M) I.rel) C.free⟩
 refine⟨by rw[I.tsize,C.chain.size M (Nat.le_refl M)],by rw[C.chain.size M (Nat.le_refl M)];exact C.small,fun t=>?_⟩
 by_cases ht:t<(A 0).size
 ·by_cases hex:∃(p:Nat) (d:Drawn) (o:Oper),l[p]? = some d∧ops[d.ix]? = some o∧o.dst=some t
  ·obtain⟨p,d,o,hp,ho,hd⟩:=hex
   have hl:=hall _ (hsz _ o ho)
   have hv:=I.filled p d o t hp ho hl hd ht
   have hpM:=I.before p d hp hl
   have:(A M).get t=(A (p+1)).get t:=C.chain.keepsSlot C.small t (p+1) M O (Nat.le_refl M) fun r e oe h1 h2 he hoe hde=>by
    have heq:=C.plan.dst e.ix d.ix oe o t hoe ho hde hd
    have:=C.pos he hp heq
    omega
   rw[this];exact hv
  ·have:(A M).get t=(A 0).get t:=C.chain.keepsSlot C.small t 0 M (Nat.zero_le _) (Nat.le_refl M) fun r e oe h1 h2 he hoe hde=>hex ⟨r,e,oe,he,hoe,hde⟩
   rw[this]
   exact I.old t ht fun p d o hp ho _ hd=>hex ⟨p,d,o,hp,ho,hd⟩
 ·have h1:∀q,q≤M→(A q).get t=(A 0).get t:=by
   intro q
   induction q with
   |zero=>intro _;rfl
   |succ q ih=>
    intro hq
    obtain⟨d,o,_,_,hr⟩:=C.chain.step q O
    obtain⟨v,hv⟩:=drawOp_frame hr
    rw[hv,put_ge (by rw[C.chain.size q O];exact C.small) (by rw[C.chain.size q O];omega)]
    exact ih O
  rw[h1 M (Nat.le_refl M)]
  have h2:a'.tmps.getD t undef=a₀.tmps.getD t undef:=by
   rw[Array.getD_eq_getD_getElem?,Array.getD_eq_getD_getElem?,Array.getElem?_eq_none (by rw[I.tsize];omega),Array.getElem?_eq_none (by rw[C.fr.size];omega)]
  rw[h2]
  exact(C.fr.get t).mono I.le
def Ends(P:Program)(call:FuncId→Array Value→St→CallOut)(ops:Array Oper)(l:List Drawn)(N:Nat)(A:Nat→Fr)(S:Nat→St)(r:Out):Prop:=
 (N=l.length∧r=.normal (A N) (S N)) ∨
 ∃d o c a₁ s₁,l[N]? = some d∧ops[d.ix]? = some o∧qW P call ops.toList d o (A N) (S N)=.panic c a₁ s₁∧r=.panic c a₁ s₁
theorem Ctx.sched(C:Ctx P call ops l anc N A S β₀ w₀ a₀){r:Out}(hend:Ends P call ops l N A S r)(hfree:r.free β₀ (S 0))(Q:Exit→Act→World→Prop)(hQ:∀e a₂ w₂,OutP P lo β₀ (S 0) w₀ r e a₂ w₂→Q e a₂ w₂)(hmk:Marks lo β₀ (S 0) w₀ D₀)(ro:Option Nat) :
  ∀(σ:List Nat) (L:Nat→Prop),Sched ops L σ→∀(M:Nat) (β:Ren) (a':Act) (w:World),Inv P ops l anc N A S β₀ w₀ D₀ L M β a' w→wpOpsIn (FW ro) 0 P ops Q σ a' w:=by
 intro σ
 induction σ with
 |nil=>
  intro L hs M β a' w I
  cases hs with
  |nil hall=>
   rcases hend with⟨hN,hr⟩|⟨d,o,c,a₁,s₁,hd,ho,_,_⟩
   ·subst hr
    exact hQ _ _ _ (C.finish hN I hall hmk)
   ·exfalso
    have hl:=hall d.ix (by
     rcases Nat.lt_or_ge d.ix ops.size with hh|hh
     ·exact hh
     ·rw[Array.getElem?_eq_none hh]at ho;cases ho)
    have:=I.before N d hd hl
    have:=I.leN
    omega
 |cons i rest ih=>
  intro L hs M β a' w I
  cases hs with
  |cons hi hn he hs=>
   obtain⟨j,d,hj,hix⟩:=C.plan.surj i hi
   obtain⟨o,ho⟩:=C.plan.op j d hj
   rw[hix]at ho
   have X:Next1 ops l anc L i j d o:=⟨hj,hix,ho,hn,fun k hk=>C.done I ho (he o ho) hk⟩
   unfold wpOpsIn
   rw[ho]
   simp only
   rcases Nat.lt_or_ge j N with hjN|hjN
   ·obtain⟨d',o',g1,g2,hr⟩:=C.chain.step j hjN
    rw[hj]at g1;cases g1
    rw[hix,ho]at g2;cases g2
    rw[←C.wants I hj hix O ho hn X.hanc]
    cases hw:kQ ops.toList (A j) o with
    |false=>
     obtain⟨M',I'⟩:=C.pass I X hjN hr hw
     simp only[Bool.false_eq_true,if_false]
     exact⟨fun _ _=>trivial,ih _ hs M' β _ w I'⟩
    |true=>
     simp only[if_true]
     have hK:∀M' β' v' w',Inv P ops l anc N A S β₀ w₀ D₀ (fun k=>L k∨k=i) M' β' (a'.put o.dst v') w'→wpOpsIn (FW ro) 0 P ops Q rest (a'.put o.dst v') w':=fun M' β' v' w' I'=>ih _ hs M' β' _ w' I'
     cases hh:d.how with
     |light=>exact C.lightOp I X hjN hr hw hh _ Q hK
     |whole=>exact C.whole I X hjN hr hw hh _ Q hK
     |fresh=>exact C.freshOp I X hjN hr hw hh _ Q hK
     |new=>exact C.newOp I X hjN hr hw hh _ Q hK
   ·-- it panics
    rcases hend with⟨hN,_⟩|⟨dN,oN,c,a₁,s₁,hdN,hoN,hpan,hr⟩
    ·exfalso
     have:j<l.length:=by
      rcases Nat.lt_or_ge j l.length with hh|hh
      ·exact hh
      ·rw[List.getElem?_eq_none hh]at hj;cases hj
     omega
    ·-- the operation that panics is a whole one
     have hwant:kQ ops.toList (A N) oN=true∧dN.how=.whole∧∃s',opM P call oN (A N) {S N with prot:=qZ ops.toList (A N) dN.free++(S N).prot}=.panic c a₁ s'∧s₁={next:=s'.next,bar:=(S N).bar,prot:=(S N).prot,heap:=s'.heap}:=by
      unfold qW at hpan
      split at hpan
      ·rename_i hw
       split at hpan
       ·(repeat' split at hpan)<;>cases hpan
       ·rename_i hh
        split at hpan
        ·cases hpan
        ·rename_i c' a'' s' hop
         cases hpan
         exact⟨hw,hh,s',hop,rfl⟩
        ·cases hpan
       ·(repeat' split at hpan)<;>cases hpan
       ·(repeat' split at hpan)<;>cases hpan
      ·cases hpan
     obtain⟨hw,hh,s',hop,hs₁⟩:=hwant
     have hjeq:j=N:=by
      rcases Nat.lt_or_ge N j with hlt|hge
      ·exfalso
       have hnl:¬L dN.ix:=fun hl=>by
        have:=I.before N dN hdN hl
        have:=I.leN
        omega
       have hp:=C.plan.pair N j dN d hlt hdN hj
       cases hb:(anc d.ix).testBit dN.ix with
       |true=>rw[hix]at hb;exact hnl (X.hanc _ hb)
       |false=>
        have:=(hp.2.2 hb).1
        rw[hh]at this;cases this
      ·omega
     subst hjeq
     rw[hj]at hdN;cases hdN
     rw[hix,ho]at hoN;cases hoN
     rw[←C.wants I hj hix (Nat.le_refl j) ho hn X.hanc,hw]
     simp only[if_true]
     subst hr hs₁
     have hrelj:=C.relAt I X (Nat.le_refl j) (.inl I.leN)
     have hext:=C.ext I I.leN (Nat.le_refl j) hrelj
     have hfr:Free β (S j) s':=hext.freeOf hfree
     refine op_sound C.hc (hrelj.of_same (T:={S j with prot:=qZ ops.toList (A j) d.free++(S j).prot}) rfl rfl) (C.operands I hj hix (Nat.le_refl j) ho hn X.hanc) (by rw[hop];simp) (by rw[hop];exact hfr) _ Q (fun v v' s'' β' w' he=>by rw[hop]at he;cases he) (fun ch ch' s'' β' w' he hx hch=>?_) ro
     rw[hop]at he
     simp only[Out.panic.injEq]at he
     obtain⟨rfl,_,rfl⟩:=he
     have hx':=Ext.relax (s:=S j) (s₀:={S j with prot:=qZ ops.toList (A j) d.free++(S j).prot}) rfl rfl (fun b hb=>by
      unfold St.may at hb ⊢
      simp only[Bool.and_eq_true,Bool.not_eq_true',List.any_append,Bool.or_eq_false_iff]at hb ⊢
      exact⟨hb.1,hb.2.2⟩) hx
     exact hQ _ _ _ ⟨ch',β',rfl,hext.trans hx' hfree,hch,by rw[I.defers];exact hmk.ext (hext.trans hx' hfree) hfree⟩
end
theorem draw_sound{P:Program}{lo:Nat}{call:FuncId→Array Value→St→CallOut}(hmix:P.follows .mixedOrders=true)(hc:CallS P call)(hk:∀f args s,WF s→(call f args s).keeps s){id:Nat}{ops:Array Oper}{l:List Drawn}
  (hplan:planB ops.toList l=true) (hops:ops.toList.all (fun o=>o.op.operands.toList.all je)=true) {a:Fr} {a':Act} {s:St} {β:Ren} {w:World} (h:Rel P β s w) (hf:FRel P β a a') (hm:Marks lo β s w a'.defers) (ro:Option Nat)
  (hne:drawM P call ops.toList l a s≠.stuck) (hfree:(drawM P call ops.toList l a s).free β s):(Code.region id ops true).wpIn (FW ro) 0 P (OutP P lo β s w (drawM P call ops.toList l a s)) a' w:=by
 obtain⟨anc,hp⟩:=plan_ok hplan
 obtain⟨N,A,S,hA,hS,hch,hend⟩:=chain_of l a s hne
 subst hA hS
 refine wpIn_region_draw fun t=>?_
 have hsch:Region.schedule (P.follows .mixedOrders) ops t=Region.linearise .any ops t:=by
  unfold Region.schedule
  rw[hmix]
  simp
 rw[hsch]
 have hwf:WF (S 0):=⟨h.room,h.top⟩
 have hkN:=hch.kp hk hwf N (Nat.le_refl N)
 have hfreeN:Free β (S 0) (S N):=by
  rcases hend with⟨_,hr⟩|⟨d,o,c,a₁,s₁,_,_,hpan,hr⟩
  ·rw[hr]at hfree;exact hfree
  ·rw[hr]at hfree
   have:=drawOp_keeps (P:=P) hk hkN.wf ops.toList d o (A N)
   rw[hpan]at this
   have this:Kp (S N) s₁:=this
   exact Free.sub hfree this.next
 have C:Ctx P call ops l anc N A S β (drewW w) a':={
  hc:=hc
  hk:=hk
  plan:=hp
  chain:=hch
  small:=hf.small
  rel:=h.drewW
  fr:=hf
  free:=hfreeN
  opsB:=fun i o ho=>by
   rw[List.all_eq_true]at hops
   exact hops o (by rw[Array.mem_toList_iff];exact Array.mem_of_getElem? ho)}
 have I:Inv P ops l anc N A S β (drewW w) a'.defers (fun _=>False) 0 β a' (drewW w):={
  closed:=fun _ _ _ hl=>hl.elim
  before:=fun _ _ _ hl=>hl.elim
  wholes:=fun _ _ _ _ hlt=>by omega
  leN:=Nat.zero_le _
  rel:=h.drewW
  le:=Ren.le_refl β
  dom:=fun b m hb=>.inl hb
  tsize:=hf.size
  defers:=rfl
  filled:=fun _ _ _ _ _ _ hl=>hl.elim
  old:=fun t _ _=>hf.get t
  size:=Nat.le_refl _
  out:=fun _ _ _=>rfl
  fresh:=fun b m h1 h2=>by rw[h2]at h1;cases h1
  os:=rfl
  output:=rfl
  tape:=rfl}
 refine C.sched (r:=drawM P call ops.toList l (A 0) (S 0)) ?_ hfree _ (fun e a₂ w₂ ho=>?_) (D₀:=a'.defers) (Marks.same (w:=w) (w':=drewW w) rfl hm) ro _ _ (linearise_sched ops (fun i o ho e he hb=>(hp.edges i o ho e he hb).1) t) 0 β a' (drewW w) I
 ·rcases hend with⟨h1,h2⟩|⟨d,o,c,a₁,s₁,g1,g2,g3,g4⟩
  ·exact .inl ⟨h1,h2⟩
  ·exact .inr ⟨d,o,c,a₁,s₁,g1,g2,g3,g4⟩
 ·have back:∀β' s',Ext P β (S 0) (drewW w) β' s' w₂→Ext P β (S 0) w β' s' w₂:=fun β' s' hx=>⟨hx.rel,hx.le,hx.dom,hx.next,hx.bar,hx.prot,hx.size,hx.out,hx.same,hx.dead,hx.fresh,hx.os,hx.output,hx.tape⟩
  cases hr:drawM P call ops.toList l (A 0) (S 0)with
  |normal a₁ s₁=>rw[hr]at ho;obtain⟨h1,β',h2,h3,h4⟩:=ho;exact⟨h1,β',back _ _ h2,h3,h4⟩
  |exit i a₁ s₁=>rw[hr]at ho;obtain⟨h1,β',h2,h3,h4⟩:=ho;exact⟨h1,β',back _ _ h2,h3,h4⟩
  |ret a₁ s₁=>rw[hr]at ho;obtain⟨h1,β',h2,h3,h4⟩:=ho;exact⟨h1,β',back _ _ h2,h3,h4⟩
  |panic c a₁ s₁=>rw[hr]at ho;obtain⟨c',β',h1,h2,h3,h4⟩:=ho;exact⟨c',β',h1,back _ _ h2,h3,h4⟩
  |stuck=>rw[hr]at ho;exact ho
end Go.M
namespace Go.M
structure TableS(P:Program)(I:xP):Prop where
 next:∀f g,I f=some g→∀args s,(g args s).nextLe s
 keeps:∀f g,I f=some g→∀args s,WF s→(g args s).keeps s
 sound:∀f g,I f=some g→∀args args' s β w,Rel P β s w→LRel P β args.toList args'.toList→g args s≠.stuck→(g args s).free β s→Calls P f args' w (CallP P β s w (g args s))
def CodeS(P:Program)(code:Code→Fr→St→Out):Prop:=
 ∀c a a' s β w lo ro,vK c=true→(ro=none∨flatC c=true)→Rel P β s w→FRel P β a a'→Marks lo β s w a'.defers→lo≤w.heap.size→code c a s≠.stuck→(code c a s).free β s →
  c.wpIn (FW ro) 0 P (OutP P lo β s w (code c a s)) a' w
theorem Out.next_trans{s s₁:St}{r:Out}(h:s.next≤s₁.next)(hr:r.nextLe s₁):r.nextLe s:=by
 cases r<;>first|exact Nat.le_trans h hr|trivial
theorem drawOp_next{P:Program}{call:FuncId→Array Value→St→CallOut}(hc:∀f args s,(call f args s).nextLe s)(ops:List Oper)(d:Drawn)(o:Oper)(a:Fr)(s:St):(qW P call ops d o a s).nextLe s:=by
 unfold qW
 split
 ·split
  ·split
   ·split
    ·exact Nat.le_refl _
    ·trivial
   ·trivial
  ·have h1:=opM_next (P:=P) hc o a {s with prot:=qZ ops a d.free++s.prot}
   split
   ·rename_i hr;rw[hr]at h1;exact h1
   ·rename_i hr;rw[hr]at h1;exact h1
   ·trivial
  ·have h1:=opM_next (P:=P) hc o a {s with bar:=s.next}
   split
   ·rename_i hr;rw[hr]at h1;exact h1
   ·trivial
  ·split
   ·split
    ·split
     ·show s.next≤s.next+1;omega
     ·trivial
    ·trivial
   ·trivial
 ·exact Nat.le_refl _
theorem drawM_next{P:Program}{call:FuncId→Array Value→St→CallOut}(hc:∀f args s,(call f args s).nextLe s)(ops:List Oper):∀(l:List Drawn) (a:Fr) (s:St),(drawM P call ops l a s).nextLe s
 | [],a,s=>Nat.le_refl _
 |d::l,a,s=>by
  unfold drawM
  split
  ·rename_i o _
   have h1:=drawOp_next (P:=P) hc ops d o a s
   cases hr:qW P call ops d o a s with
   |normal a₁ s₁=>
    rw[hr]at h1
    exact Out.next_trans h1 (drawM_next hc ops l a₁ s₁)
   |exit id a₁ s₁=>rw[hr]at h1;exact h1
   |ret a₁ s₁=>rw[hr]at h1;exact h1
   |panic c a₁ s₁=>rw[hr]at h1;exact h1
   |stuck=>trivial
  ·trivial
section
variable{P:Program}{I:xP}
theorem bodyM_next{code:Code→Fr→St→Out}(hn:∀c a s,(code c a s).nextLe s)(fn:Func)(c:Code)(args:Array Value)(s:St):(bodyM P code fn c args s).nextLe s:=by
 unfold bodyM
 split
 ·have h1:=hn c (Fr.make args fn.ntmps) s
  split
  ·rename_i hr;rw[hr]at h1
   unfold finish
   split<;>first|exact h1|trivial
  ·rename_i hr;rw[hr]at h1
   unfold finish
   split<;>first|exact h1|trivial
  ·rename_i hr;rw[hr]at h1;exact h1
  ·trivial
 ·trivial
theorem CallOut.next_trans{s s₁:St}{r:CallOut}(h:s.next≤s₁.next)(hr:r.nextLe s₁):r.nextLe s:=by
 cases r<;>first|exact Nat.le_trans h hr|trivial
theorem endM_next{b:Nat}{j:Option Code}{s:St}:(endM b j s).nextLe s:=by
 unfold endM
 split
 ·exact Nat.le_refl _
 ·trivial
theorem roundM_next{code:Code→Fr→St→Out}(hn:∀c a s,(code c a s).nextLe s)(b:Nat)(args:Array Value)(s:St):(roundM code b args s).nextLe s:=by
 unfold roundM
 split
 ·rename_i lp _
  split
  ·have h1:=hn lp.assign (lp.fr.putAll lp.params args.toList) s
   split
   ·rename_i a₁ s₁ hr
    rw[hr]at h1
    have h1:s.next≤s₁.next:=h1
    split
    ·rename_i lp' _ _
     split
     ·have h2:=hn lp'.body a₁ (s₁.put b (some (.loop {lp' with state:=.busy})))
      have h3:=hn lp.body a₁ (s₁.put b (some (.loop {lp' with state:=.busy})))
      split
      ·rename_i s₂ hr2
       rw[hr2]at h3
       have h3:s₁.next≤s₂.next:=h3
       exact CallOut.next_trans (Nat.le_trans h1 h3) endM_next
      ·rename_i s₂ hr2
       rw[hr2]at h3
       have h3:s₁.next≤s₂.next:=h3
       exact CallOut.next_trans (Nat.le_trans h1 h3) endM_next
      ·rename_i s₂ hr2
       rw[hr2]at h3
       have h3:s₁.next≤s₂.next:=h3
       exact CallOut.next_trans (Nat.le_trans h1 h3) endM_next
      ·trivial
     ·trivial
    ·trivial
   ·trivial
  ·trivial
 ·trivial
theorem callWith_next(hI:TableS P I){code:Code→Fr→St→Out}(hn:∀c a s,(code c a s).nextLe s)(f:FuncId)(args:Array Value)(s:St):(qY P I code f args s).nextLe s:=by
 unfold qY
 split
 ·exact roundM_next hn _ _ _
 ·rename_i hlow
  split
  ·rename_i g hg;exact hI.next f g hg args s
  ·split
   ·split
    ·rename_i fn _ c _
     exact bodyM_next hn _ _ _ _
    ·trivial
   ·trivial
theorem bodyM_keeps{code:Code→Fr→St→Out}(hk:∀c a s,WF s→(code c a s).keeps s)(fn:Func)(c:Code)(args:Array Value)(s:St)(h:WF s):(bodyM P code fn c args s).keeps s:=by
 unfold bodyM
 split
 ·have h1:=hk c (Fr.make args fn.ntmps) s h
  split
  ·rename_i hr;rw[hr]at h1
   unfold finish
   split<;>first|exact h1|trivial
  ·rename_i hr;rw[hr]at h1
   unfold finish
   split<;>first|exact h1|trivial
  ·rename_i hr;rw[hr]at h1;exact h1
  ·trivial
 ·trivial
theorem endM_keeps{b:Nat}{j:Option Code}{s:St}(h:WF s):(endM b j s).keeps s:=by
 unfold endM
 split
 ·rename_i hm hg
  exact Kp.put h hg hm _
 ·trivial
theorem roundM_keeps{code:Code→Fr→St→Out}(hk:∀c a s,WF s→(code c a s).keeps s)(b:Nat)(args:Array Value)(s:St)(h:WF s):(roundM code b args s).keeps s:=by
 unfold roundM
 split
 ·rename_i lp _
  split
  ·have h1:=hk lp.assign (lp.fr.putAll lp.params args.toList) s h
   split
   ·rename_i a₁ s₁ hr
    rw[hr]at h1
    have h1:Kp s s₁:=h1
    split
    ·rename_i lp' hm hg
     split
     ·have hp:=Kp.put h1.wf hg hm (some (.loop {lp' with state:=.busy}))
      have h3:=hk lp.body a₁ _ hp.wf
      split
      ·rename_i s₂ hr2
       rw[hr2]at h3
       have h3:Kp _ s₂:=h3
       exact CallOut.keeps_trans (h1.trans (hp.trans h3)) (endM_keeps h3.wf)
      ·rename_i s₂ hr2
       rw[hr2]at h3
       have h3:Kp _ s₂:=h3
       exact CallOut.keeps_trans (h1.trans (hp.trans h3)) (endM_keeps h3.wf)
      ·rename_i s₂ hr2
       rw[hr2]at h3
       have h3:Kp _ s₂:=h3
       exact CallOut.keeps_trans (h1.trans (hp.trans h3)) (endM_keeps h3.wf)
      ·trivial
     ·trivial
    ·trivial
   ·trivial
  ·trivial
 ·trivial
theorem jF(hI:TableS P I){code:Code→Fr→St→Out}(hk:∀c a s,WF s→(code c a s).keeps s)(f:FuncId)(args:Array Value)(s:St)(h:WF s):(qY P I code f args s).keeps s:=by
 unfold qY
 split
 ·exact roundM_keeps hk _ _ _ h
 ·split
  ·rename_i g hg;exact hI.keeps f g hg args s h
  ·split
   ·split
    ·exact bodyM_keeps hk _ _ _ _ h
    ·trivial
   ·trivial
theorem callV_same{f:Value}{args:List Value}{s s':St}{n:Next}(h:kn P f args s=.ok n s'):s'=s:=by
 unfold kn at h
 (repeat' split at h)<;>cases h<;>rfl
theorem rangeM_keeps(hI:TableS P I){code:Code→Fr→St→Out}(hk:∀c a s,WF s→(code c a s).keeps s)(f:Operand)(ps:Array Tmp)(x y:Code)(a:Fr)(s:St)(h:WF s):(rangeM P I code f ps x y a s).keeps s:=by
 unfold rangeM
 split
 ·trivial
 ·rename_i hroom
  have h0:=Kp.new h hroom (.loop {fr:=a,params:=ps.toList,assign:=x,body:=y,state:=.ready,pend:=none})
  split
  ·rename_i g args s₁ hv
   have e:=callV_same hv
   subst e
   split
   ·trivial
   ·have h2:=jF hI hk g args _ h0.wf
    split
    ·rename_i s₂ hr
     rw[hr]at h2
     have h2:Kp _ s₂:=h2
     split
     ·rename_i lp hm hg
      have h3:=Kp.put h2.wf hg hm (some (.loop {lp with state:=.exhausted}))
      split
      ·trivial
      ·split
       ·exact h0.trans (h2.trans h3)
       ·exact h0.trans (h2.trans h3)
       ·exact h0.trans (h2.trans h3)
       ·trivial
     ·trivial
    ·rename_i hr
     rw[hr]at h2
     exact h0.trans h2
    ·trivial
  ·trivial
theorem rangeM_next(hI:TableS P I){code:Code→Fr→St→Out}(hn:∀c a s,(code c a s).nextLe s)(f:Operand)(ps:Array Tmp)(x y:Code)(a:Fr)(s:St):(rangeM P I code f ps x y a s).nextLe s:=by
 unfold rangeM
 split
 ·trivial
 ·split
  ·rename_i g args s₁ hv
   have e:=callV_same hv
   subst e
   split
   ·trivial
   ·have h2:=callWith_next hI hn g args (s.new (.loop {fr:=a,params:=ps.toList,assign:=x,body:=y,state:=.ready,pend:=none}))
    split
    ·rename_i s₂ hr
     rw[hr]at h2
     have h2:s.next+1≤s₂.next:=h2
     have h3:s.next≤s₂.next:=by omega
     split
     ·split
      ·trivial
      ·split<;>first|exact h3|trivial
     ·trivial
    ·rename_i s₂ hr
     rw[hr]at h2
     have h2:s.next+1≤s₂.next:=h2
     show s.next≤s₂.next
     omega
    ·trivial
  ·trivial
theorem codeM_next(hI:TableS P I):∀(n:Nat) (c:Code) (a:Fr) (s:St),(qF P I n c a s).nextLe s
 |0,_,_,_=>trivial
 |n+1,c,a,s=>by
  have ih:=codeM_next hI n
  have hc:=callWith_next hI ih
  unfold qF
  split
  ·exact Nat.le_refl _
  ·exact Nat.le_refl _
  ·rename_i x y
   have h1:=ih x a s
   cases hr:qF P I n x a s with
   |normal a₁ s₁=>rw[hr]at h1;exact Out.next_trans h1 (ih y a₁ s₁)
   |exit id a₁ s₁=>rw[hr]at h1;exact h1
   |ret a₁ s₁=>rw[hr]at h1;exact h1
   |panic c a₁ s₁=>rw[hr]at h1;exact h1
   |stuck=>trivial
  ·split
   ·exact ih _ _ _
   ·exact ih _ _ _
   ·trivial
  ·rename_i id b
   have h1:=ih b a s
   cases hr:qF P I n b a s with
   |normal a₁ s₁=>rw[hr]at h1;exact h1
   |exit id' a₁ s₁=>
    rw[hr]at h1
    simp only
    split<;>exact h1
   |ret a₁ s₁=>rw[hr]at h1;exact h1
   |panic c a₁ s₁=>rw[hr]at h1;exact h1
   |stuck=>trivial
  ·rename_i b
   have h1:=ih b a s
   cases hr:qF P I n b a s with
   |normal a₁ s₁=>rw[hr]at h1;exact Out.next_trans h1 (ih _ a₁ s₁)
   |exit id a₁ s₁=>rw[hr]at h1;exact h1
   |ret a₁ s₁=>rw[hr]at h1;exact h1
   |panic c a₁ s₁=>rw[hr]at h1;exact h1
   |stuck=>trivial
  ·exact Nat.le_refl _
  ·exact Nat.le_refl _
  ·split
   ·exact opsM_next hc _ _ _ _
   ·split
    ·exact drawM_next hc _ _ _ _
    ·trivial
  ·exact ih _ _ _
  ·exact rangeM_next hI ih _ _ _ _ _ _
  ·trivial
theorem codeM_keeps(hI:TableS P I):∀(n:Nat) (c:Code) (a:Fr) (s:St),WF s→(qF P I n c a s).keeps s
 |0,_,_,_,_=>trivial
 |n+1,c,a,s,h=>by
  have ih:=codeM_keeps hI n
  have hc:=jF hI ih
  unfold qF
  split
  ·exact Kp.refl h
  ·exact Kp.refl h
  ·rename_i x y
   have h1:=ih x a s h
   cases hr:qF P I n x a s with
   |normal a₁ s₁=>rw[hr]at h1;have h1:Kp s s₁:=h1;exact Out.keeps_trans h1 (ih y a₁ s₁ h1.wf)
   |exit id a₁ s₁=>rw[hr]at h1;exact h1
   |ret a₁ s₁=>rw[hr]at h1;exact h1
   |panic c a₁ s₁=>rw[hr]at h1;exact h1
   |stuck=>trivial
  ·split
   ·exact ih _ _ _ h
   ·exact ih _ _ _ h
   ·trivial
  ·rename_i id b
   have h1:=ih b a s h
   cases hr:qF P I n b a s with
   |normal a₁ s₁=>rw[hr]at h1;exact h1
   |exit id' a₁ s₁=>
    rw[hr]at h1
    simp only
    split<;>exact h1
   |ret a₁ s₁=>rw[hr]at h1;exact h1
   |panic c a₁ s₁=>rw[hr]at h1;exact h1
   |stuck=>trivial
  ·rename_i b
   have h1:=ih b a s h
   cases hr:qF P I n b a s with
   |normal a₁ s₁=>rw[hr]at h1;have h1:Kp s s₁:=h1;exact Out.keeps_trans h1 (ih _ a₁ s₁ h1.wf)
   |exit id a₁ s₁=>rw[hr]at h1;exact h1
   |ret a₁ s₁=>rw[hr]at h1;exact h1
   |panic c a₁ s₁=>rw[hr]at h1;exact h1
   |stuck=>trivial
  ·exact Kp.refl h
  ·exact Kp.refl h
  ·split
   ·exact opsM_keeps hc _ _ _ _ h
   ·split
    ·exact drawM_keeps hc _ _ _ _ h
    ·trivial
  ·exact ih _ _ _ h
  ·exact rangeM_keeps hI ih _ _ _ _ _ _ h
  ·trivial
def resF(tmps:Array Value):ResultVar→Sem Value
 | .tmp t=>pure (tmps.getD t undef)
 | .cell b t=>do loadVar t (←asAddr (tmps.getD b undef))
theorem results_eq(fn:Func)(tmps:Array Value):results fn tmps=(fn.results.mapM (resF tmps) >>= fun vs=>pure (if h:vs.size=1 then vs[0]else .tuple vs)):=rfl
theorem results_sound{β:Ren}{s:St}{w:World}(h:Rel P β s w){a:Fr}{a':Act}(hf:FRel P β a a'):∀(rs:List ResultVar) (l:List Value),vM P a s rs=some l →
  ∃l',(rs.mapM (resF a'.tmps)).run P w=.ok l' w∧LRel P β l l'
 | [],l,hl=>by
  simp only[vM,Option.some.injEq]at hl
  subst hl
  exact⟨[],rfl,.nil⟩
 | .tmp t::rs,l,hl=>by
  unfold vM at hl
  split at hl
  ·rename_i r hr
   cases hl
   obtain⟨l',h1,h2⟩:=results_sound h hf rs r hr
   refine⟨a'.tmps.getD t undef::l',?_,.cons (hf.get t) h2⟩
   rw[List.mapM_cons]
   simp only[resF,Sem.run_bind,Sem.run_pure,Result.andThen_ok,h1]
  ·cases hl
 | .cell b t::rs,l,hl=>by
  unfold vM at hl
  split at hl
  ·rename_i v r hv hr
   cases hl
   obtain⟨l',h1,h2⟩:=results_sound h hf rs r hr
   obtain⟨ad,v',g1,g2,g3⟩:=loadV_sound h (hf.get b) hv
   refine⟨v'::l',?_,.cons g3 h2⟩
   rw[List.mapM_cons]
   have g0:(asAddr (a'.tmps.getD b undef)).run P w=.ok ad w:=by rw[g1];rfl
   simp only[resF,Sem.run_bind,Sem.run_pure,Result.andThen_ok,g0,g2]
   rw[h1]
   rfl
  ·cases hl
theorem finish_sound{β:Ren}{s:St}{w:World}(h:Rel P β s w){a:Fr}{a':Act}(hf:FRel P β a a'){fn:Func}{v:Value}{s₁:St}(hr:finish P fn a s=.ret v s₁) :
  s₁=s∧∃v',(results fn a'.tmps).run P w=.ok v' w∧VRel P β v v':=by
 unfold finish at hr
 have key:∀l,vM P a s fn.results.toList=some l→∃l',(results fn a'.tmps).run P w=.ok (if h:(⟨l'⟩:Array Value).size=1 then(⟨l'⟩:Array Value)[0]else .tuple ⟨l'⟩) w∧LRel P β l l':=fun l hl=>by
  obtain⟨l',h1,h2⟩:=results_sound h hf _ l hl
  refine⟨l',?_,h2⟩
  rw[results_eq,Array.mapM_eq_mapM_toList]
  simp only[Sem.run_bind,Sem.run_map,h1,Result.andThen_ok,Sem.run_pure]
 split at hr
 ·rename_i v₀ hl
  cases hr
  obtain⟨l',h1,h2⟩:=key _ hl
  cases h2 with
  |cons hv h2=>
   cases h2
   exact⟨rfl,_,h1,hv⟩
 ·rename_i l hn hl
  cases hr
  obtain⟨l',h1,h2⟩:=key _ hl
  refine⟨rfl,.tuple ⟨l'⟩,?_,.tuple h2⟩
  rw[h1]
  have:¬(⟨l'⟩:Array Value).size=1:=fun he=>by
   have hlen:l'.length=1:=he
   have:=h2.length
   rw[hlen]at this
   obtain⟨x,hx⟩:=List.length_eq_one_iff.1 this.symm
   exact hn x hx
  rw[dif_neg this]
 ·cases hr
end
end Go.M
