/- A drawn region: one operation more. -/
import Derived.Test.YtocnbjjmmgolfaaGreatA07
set_option linter.unusedSimpArgs false
set_option linter.unusedVariables false
set_option linter.unusedSectionVars false
namespace Go.M
section
variable{P:Program}{call:FuncId→Array Value→St→CallOut}{ops:Array Oper}{l:List Drawn}{anc:Nat→Nat}{N:Nat}{A:Nat→Fr}{S:Nat→St}{β₀:Ren}{w₀:World}{D₀:List Deferred}{ro:Option Nat}{a₀:Act}
theorem put_same{a:Fr}(hs:a.size≤65534){v:Value}{t:Nat}(h:t<a.size):(a.put (some t) v).get t=v:=by
 unfold Fr.put
 simp only
 have:Nat.blt t a.size=true:=by simpa[Nat.blt_eq]using h
 rw[this]
 unfold Fr.get
 simp only
 rw[Tr.get_put vK _ _ _ _ (by have:(2:Nat) ^ vK=65536:=U;omega),aF rfl]
theorem zbb{a':Act}{v':Value}{t:Nat}(h:t<a'.tmps.size):(a'.put (some t) v').tmps.getD t undef=v':=by
 unfold Act.put
 simp only
 rw[bB,Array.getElem?_setIfInBounds_self_of_lt h]
 rfl
theorem Zy{a':Act}{dst:Option Tmp}{v':Value}{t:Nat}(h:dst≠some t):(a'.put dst v').tmps.getD t undef=a'.tmps.getD t undef:=by
 unfold Act.put
 split
 ·rename_i d
  rw[bB,bB,Array.getElem?_setIfInBounds_ne (fun e=>h (by rw[e]))]
 ·rfl
theorem zba{a':Act}{dst:Option Tmp}{v':Value}:(a'.put dst v').tmps.size=a'.tmps.size:=by
 unfold Act.put
 split<;>simp
structure Next1(ops:Array Oper)(l:List Drawn)(anc:Nat→Nat)(L:Nat→Prop)(i j:Nat)(d:Drawn)(o:Oper):Prop where
 hj:l[j]? = some d
 hi:d.ix=i
 ho:ops[i]? = some o
 hn:¬L i
 hanc:∀k,(anc i).testBit k=true→L k
variable(C:Ctx P call ops l anc N A S β₀ w₀ a₀){L:Nat→Prop}{M:Nat}{β:Ren}{a':Act}{w:World}(I:Inv P ops l anc N A S β₀ w₀ D₀ L M β a' w)
 {i j:Nat} {d:Drawn} {o:Oper} (X:Next1 ops l anc L i j d o)
include C I X
theorem Ctx.gap(r:Nat)(e:Drawn)(h1:M≤r)(h2:r<j)(he:l[r]? = some e):gi e.how=false:=by
 have a:¬L e.ix:=fun hl=>by have:=I.before r e he hl;omega
 have hp:=C.plan.pair r j e d h2 he X.hj
 cases hb:(anc d.ix).testBit e.ix with
 |true=>rw[X.hi]at hb;exact(a (X.hanc _ hb)).elim
 |false=>exact(hp.2.2 hb).1
theorem Ctx.gap2(r:Nat)(e:Drawn)(h1:j≤r)(h2:r<M)(he:l[r]? = some e)(h:gi e.how=true):j<r∧(zeI d.how=true∨VZ d.how=true)∧(zcy o=true∨VZ d.how=true→i∈e.free):=by
 have hl:=I.wholes r e he h h2
 have hne:j≠r:=fun c=>by
  subst c
  rw[X.hj]at he;cases he
  rw[X.hi]at hl;exact X.hn hl
 have a:j<r:=by omega
 have hp:=C.plan.pair j r d e a X.hj he
 obtain⟨oe,b⟩:=C.plan.op r e he
 have hsz:e.ix<ops.size:=by
  rcases cM e.ix ops.size with f|f
  ·exact f
  ·rw[cX f]at b;cases b
 cases hb:(anc e.ix).testBit d.ix with
 |true=>rw[X.hi]at hb;exact(X.hn (I.closed e.ix i hsz hl hb)).elim
 |false=>
  obtain⟨g1,g2⟩:=(hp.2.2 hb).2 h
  exact⟨a,g1,fun g=>by have:=g2 o (by rw[X.hi];exact X.ho) g;rw[X.hi]at this;exact this⟩
theorem Ctx.relAt(a:j≤N)(h:M≤j∨(zeI d.how=false∧VZ d.how=false)):Rel P β (S j) w:=by
 refine I.rel.at_state (C.wf a) (fun b m hb c=>C.known I hb a c) (fun b m o' hb c hg=>?_) fun b m hb c g=>by
  have:=I.rel.ro b m hb (C.known I hb a c) g
  have e1:=(C.kp (cJ j) a).bar
  have e2:=(C.kp (cJ M) I.leN).bar
  omega
 rcases cM j M with f|f
 ·have hl:=h.resolve_left O
  rw[C.stays M O I.leN (fun r e h1 h2 he=>by
   cases k:gi e.how with
   |false=>rfl
   |true=>
    rcases(C.gap2 I X r e h1 h2 he k).2.1 with this|this
    ·rw[hl.1]at this;cases this
    ·rw[hl.2]at this;cases this) b c]
  exact hg
 ·rw[←C.stays j f a (fun r e h1 h2 he=>C.gap I X r e h1 h2 he) b (C.known I hb a c)]
  exact hg
theorem Ctx.freeAt(hjN:j<N):Free β (S j) (S (j+1)):=fun b h1 h2=>by
 cases hb:β b with
 |none=>rfl
 |some m=>
  exfalso
  rcases I.dom b m hb with h|⟨p,e,g1,g2,g3,g4⟩
  ·have:=C.free b (bH (C.kp (cJ j) O).next h1) (bJ h2 (C.kp (by omega:j+1≤N) (aO N)).next)
   rw[h]at this;cases this
  ·have hpM:=I.before p e g1 g2
   have hleN:=I.leN
   rcases Nat.lt_trichotomy p j with c|a|c
   ·have:=(C.kp (by omega:p+1≤j) O).next;omega
   ·subst a
    rw[X.hj]at g1;cases g1
    rw[X.hi]at g2;exact X.hn g2
   ·have:=(C.kp (by omega:j+1≤p) O).next;omega
theorem Ctx.advance(hjN:j<N){v v':Value}(hA:A (j+1)=(A j).put o.dst v){y:Nat}(hM:M≤y)(hjM:j<y)(T:y≤N)
 (hw:∀(p:Nat) (e:Drawn),l[p]? = some e→gi e.how=true→p<y→L e.ix∨e.ix=i) {β':Ren} {w':World} (hv:VRel P β' v v') (K:Rel P β' (S y) w') (a:β.le β')
 (E:∀b m,β' b=some m→β b=none→(S j).next≤b∧b<(S (j+1)).next) (x:w.heap.size≤w'.heap.size)
 (H:∀r,r<w.heap.size→(∀b m o,β b=some m→b<(S j).next→(S 0).may b=true→(S j).get b=some o→m.blk≠r)→w'.heap[r]? = w.heap[r]?)
 (g:∀b m,β' b=some m→β b=none→w.heap.size≤m.blk∨∃b₁ m₁ o₁,β b₁=some m₁∧b₁<(S j).next∧(S 0).may b₁=true∧(S j).get b₁=some o₁∧m₁.blk=m.blk)
 (W:w'.os=w.os) (V:w'.output=w.output) (Z:w'.tape=w.tape) :
 Inv P ops l anc N A S β₀ w₀ D₀ (fun k=>L k∨k=i) y β' (a'.put o.dst v') w':=by
 have hsm:=C.small
 have hszj:=C.chain.size j O
 -- what lives and may be written at the next operation's turn did so at the region's beginning
 have back:∀b m o,β b=some m→b<(S j).next→(S 0).may b=true→(S j).get b=some o→∀r,m.blk=r →
  w₀.heap.size≤r∨∃b₁ m₁ o₁,β₀ b₁=some m₁∧b₁<(S 0).next∧(S 0).may b₁=true∧(S 0).get b₁=some o₁∧m₁.blk=r:=by
  intro b m oo hb s c hg r J
  cases h0:β₀ b with
  |some m₀=>
   have:=I.le b m₀ h0
   rw[hb]at this;cases this
   have D:b<(S 0).next:=by
    rcases cM b (S 0).next with G|G
    ·exact G
    ·have:=C.free b G (bJ s (C.kp (by omega:j≤N) (aO N)).next)
     rw[h0]at this;cases this
   cases F:(S 0).get b with
   |none=>rw[(C.kp (cJ j) O).dead b D F]at hg;cases hg
   |some o₁=>exact .inr ⟨b,m,o₁,h0,D,c,F,J⟩
  |none=>rw[←J];exact I.fresh b m hb h0
 exact{
  closed:=fun k q hk hl n=>by
   rcases hl with hl|hl
   ·exact .inl (I.closed k q hk hl n)
   ·subst hl;exact .inl (X.hanc q n)
  before:=fun p e hp hl=>by
   rcases hl with hl|hl
   ·exact bJ (I.before p e hp hl) hM
   ·have:=C.pos hp X.hj (by rw[hl,X.hi]);omega
  wholes:=hw
  leN:=T
  rel:=K
  le:=Ren.le_trans I.le a
  dom:=fun b m hb=>by
   cases h1:β b with
   |some m₁=>
    have:=a b m₁ h1
    rw[hb]at this;cases this
    rcases I.dom b m h1 with h|⟨p,e,g1,g2,z,B⟩
    ·exact .inl h
    ·exact .inr ⟨p,e,g1,.inl g2,z,B⟩
   |none=>
    obtain⟨g1,g2⟩:=E b m hb h1
    exact .inr ⟨j,d,X.hj,.inr X.hi,g1,g2⟩
  tsize:=by rw[zba];exact I.tsize
  defers:=by rw[wN];exact I.defers
  filled:=fun p e q t hp n hl hd Q=>by
   rcases hl with hl|hl
   ·have u:o.dst≠some t:=fun G=>by
     have:=C.plan.dst e.ix i q o t n X.ho hd G
     rw[this]at hl;exact X.hn hl
    rw[Zy u]
    exact(I.filled p e q t hp n hl hd Q).mono a
   ·have Y:=C.pos hp X.hj (by rw[hl,X.hi])
    subst Y
    rw[hl,X.ho]at n;cases n
    rw[hA,hd,put_same O O,zbb (by rw[I.tsize];exact Q)]
    exact hv
  old:=fun t Q f=>by
   have u:o.dst≠some t:=f j d o X.hj (by rw[X.hi];exact X.ho) (.inr X.hi)
   rw[Zy u]
   exact(I.old t Q fun p e q hp n hl=>f p e q hp n (.inl hl)).mono a
  size:=bH I.size x
  out:=fun r J f=>by
   rw[←I.out r J f]
   refine H r (bJ J I.size) fun b m oo hb s c hg U=>?_
   rcases back b m oo hb s c hg r U with h|⟨b₁,m₁,o₁,g1,g2,z,B,R⟩
   ·omega
   ·exact f b₁ m₁ o₁ g1 g2 z B R
  fresh:=fun b m hb h0=>by
   cases h1:β b with
   |some m₁=>
    have:=a b m₁ h1
    rw[hb]at this;cases this
    exact I.fresh b m h1 h0
   |none=>
    rcases g b m hb h1 with h|⟨b₁,m₁,o₁,g1,g2,z,B,R⟩
    ·exact .inl (bH I.size h)
    ·exact back b₁ m₁ o₁ g1 g2 z B m.blk R
  os:=W.trans I.os
  output:=V.trans I.output
  tape:=Z.trans I.tape}
omit I X in
theorem Ctx.mayAt(a:j≤N)(b:Nat):(S j).may b=(S 0).may b:=St.may_eq (C.kp (cJ j) a).bar (C.kp (cJ j) a).prot b
theorem Ctx.pass(f:j<N)(h:yS P call ops.toList d o (A j) (S j)=.normal (A (j+1)) (S (j+1)))(c:qc ops.toList (A j) o=false) :
 ∃r,Inv P ops l anc N A S β₀ w₀ D₀ (fun k=>L k∨k=i) r β (a'.put o.dst undef) w:=by
 unfold yS at h
 rw[c]at h
 simp only[Out.normal.injEq]at h
 obtain⟨q,s⟩:=h
 rcases cM j M with a|a
 ·refine⟨M,C.advance I X f q.symm (aO M) a I.leN (fun p e hp m g=>.inl (I.wholes p e hp m g)) wn I.rel (Ren.le_refl β) V5 Z3 (fun _ _ _=>rfl) V5 rfl rfl rfl⟩
 ·refine⟨j+1,C.advance I X f q.symm O O O (fun p e hp m g=>?_) wn (by rw[←s];exact C.relAt I X O (.inl a)) (Ren.le_refl β) V5 Z3 (fun _ _ _=>rfl) V5 rfl rfl rfl⟩
  rcases cM p M with b|b
  ·exact .inl (I.wholes p e hp m b)
  ·by_cases n:p=j
   ·subst n;rw[X.hj]at hp;cases hp;exact .inr X.hi
   ·have:=C.gap I X p e b O hp
    rw[m]at this;cases this
end
section
variable{P:Program}{call:FuncId→Array Value→St→CallOut}{ops:Array Oper}{l:List Drawn}{anc:Nat→Nat}{N:Nat}{A:Nat→Fr}{S:Nat→St}{β₀:Ren}{w₀:World}{D₀:List Deferred}{ro:Option Nat}{a₀:Act}
theorem YL{o:Oper}{a:Fr}{v:Value}{s s₁:St}{a₁:Fr}(b:opM P call o a s=.normal a₁ s₁){s':St}(h:opM P call o a s=.normal (a.put o.dst v) s'):a₁=a.put o.dst v∧s'=s₁:=by
 rw[b]at h
 simp only[Out.normal.injEq]at h
 exact⟨h.1,h.2.symm⟩
variable(C:Ctx P call ops l anc N A S β₀ w₀ a₀){L:Nat→Prop}{M:Nat}{β:Ren}{a':Act}{w:World}(I:Inv P ops l anc N A S β₀ w₀ D₀ L M β a' w)
 {i j:Nat} {d:Drawn} {o:Oper} (X:Next1 ops l anc L i j d o)
include C I X
theorem Ctx.wholesTo(hjm:M≤j)(p:Nat)(e:Drawn)(hp:l[p]? = some e)(c:gi e.how=true)(hlt:p<j+1):L e.ix∨e.ix=i:=by
 rcases cM p M with a|a
 ·exact .inl (I.wholes p e hp c a)
 ·by_cases b:p=j
  ·subst b;rw[X.hj]at hp;cases hp;exact .inr X.hi
  ·have:=C.gap I X p e a O hp
   rw[c]at this;cases this
omit C in
theorem wholeJ(b:gi d.how=true):M≤j:=by
 rcases cM j M with a|a
 ·have:=I.wholes j d X.hj b a
  rw[X.hi]at this
  exact(X.hn this).elim
 ·exact a
theorem Ctx.whole(s:j<N)(f:yS P call ops.toList d o (A j) (S j)=.normal (A (j+1)) (S (j+1)))(q:qc ops.toList (A j) o=true)(B:d.how=.whole)
 (K:Act→World→Prop) (Q:Exit→Act→World→Prop)
 (J:∀D β' v' w',Inv P ops l anc N A S β₀ w₀ D₀ (fun k=>L k∨k=i) D β' (a'.put o.dst v') w'→K (a'.put o.dst v') w'):o.wpIn (FW ro) 0 P a' w K Q:=by
 have R:gi d.how=true:=by rw[B];rfl
 have p:=wholeJ I X R
 unfold yS at f
 rw[q,B]at f
 simp only at f
 have n:=C.freeAt I X s
 let sm:St:={S j with prot:=y9 ops.toList (A j) d.free++(S j).prot}
 have t:Rel P β sm w:=(C.relAt I X O (.inl p)).of_same rfl rfl (C.relAt I X O (.inl p)).ro
 split at f
 ·rename_i a₁ s₁ g
  simp only[Out.normal.injEq]at f
  obtain⟨H,x⟩:=f
  have a:(S (j+1)).next=s₁.next:=by rw[←x]
  refine wA C.hc t (C.operands I X.hj X.hi O X.ho X.hn X.hanc) (by rw[g];simp) (by rw[g];exact fun b h1 h2=>n b h1 (by rw[a];exact h2)) K Q (fun v v' s' β' w' he hx hv=>?_) (fun c c' s' β' w' he=>by rw[g]at he;cases he) ro
  obtain⟨e1,e2⟩:=YL g he
  subst e2
  refine J (j+1) β' v' w' (C.advance I X s (by rw[←H,e1]) O O O (C.wholesTo I X p) hv ?_ hx.le (fun b m h1 h2=>by rw[a];exact hx.dom b m h1 h2) hx.size (fun r f z=>?_) (fun b m h1 h2=>?_) hx.os hx.output hx.tape)
  ·refine hx.rel.of_same a (by rw[←x]) fun b m h1 h2 G=>?_
   have:=hx.rel.ro b m h1 h2 G
   rw[hx.bar]at this
   rw[←x]
   exact this
  ·refine hx.out r f fun b m T hb y e hg=>z b m T hb y ?_ hg
   rw[←C.mayAt (by omega:j≤N)]
   unfold St.may at e ⊢
   simp only[sm,aG,bC,List.any_append,Bool.or_eq_false_iff]at e ⊢
   exact⟨e.1,e.2.2⟩
  ·rcases hx.fresh b m h1 h2 with h|⟨b₁,m₁,o₁,g1,g2,u,E,F⟩
   ·exact .inl h
   ·refine .inr ⟨b₁,m₁,o₁,g1,g2,?_,E,F⟩
    rw[←C.mayAt (by omega:j≤N)]
    unfold St.may at u ⊢
    simp only[sm,aG,bC,List.any_append,Bool.or_eq_false_iff]at u ⊢
    exact⟨u.1,u.2.2⟩
 ·cases f
 ·cases f
omit C I X in
theorem KW{s:St}{b:Nat}(hb:b<s.next)(p:List Nat):({s with bar:=s.next,prot:=p}:St).may b=false:=by
 unfold St.may
 simp only[eK]
 left
 rw[cL]
 intro a
 have:=aR a
 omega
theorem Ctx.freshOp(D:j<N)(t:yS P call ops.toList d o (A j) (S j)=.normal (A (j+1)) (S (j+1)))(H:qc ops.toList (A j) o=true)(Z:d.how=.fresh)
 (K:Act→World→Prop) (Q:Exit→Act→World→Prop)
 (hK:∀M' β' v' w',Inv P ops l anc N A S β₀ w₀ D₀ (fun k=>L k∨k=i) M' β' (a'.put o.dst v') w'→K (a'.put o.dst v') w'):o.wpIn (FW ro) 0 P a' w K Q:=by
 unfold yS at t
 rw[H,Z]at t
 simp only at t
 have B:=C.freeAt I X D
 have u:Rel P β (S j) w:=C.relAt I X O (.inr ⟨by rw[Z];rfl,by rw[Z];rfl⟩)
 let sm:St:={S j with bar:=(S j).next}
 have W:Rel P β sm w:=u.of_same rfl rfl fun b m h1 h2 T=>h2
 split at t
 ·rename_i a₁ s₁ x
  simp only[Out.normal.injEq]at t
  obtain⟨hA,hS⟩:=t
  have a:(S (j+1)).next=s₁.next:=by rw[←hS]
  refine wA C.hc W (C.operands I X.hj X.hi O X.ho X.hn X.hanc) (by rw[x];simp) (by rw[x];exact fun b h1 h2=>B b h1 (by rw[a];exact h2)) K Q (fun v v' s' β' w' he hx hv=>?_) (fun c c' s' β' w' he=>by rw[x]at he;cases he) ro
  obtain⟨e1,e2⟩:=YL x he
  subst e2
  -- nothing that was there is written
  have g:∀r,r<w.heap.size→w'.heap[r]? = w.heap[r]? :=fun r t=>hx.out r t fun b m oo hb F y=>by
   have:=KW (s:=S j) F (S j).prot
   rw[this]at y;cases y
  have q:∀b m,β' b=some m→β b=none→w.heap.size≤m.blk:=fun b m h1 h2=>by
   rcases hx.fresh b m h1 h2 with h|⟨b₁,m₁,o₁,g1,g2,g3,_⟩
   ·exact h
   ·have:=KW (s:=S j) g2 (S j).prot
    rw[this]at g3;cases g3
  have f:Rel P β' (S (j+1)) w':=hx.rel.of_same a (by rw[←hS]) fun b m h1 h2 T=>by
   obtain⟨V,q2⟩:=hx.roOld Z3 h1 h2 T
   rw[←hS]
   exact u.ro b m V q2 T
  rcases cM j M with E|E
  ·-- others behind it are done
   have n:∀b,b<(S (j+1)).next→(S M).get b=(S (j+1)).get b:=C.stays M O I.leN (fun r e h1 h2 he=>by
    cases hw:gi e.how with
    |false=>rfl
    |true=>rcases(C.gap2 I X r e O h2 he hw).2.1 with this|this<;>(rw[Z]at this;cases this))
   have holdrel:=(I.rel.grow hx.size g)
   have back:∀b m,β' b=some m→b<(S M).next→β b=some m∨(β b=none∧b<(S (j+1)).next):=fun b m h1 _=>by
    cases hb:β b with
    |some m₁=>have:=hx.le b m₁ hb;rw[h1]at this;cases this;exact .inl rfl
    |none=>exact .inr ⟨rfl,by rw[a];exact(hx.dom b m h1 hb).2⟩
   have G:Rel P β' (S M) w':={
    img:=fun b m h1 h2=>by
     rcases back b m h1 h2 with h|⟨_,h⟩
     ·exact holdrel.img b m h h2
     ·exact f.img b m h1 h
    obj:=fun b m oo h1 h2 hg=>by
     rcases back b m h1 h2 with h|⟨_,h⟩
     ·obtain⟨o',V,q2⟩:=holdrel.obj b m oo h h2 hg
      exact⟨o',V,q2.mono hx.le⟩
     ·exact f.obj b m oo h1 h (by rw[←n b h];exact hg)
    inj:=fun R z m1 m2 o1 o2 h1 h2 l1 l2 g1 g2 e=>by
     rcases back R m1 h1 l1 with k1|⟨k1,Y⟩
     ·rcases back z m2 h2 l2 with U|⟨U,J⟩
      ·exact holdrel.inj R z m1 m2 o1 o2 k1 U l1 l2 g1 g2 e
      ·have:=I.rel.img R m1 k1 l1
       have:=q z m2 h2 U
       omega
     ·rcases back z m2 h2 l2 with U|⟨U,J⟩
      ·have:=I.rel.img z m2 U l2
       have:=q R m1 h1 k1
       omega
      ·exact f.inj R z m1 m2 o1 o2 h1 h2 Y J (by rw[←n R Y];exact g1) (by rw[←n z J];exact g2) e
    ro:=fun b m h1 h2 T=>by
     rcases back b m h1 h2 with k|⟨k,k'⟩
     ·exact holdrel.ro b m k h2 T
     ·obtain⟨V,_⟩:=hx.roOld Z3 h1 (by rw[←a];exact k') T
      rw[k]at V;cases V
    room:=I.rel.room
    top:=I.rel.top}
   exact hK M β' v' w' (C.advance I X D (by rw[←hA,e1]) (aO M) E I.leN (fun p e hp hw F=>.inl (I.wholes p e hp hw F)) hv G hx.le (fun b m h1 h2=>by rw[a];exact hx.dom b m h1 h2) hx.size (fun r t _=>g r t) (fun b m h1 h2=>.inl (q b m h1 h2)) hx.os hx.output hx.tape)
  ·exact hK (j+1) β' v' w' (C.advance I X D (by rw[←hA,e1]) O O O (C.wholesTo I X E) hv f hx.le (fun b m h1 h2=>by rw[a];exact hx.dom b m h1 h2) hx.size (fun r t _=>g r t) (fun b m h1 h2=>.inl (q b m h1 h2)) hx.os hx.output hx.tape)
 ·cases t
theorem Ctx.loadKept(hjN:j≤N)(m:wV o=true){b:Nat}(hb:xR (A j) o=some b)(D:b<(S j).next)(hjm:j<M):(S M).get b=(S j).get b:=by
 have n:zcy o=true:=by
  unfold xR at hb
  split at hb
  ·rename_i t x c;simp[zcy,zeD,c]
  ·rename_i t x lo hi c;simp[zcy,X1,c]
  ·rename_i c;simp[wV,jE,X1,c]at m
  ·rename_i c;simp[wV,jE,X1,c]at m
  ·cases hb
 -- its address is the same at every later turn
 have same:∀q,j≤q→q≤N→xR (A q) o=some b:=fun q G z=>by
  unfold xR at hb ⊢
  split at hb
  ·rename_i t x c
   have:(A q).eval x=(A j).eval x:=by
    cases x with
    |tmp u=>
     refine C.chain.keepsSlot C.small u j q G z fun r e B h1 h2 he p hd=>?_
     rcases C.plan.reads i o X.ho u (by rw[c];simp[Op.operands]) e.ix B p hd with h|⟨h,_⟩
     ·have:=C.ahead he X.hj (by rw[X.hi];exact h);omega
     ·rw[n]at h;cases h
    |const v=>rfl
    |global g=>rfl
    |func f=>rfl
   rw[this];exact hb
  ·rename_i t x lo hi c
   have:(A q).eval x=(A j).eval x:=by
    cases x with
    |tmp u=>
     refine C.chain.keepsSlot C.small u j q G z fun r e B h1 h2 he p hd=>?_
     rcases C.plan.reads i o X.ho u (by rw[c];simp[Op.operands]) e.ix B p hd with h|⟨h,_⟩
     ·have:=C.ahead he X.hj (by rw[X.hi];exact h);omega
     ·rw[n]at h;cases h
    |const v=>rfl
    |global g=>rfl
    |func f=>rfl
   rw[this];exact hb
  ·rename_i c;simp[wV,jE,X1,c]at m
  ·rename_i c;simp[wV,jE,X1,c]at m
  ·cases hb
 -- and no operation on the way writes there
 have y:∀(f:List Nat) (a:Fr),i∈f→xR a o=some b→b∈y9 ops.toList a f:=by
  intro f a
  induction f with
  |nil=>intro h;cases h
  |cons k f F=>
   intro E s
   unfold y9
   rcases aL.1 E with rfl|E
   ·have:zF ops.toList i=some o:=by rw[zJ];simpa using X.ho
    rw[this]
    simp only[s,aL,true_or]
   ·have:=F E s
    split
    ·split
     ·exact aN _ this
     ·exact this
    ·exact this
 have:∀q,j≤q→q≤M→(S q).get b=(S j).get b:=by
  intro q
  induction q with
  |zero=>intro h _;have:j=0:=O;subst this;rfl
  |succ q F=>
   intro h1 h2
   by_cases he:j=q+1
   ·rw[he]
   ·have hMN:=I.leN
    obtain⟨e,B,g1,g2,H⟩:=C.chain.step q O
    rw[Qb C.hk (C.wf O) H (bJ D (C.kp (by omega:j≤q) O).next) (fun J=>by
     obtain⟨_,_,K⟩:=C.gap2 I X q e O O g1 J
     exact y e.free (A q) (K (.inl n)) (same q O O))]
    exact F O O
 exact this M O (aO M)
theorem Ctx.lightOp(D:j<N)(u:yS P call ops.toList d o (A j) (S j)=.normal (A (j+1)) (S (j+1)))(B:qc ops.toList (A j) o=true)(Y:d.how=.light)
 (K:Act→World→Prop) (Q:Exit→Act→World→Prop)
 (W:∀Z β' v' w',Inv P ops l anc N A S β₀ w₀ D₀ (fun k=>L k∨k=i) Z β' (a'.put o.dst v') w'→K (a'.put o.dst v') w'):o.wpIn (FW ro) 0 P a' w K Q:=by
 unfold yS at u
 rw[B,Y]at u
 simp only at u
 let sm:St:={next:=(S j).next,bar:=(S j).next,prot:=[],heap:=only (S j) (xR (A j) o)}
 have z:∀b,sm.get b=if xR (A j) o=some b then(S j).get b else none:=fun b=>by
  show Tr.get (only (S j) (xR (A j) o)) b=_
  unfold only
  cases hb:xR (A j) o with
  |none=>simp[Tr.get]
  |some b₀=>
   simp only
   rcases cM b₀ 281474976710655 with f|hge
   ·rw[Tr.get_put depth _ _ _ _ (by have:(2:Nat) ^ depth=281474976710656:=U;omega)]
    by_cases he:b=b₀
    ·subst he;simp
    ·have:¬(some b₀=some b):=fun h=>he (by cases h;rfl)
     rw[aD he,aD this];rfl
   ·-- so great a number is none
    have x:(S j).get b₀=none:=(C.wf (by omega:j≤N)).top b₀ (by have:=(C.wf (by omega:j≤N)).room;omega)
    have all:∀(d n:Nat) (t:Tr MObj) (m:Nat),(∀k,t.get k=none)→(Tr.put d t n none).get m=none:=by
     intro d
     induction d with
     |zero=>intro n t m G;exact G m
     |succ d T=>
      intro n t m G
      cases t with
      |nil=>
       cases n with
       |zero=>cases m<;>simp only[Tr.put,Tr.get];split<;>rfl
       |succ k=>
        simp only[Tr.put]
        split<;>(cases m<;>simp only[Tr.get];split<;>first|rfl|exact T _ _ _ (fun _=>rfl))
      |node v a b=>
       have hv:v=none:=G 0
       have ha:∀k,a.get k=none:=fun k=>by
        have:=G (2*k+1)
        simp only[Tr.get]at this
        rw[show 2*k % 2=0 by omega,show 2*k / 2=k by omega]at this
        exact this
       have hb:∀k,b.get k=none:=fun k=>by
        have:=G (2*k+2)
        simp only[Tr.get]at this
        rw[show(2*k+1) % 2=1 by omega,show(2*k+1) / 2=k by omega]at this
        exact this
       cases n with
       |zero=>cases m<;>simp only[Tr.put,Tr.get];split<;>first|exact ha _|exact hb _
       |succ k=>
        simp only[Tr.put]
        split<;>(cases m<;>simp only[Tr.get];exact hv;(split<;>first|exact ha _|exact hb _|exact T _ _ _ ha|exact T _ _ _ hb))
    rw[x,all depth b₀ .nil b (fun _=>rfl)]
    split
    ·rename_i he;cases he;exact x.symm
    ·rfl
 have H:WF sm:=⟨(C.wf (by omega:j≤N)).room,fun b hb=>by
  rw[z]
  split
  ·exact(C.wf (by omega:j≤N)).top b hb
  ·rfl⟩
 have F:Rel P β sm w:=by
  refine I.rel.at_state H (fun b m hb f=>C.known I hb (by omega:j≤N) f) (fun b m oo hb f hg=>?_) fun b m hb f u=>f
  rw[z]at hg
  split at hg
  ·rename_i R
   rcases cM j M with q|q
   ·rw[C.loadKept I X O (C.plan.light j d o X.hj (by rw[X.hi];exact X.ho) (by rw[Y];rfl)) R f q];exact hg
   ·rw[←C.stays j q O (fun r e h1 h2 he=>C.gap I X r e h1 h2 he) b (C.known I hb (by omega:j≤N) f)]
    exact hg
  ·cases hg
 split at u
 ·rename_i a₁ s₁ y
  split at u
  ·rename_i hn
   have hn:s₁.next=(S j).next:=aJ hn
   simp only[Out.normal.injEq]at u
   obtain⟨V,hS⟩:=u
   refine wA C.hc F (C.operands I X.hj X.hi O X.ho X.hn X.hanc) (by rw[y];simp) (by
    rw[y]
    intro b h1 h2
    have h1:(S j).next≤b:=h1
    omega) K Q (fun v v' s' β' w' he hx hv=>?_) (fun c c' s' β' w' he=>by rw[y]at he;cases he) ro
   obtain⟨e1,e2⟩:=YL y he
   subst e2
   have g:∀r,r<w.heap.size→w'.heap[r]? = w.heap[r]? :=fun r u=>hx.out r u fun b m oo hb f E=>by
    have:=KW (s:=sm) f []
    have e:({sm with bar:=sm.next,prot:=[]}:St)=sm:=rfl
    rw[e,E]at this;cases this
   have x:∀b m,β' b=some m→β b=none→False:=fun b m h1 h2=>by
    have h:=hx.dom b m h1 h2
    have h1:(S j).next≤b:=h.1
    have h2:=h.2
    omega
   have hle':β'.le β:=fun b m hb=>by
    cases h1:β b with
    |some m₁=>have:=hx.le b m₁ h1;rw[hb]at this;cases this;rfl
    |none=>exact(x b m hb h1).elim
   have J:β'=β:=by
    funext b
    cases h1:β b with
    |some m=>exact hx.le b m h1
    |none=>cases h2:β' b with
     |none=>rfl
     |some m=>exact(x b m h2 h1).elim
   subst J
   rcases cM j M with q|q
   ·exact W M β' v' w' (C.advance I X D (by rw[←V,e1]) (aO M) q I.leN (fun p e hp hw f=>.inl (I.wholes p e hp hw f)) hv (I.rel.grow hx.size g) hx.le V5 hx.size (fun r u _=>g r u) V5 hx.os hx.output hx.tape)
   ·exact W (j+1) β' v' w' (C.advance I X D (by rw[←V,e1]) O O O (C.wholesTo I X q) hv (by rw[←hS];exact(C.relAt I X O (.inl q)).grow hx.size g) hx.le V5 hx.size (fun r u _=>g r u) V5 hx.os hx.output hx.tape)
  ·cases u
 ·cases u
omit C I X in
theorem Rel.newDead{s:St}(h:Rel P β s w)(c:s.room=true)(hn:β s.next=none)(o:MObj):Rel P β (s.new o) w:=by
 have n:=wh c
 have f:=fun b'=>St.get_new (s:=s) O o b'
 have ne:∀b m,β b=some m→b≠s.next:=fun b m hb e=>by rw[e,hn]at hb;cases hb
 exact{
  img:=fun b m hb a=>h.img b m hb (by have:=ne b m hb;simp at a;omega)
  obj:=fun b m t hb a hg=>by
   rw[f,aD (ne b m hb)]at hg
   exact h.obj b m t hb (by have:=ne b m hb;simp at a;omega) hg
  inj:=fun g k m1 m2 q r h1 h2 p l2 g1 g2 e=>by
   rw[f,aD (ne g m1 h1)]at g1
   rw[f,aD (ne k m2 h2)]at g2
   exact h.inj g k m1 m2 q r h1 h2 (by have:=ne g m1 h1;simp at p;omega) (by have:=ne k m2 h2;simp at l2;omega) g1 g2 e
  ro:=fun b m hb a n=>h.ro b m hb (by have:=ne b m hb;simp at a;omega) n
  room:=by simp;omega
  top:=fun b hb=>by simp at hb;rw[f,aD O];exact h.top b O}
theorem Ctx.newKept(hjN:j<N)(G:d.how=.new){b:Nat}(c:xR (A (j+1)) o=some b)(D:b<(S (j+1)).next)(hjm:j<M):(S M).get b=(S (j+1)).get b:=by
 have s:(ui o||zeE o)=true:=C.plan.alloc j d o X.hj (by rw[X.hi];exact X.ho) (by rw[G];rfl)
 have same:∀q,j+1≤q→q≤N→xR (A q) o=some b:=fun q H z=>by
  unfold xR at c ⊢
  split at c
  ·rename_i t x p;simp[ui,zeE,p]at s
  ·rename_i t x lo hi p;simp[ui,zeE,p]at s
  ·cases hd:o.dst with
   |none=>rw[hd]at c;cases c
   |some u=>
    rw[hd]at c
    have:(A q).get u=(A (j+1)).get u:=C.chain.keepsSlot C.small u (j+1) q H z fun r e B h1 h2 he n g=>by
     have m:=C.plan.dst i e.ix o B u X.ho n hd g
     have:=C.pos X.hj he (by rw[X.hi];exact m)
     omega
    simp only[this]
    exact c
  ·cases hd:o.dst with
   |none=>rw[hd]at c;cases c
   |some u=>
    rw[hd]at c
    have:(A q).get u=(A (j+1)).get u:=C.chain.keepsSlot C.small u (j+1) q H z fun r e B h1 h2 he n g=>by
     have m:=C.plan.dst i e.ix o B u X.ho n hd g
     have:=C.pos X.hj he (by rw[X.hi];exact m)
     omega
    simp only[this]
    exact c
  ·cases c
 have y:∀(f:List Nat) (a:Fr),i∈f→xR a o=some b→b∈y9 ops.toList a f:=by
  intro f a
  induction f with
  |nil=>intro h;cases h
  |cons k f F=>
   intro E v
   unfold y9
   rcases aL.1 E with rfl|E
   ·have:zF ops.toList i=some o:=by rw[zJ];simpa using X.ho
    rw[this]
    simp only[v,aL,true_or]
   ·have:=F E v
    split
    ·split
     ·exact aN _ this
     ·exact this
    ·exact this
 have:∀q,j+1≤q→q≤M→(S q).get b=(S (j+1)).get b:=by
  intro q
  induction q with
  |zero=>intro h _;omega
  |succ q F=>
   intro h1 h2
   by_cases he:j=q
   ·rw[he]
   ·have hMN:=I.leN
    obtain⟨e,B,g1,g2,J⟩:=C.chain.step q O
    rw[Qb C.hk (C.wf O) J (bJ D (C.kp (by omega:j+1≤q) O).next) (fun K=>by
     obtain⟨_,_,Q⟩:=C.gap2 I X q e O O g1 K
     exact y e.free (A q) (Q (.inr (by rw[G];rfl))) (same q O O))]
    exact F O O
 exact this M O (aO M)
theorem Ctx.newOp(u:j<N)(B:yS P call ops.toList d o (A j) (S j)=.normal (A (j+1)) (S (j+1)))(D:qc ops.toList (A j) o=true)(hh:d.how=.new)
 (K:Act→World→Prop) (Q:Exit→Act→World→Prop)
 (hK:∀M' β' v' w',Inv P ops l anc N A S β₀ w₀ D₀ (fun k=>L k∨k=i) M' β' (a'.put o.dst v') w'→K (a'.put o.dst v') w'):o.wpIn (FW ro) 0 P a' w K Q:=by
 obtain⟨s₁,ob,x,hn,t,hbo,hob,hS⟩:=zeZ B D hh
 have n:=C.freeAt I X u
 have hSn:(S (j+1)).next=(S j).next+1:=by rw[hS];rfl
 let sm:St:={next:=(S j).next,bar:=(S j).next,prot:=[],heap:=.nil}
 have W:WF sm:=⟨(C.wf (by omega:j≤N)).room,fun b _=>rfl⟩
 have U:Rel P β sm w:=I.rel.at_state W (fun b m hb a=>C.known I hb (by omega:j≤N) a) (fun b m oo hb a hg=>by
  have:sm.get b=none:=rfl
  rw[this]at hg
  cases hg) fun b m hb a B=>a
 refine wA C.hc U (C.operands I X.hj X.hi O X.ho X.hn X.hanc) (by rw[x];simp) (by
  rw[x]
  intro b h1 h2
  exact n b h1 (by rw[hSn];rw[hn]at h2;exact h2)) K Q (fun v v' s' β' w' he hx hv=>?_) (fun c c' s' β' w' he=>by rw[x]at he;cases he) ro
 obtain⟨e1,e2⟩:=YL x he
 subst e2
 have f:∀r,r<w.heap.size→w'.heap[r]? = w.heap[r]? :=fun r B=>hx.out r B fun b m oo hb a R=>by
  have:=KW (s:=sm) a []
  have e:({sm with bar:=sm.next,prot:=[]}:St)=sm:=rfl
  rw[e,R]at this;cases this
 have g:∀b m,β' b=some m→β b=none→w.heap.size≤m.blk:=fun b m h1 h2=>by
  rcases hx.fresh b m h1 h2 with h|⟨b₁,m₁,o₁,g1,g2,g3,_⟩
  ·exact h
  ·have:=KW (s:=sm) g2 []
   have e:({sm with bar:=sm.next,prot:=[]}:St)=sm:=rfl
   rw[e,g3]at this;cases this
 have z:∀b m,β' b=some m→β b=none→b=(S j).next:=fun b m h1 h2=>by
  have G:=hx.dom b m h1 h2
  have h4:(S j).next≤b:=G.1
  have h5:=G.2
  omega
 have key:∀T:St,Rel P β T w→T.get (S j).next=some ob→Rel P β' T w':=fun T H hg0=>by
  have holdrel:=H.grow hx.size f
  have back:∀b m,β' b=some m→β b=some m∨(β b=none∧b=(S j).next):=fun b m h1=>by
   cases hb:β b with
   |some m₁=>have:=hx.le b m₁ hb;rw[h1]at this;cases this;exact .inl rfl
   |none=>exact .inr ⟨rfl,z b m h1 hb⟩
  exact{
   img:=fun b m h1 h2=>by
    rcases back b m h1 with h|⟨_,h⟩
    ·exact holdrel.img b m h h2
    ·exact hx.rel.img b m h1 O
   obj:=fun b m oo h1 h2 hg=>by
    rcases back b m h1 with h|⟨_,h⟩
    ·obtain⟨o',q1,q2⟩:=holdrel.obj b m oo h h2 hg
     exact⟨o',q1,q2.mono hx.le⟩
    ·subst h
     rw[hg0]at hg
     cases hg
     exact hx.rel.obj _ m ob h1 O hob
   inj:=fun Y F m1 m2 o1 o2 h1 h2 l1 l2 g1 g2 e=>by
    rcases back Y m1 h1 with Z|⟨Z,k1'⟩
    ·rcases back F m2 h2 with E|⟨E,k2'⟩
     ·exact holdrel.inj Y F m1 m2 o1 o2 Z E l1 l2 g1 g2 e
     ·have:=H.img Y m1 Z l1
      have:=g F m2 h2 E
      omega
    ·rcases back F m2 h2 with E|⟨E,k2'⟩
     ·have:=H.img F m2 E l2
      have:=g Y m1 h1 Z
      omega
     ·exact .inl O
   ro:=fun b m h1 h2 G=>by
    rcases back b m h1 with k|⟨k,k'⟩
    ·exact holdrel.ro b m k h2 G
    ·obtain⟨q1,_⟩:=hx.roOld Z3 h1 O G
     rw[k]at q1;cases q1
   room:=H.room
   top:=H.top}
 have J:(S (j+1)).get (S j).next=some ob:=by
  have:=wh t
  rw[hS,St.get_new O,aF rfl]
 have y:∀b m,β' b=some m→β b=none→(S j).next≤b∧b<(S (j+1)).next:=fun b m h1 h2=>by
  have:=z b m h1 h2
  omega
 rcases cM j M with q|q
 ·have hst:=C.newKept I X u hh hbo O q
  exact hK M β' v' w' (C.advance I X u e1 (aO M) q I.leN (fun p e hp hw a=>.inl (I.wholes p e hp hw a)) hv (key (S M) I.rel (by rw[hst];exact J)) hx.le y hx.size (fun r B _=>f r B) (fun b m h1 h2=>.inl (g b m h1 h2)) hx.os hx.output hx.tape)
 ·have hrj:=C.relAt I X (by omega:j≤N) (.inl q)
  have V:Rel P β (S (j+1)) w:=by
   rw[hS]
   exact Rel.newDead hrj t (n _ Z3 O) ob
  exact hK (j+1) β' v' w' (C.advance I X u e1 O O O (C.wholesTo I X q) hv (key _ V J) hx.le y hx.size (fun r B _=>f r B) (fun b m h1 h2=>.inl (g b m h1 h2)) hx.os hx.output hx.tape)
end
theorem Ext.relax{P:Program}{β β':Ren}{s s₀ s₁:St}{w w':World}(p:s₀.heap=s.heap)(hn:s₀.next=s.next)(e:∀b,s₀.may b=true→s.may b=true)(hb:s₀.bar=s.bar)(h:Ext P β s₀ w β' s₁ w') :
 Ext P β s w β' {next:=s₁.next,bar:=s.bar,prot:=s.prot,heap:=s₁.heap} w':=by
 have hg:∀b,s₀.get b=s.get b:=fun b=>by simp only[St.get,p]
 exact{
  rel:=h.rel.of_same rfl rfl fun b m h1 h2 n=>by
   have:=h.rel.ro b m h1 h2 n
   rw[h.bar,hb]at this
   exact this
  le:=h.le
  dom:=fun b m h1 h2=>by have:=h.dom b m h1 h2;rw[hn]at this;exact this
  next:=by have:=h.next;simp only;omega
  bar:=rfl
  prot:=rfl
  size:=h.size
  out:=fun r q f=>h.out r q fun b m o hb hlt a d=>f b m o hb O (e b a) (by rw[←hg];exact d)
  same:=fun b hb c=>by
   have hf:s₀.may b=false:=by
    cases hx:s₀.may b with
    |false=>rfl
    |true=>rw[e b hx]at c;cases c
   have:=h.same b O hf
   rw[hg]at this
   exact this
  dead:=fun b hb hd=>h.dead b O (by rw[hg];exact hd)
  fresh:=fun b m h1 h2=>by
   rcases h.fresh b m h1 h2 with g|⟨b₁,m₁,o₁,g1,g2,i,j,k⟩
   ·exact .inl g
   ·exact .inr ⟨b₁,m₁,o₁,g1,by omega,e _ i,by rw[←hg];exact j,k⟩
  os:=h.os
  output:=h.output
  tape:=h.tape}
section
variable{P:Program}{lo:Nat}{call:FuncId→Array Value→St→CallOut}{ops:Array Oper}{l:List Drawn}{anc:Nat→Nat}{N:Nat}{A:Nat→Fr}{S:Nat→St}{β₀:Ren}{w₀:World}{D₀:List Deferred}{ro:Option Nat}{a₀:Act}
theorem Ctx.ext(C:Ctx P call ops l anc N A S β₀ w₀ a₀){L:Nat→Prop}{M:Nat}{β:Ren}{a':Act}{w:World}(I:Inv P ops l anc N A S β₀ w₀ D₀ L M β a' w){q:Nat}(hMq:M≤q)(c:q≤N)(a:Rel P β (S q) w) :
 Ext P β₀ (S 0) w₀ β (S q) w:=by
 have hk:=C.kp (cJ q) c
 exact{
  rel:=a
  le:=I.le
  dom:=fun b m h1 h2=>by
   rcases I.dom b m h1 with h|⟨p,d,g1,g2,e,f⟩
   ·rw[h2]at h;cases h
   ·have:=I.before p d g1 g2
    exact⟨bH (C.kp (cJ p) O).next e,bJ f (C.kp (by omega:p+1≤q) c).next⟩
  next:=hk.next
  bar:=hk.bar
  prot:=hk.prot
  size:=I.size
  out:=I.out
  same:=hk.same
  dead:=hk.dead
  fresh:=I.fresh
  os:=I.os
  output:=I.output
  tape:=I.tape}
theorem Ctx.finish(C:Ctx P call ops l anc N A S β₀ w₀ a₀)(u:N=l.length){L:Nat→Prop}{M:Nat}{β:Ren}{a':Act}{w:World}(I:Inv P ops l anc N A S β₀ w₀ D₀ L M β a' w)(a:∀i,i<ops.size→L i)(k:Marks lo β₀ (S 0) w₀ D₀) :
 OutP P lo β₀ (S 0) w₀ (.normal (A N) (S N)) .normal a' w:=by
 have hsz:∀i (o:Oper),ops[i]? = some o→i<ops.size:=fun i o ho=>by
  rcases cM i ops.size with h|h
  ·exact h
  ·rw[cX h]at ho;cases ho
 have s:M=N:=by
  have h1:=I.leN
  rcases cM M N with j|hge
  ·obtain⟨d,hd⟩:∃d,l[M]? = some d:=⟨l[M],by simp[u▸j]⟩
   obtain⟨o,ho⟩:=C.plan.op M d hd
   have:=I.before M d hd (a _ (hsz _ o ho))
   omega
  ·omega
 subst s
 refine⟨rfl,β,C.ext I (aO M) (aO M) I.rel,?_,by rw[I.defers];exact k.ext (C.ext I (aO M) (aO M) I.rel) C.free⟩
 refine⟨by rw[I.tsize,C.chain.size M (aO M)],by rw[C.chain.size M (aO M)];exact C.small,fun t=>?_⟩
 by_cases n:t<(A 0).size
 ·by_cases c:∃(p:Nat) (d:Drawn) (o:Oper),l[p]? = some d∧ops[d.ix]? = some o∧o.dst=some t
  ·obtain⟨p,d,o,hp,ho,hd⟩:=c
   have hl:=a _ (hsz _ o ho)
   have hv:=I.filled p d o t hp ho hl hd n
   have hpM:=I.before p d hp hl
   have:(A M).get t=(A (p+1)).get t:=C.chain.keepsSlot C.small t (p+1) M O (aO M) fun r e m h1 h2 he f b=>by
    have g:=C.plan.dst e.ix d.ix m o t f ho b hd
    have:=C.pos he hp g
    omega
   rw[this];exact hv
  ·have:(A M).get t=(A 0).get t:=C.chain.keepsSlot C.small t 0 M (cJ _) (aO M) fun r e m h1 h2 he f b=>c ⟨r,e,m,he,f,b⟩
   rw[this]
   exact I.old t n fun p d o hp ho _ hd=>c ⟨p,d,o,hp,ho,hd⟩
 ·have h1:∀q,q≤M→(A q).get t=(A 0).get t:=by
   intro q
   induction q with
   |zero=>intro _;rfl
   |succ q y=>
    intro hq
    obtain⟨d,o,_,_,x⟩:=C.chain.step q O
    obtain⟨v,hv⟩:=wk x
    rw[hv,put_ge (by rw[C.chain.size q O];exact C.small) (by rw[C.chain.size q O];omega)]
    exact y O
  rw[h1 M (aO M)]
  have h2:a'.tmps.getD t undef=a₀.tmps.getD t undef:=by
   rw[bB,bB,cX (by rw[I.tsize];omega),cX (by rw[C.fr.size];omega)]
  rw[h2]
  exact(C.fr.get t).mono I.le
def Ends(P:Program)(call:FuncId→Array Value→St→CallOut)(ops:Array Oper)(l:List Drawn)(N:Nat)(A:Nat→Fr)(S:Nat→St)(r:Out):Prop:=
 (N=l.length∧r=.normal (A N) (S N)) ∨
 ∃d o c a₁ s₁,l[N]? = some d∧ops[d.ix]? = some o∧yS P call ops.toList d o (A N) (S N)=.panic c a₁ s₁∧r=.panic c a₁ s₁
theorem Ctx.sched(C:Ctx P call ops l anc N A S β₀ w₀ a₀){r:Out}(y:Ends P call ops l N A S r)(f:r.free β₀ (S 0))(Q:Exit→Act→World→Prop)(hQ:∀e a₂ w₂,OutP P lo β₀ (S 0) w₀ r e a₂ w₂→Q e a₂ w₂)(F:Marks lo β₀ (S 0) w₀ D₀)(ro:Option Nat) :
 ∀(σ:List Nat) (L:Nat→Prop),Sched ops L σ→∀(M:Nat) (β:Ren) (a':Act) (w:World),Inv P ops l anc N A S β₀ w₀ D₀ L M β a' w→wpOpsIn (FW ro) 0 P ops Q σ a' w:=by
 intro σ
 induction σ with
 |nil=>
  intro L hs M β a' w I
  cases hs with
  |nil x=>
   rcases y with⟨hN,t⟩|⟨d,o,c,a₁,s₁,hd,ho,_,_⟩
   ·subst t
    exact hQ _ _ _ (C.finish hN I x F)
   ·exfalso
    have hl:=x d.ix (by
     rcases cM d.ix ops.size with h|h
     ·exact h
     ·rw[cX h]at ho;cases ho)
    have:=I.before N d hd hl
    have:=I.leN
    omega
 |cons i rest ih=>
  intro L hs M β a' w I
  cases hs with
  |cons hi hn he hs=>
   obtain⟨j,d,hj,g⟩:=C.plan.surj i hi
   obtain⟨o,ho⟩:=C.plan.op j d hj
   rw[g]at ho
   have X:Next1 ops l anc L i j d o:=⟨hj,g,ho,hn,fun k hk=>C.done I ho (he o ho) hk⟩
   unfold wpOpsIn
   rw[ho]
   simp only
   rcases cM j N with m|m
   ·obtain⟨d',o',g1,g2,t⟩:=C.chain.step j m
    rw[hj]at g1;cases g1
    rw[g,ho]at g2;cases g2
    rw[←C.wants I hj g O ho hn X.hanc]
    cases u:qc ops.toList (A j) o with
    |false=>
     obtain⟨D,K⟩:=C.pass I X m t u
     simp only[aX,cK]
     exact⟨fun _ _=>trivial,ih _ hs D β _ w K⟩
    |true=>
     simp only[dP]
     have J:∀D β' v' w',Inv P ops l anc N A S β₀ w₀ D₀ (fun k=>L k∨k=i) D β' (a'.put o.dst v') w'→wpOpsIn (FW ro) 0 P ops Q rest (a'.put o.dst v') w':=fun D β' v' w' K=>ih _ hs D β' _ w' K
     cases h:d.how with
     |light=>exact C.lightOp I X m t u h _ Q J
     |whole=>exact C.whole I X m t u h _ Q J
     |fresh=>exact C.freshOp I X m t u h _ Q J
     |new=>exact C.newOp I X m t u h _ Q J
   ·-- it panics
    rcases y with⟨hN,_⟩|⟨B,oN,c,a₁,s₁,hdN,G,a,t⟩
    ·exfalso
     have:j<l.length:=by
      rcases cM j l.length with h|h
      ·exact h
      ·rw[cV h]at hj;cases hj
     omega
    ·-- the operation that panics is a whole one
     have z:qc ops.toList (A N) oN=true∧B.how=.whole∧∃s',opM P call oN (A N) {S N with prot:=y9 ops.toList (A N) B.free++(S N).prot}=.panic c a₁ s'∧s₁={next:=s'.next,bar:=(S N).bar,prot:=(S N).prot,heap:=s'.heap}:=by
      unfold yS at a
      split at a
      ·rename_i u
       split at a
       ·(repeat' split at a)<;>cases a
       ·rename_i h
        split at a
        ·cases a
        ·rename_i c' a'' s' p
         cases a
         exact⟨u,h,s',p,rfl⟩
        ·cases a
       ·(repeat' split at a)<;>cases a
       ·(repeat' split at a)<;>cases a
      ·cases a
     obtain⟨u,h,s',p,hs₁⟩:=z
     have E:j=N:=by
      rcases cM N j with W|hge
      ·exfalso
       have Y:¬L B.ix:=fun hl=>by
        have:=I.before N B hdN hl
        have:=I.leN
        omega
       have hp:=C.plan.pair N j B d W hdN hj
       cases hb:(anc d.ix).testBit B.ix with
       |true=>rw[g]at hb;exact Y (X.hanc _ hb)
       |false=>
        have:=(hp.2.2 hb).1
        rw[h]at this;cases this
      ·omega
     subst E
     rw[hj]at hdN;cases hdN
     rw[g,ho]at G;cases G
     rw[←C.wants I hj g (aO j) ho hn X.hanc,u]
     simp only[dP]
     subst t hs₁
     have n:=C.relAt I X (aO j) (.inl I.leN)
     have q:=C.ext I I.leN (aO j) n
     have V:Free β (S j) s':=q.freeOf f
     refine wA C.hc (n.of_same (T:={S j with prot:=y9 ops.toList (A j) d.free++(S j).prot}) rfl rfl n.ro) (C.operands I hj g (aO j) ho hn X.hanc) (by rw[p];simp) (by rw[p];exact V) _ Q (fun v v' Z β' w' he=>by rw[p]at he;cases he) (fun ch R Z β' w' he hx U=>?_) ro
     rw[p]at he
     simp only[Out.panic.injEq]at he
     obtain⟨rfl,_,rfl⟩:=he
     have H:=Ext.relax (s:=S j) (s₀:={S j with prot:=y9 ops.toList (A j) d.free++(S j).prot}) rfl rfl (fun b hb=>by
      unfold St.may at hb ⊢
      simp only[aG,bC,List.any_append,Bool.or_eq_false_iff]at hb ⊢
      exact⟨hb.1,hb.2.2⟩) rfl hx
     exact hQ _ _ _ ⟨R,β',rfl,q.trans H f,U,by rw[I.defers];exact F.ext (q.trans H f) f⟩
end
theorem zeX{P:Program}{lo:Nat}{call:FuncId→Array Value→St→CallOut}(y:P.follows .mixedOrders=true)(hc:Jx P call)(hk:∀f args s,WF s→(call f args s).keeps s){id:Nat}{ops:Array Oper}{l:List Drawn}
 (v:Zt ops.toList l=true) (p:ops.toList.all (fun o=>o.op.operands.toList.all kZ)=true) {a:Fr} {a':Act} {s:St} {β:Ren} {w:World} (h:Rel P β s w) (hf:FRel P β a a') (L:Marks lo β s w a'.defers) (ro:Option Nat)
 (E:v6 P call ops.toList l a s≠.stuck) (g:(v6 P call ops.toList l a s).free β s):(Code.region id ops true).wpIn (FW ro) 0 P (OutP P lo β s w (v6 P call ops.toList l a s)) a' w:=by
 obtain⟨anc,hp⟩:=plan_ok v
 obtain⟨N,A,S,J,K,x,n⟩:=zde l a s E
 subst J K
 refine wpIn_region_draw fun t=>?_
 have B:Region.schedule (P.follows .mixedOrders) ops t=Region.linearise .any ops t:=by
  unfold Region.schedule
  rw[y]
  simp
 rw[B]
 have F:WF (S 0):=⟨h.room,h.top⟩
 have D:=x.kp hk F N (aO N)
 have j:Free β (S 0) (S N):=by
  rcases n with⟨_,k⟩|⟨d,o,c,a₁,s₁,_,_,z,k⟩
  ·rw[k]at g;exact g
  ·rw[k]at g
   have:=wj (P:=P) hk D.wf ops.toList d o (A N)
   rw[z]at this
   have this:Kp (S N) s₁:=this
   exact Free.sub g this.next
 have C:Ctx P call ops l anc N A S β (drewW w) a':={
  hc:=hc
  hk:=hk
  plan:=hp
  chain:=x
  small:=hf.small
  rel:=h.drewW
  fr:=hf
  free:=j
  opsB:=fun i o ho=>by
   rw[List.all_eq_true]at p
   exact p o (by rw[Array.mem_toList_iff];exact Array.mem_of_getElem? ho)}
 have I:Inv P ops l anc N A S β (drewW w) a'.defers (fun _=>False) 0 β a' (drewW w):={
  closed:=fun _ _ _ hl=>hl.elim
  before:=fun _ _ _ hl=>hl.elim
  wholes:=fun _ _ _ _ hlt=>by omega
  leN:=cJ _
  rel:=h.drewW
  le:=Ren.le_refl β
  dom:=fun b m hb=>.inl hb
  tsize:=hf.size
  defers:=rfl
  filled:=fun _ _ _ _ _ _ hl=>hl.elim
  old:=fun t _ _=>hf.get t
  size:=aO _
  out:=fun _ _ _=>rfl
  fresh:=fun b m h1 h2=>by rw[h2]at h1;cases h1
  os:=rfl
  output:=rfl
  tape:=rfl}
 refine C.sched (r:=v6 P call ops.toList l (A 0) (S 0)) ?_ g _ (fun e a₂ w₂ ho=>?_) (D₀:=a'.defers) (Marks.same (w:=w) (w':=drewW w) rfl L) ro _ _ (Qt ops (fun i o ho e he hb=>(hp.edges i o ho e he hb).1) t) 0 β a' (drewW w) I
 ·rcases n with⟨h1,h2⟩|⟨d,o,c,a₁,s₁,g1,g2,G,H⟩
  ·exact .inl ⟨h1,h2⟩
  ·exact .inr ⟨d,o,c,a₁,s₁,g1,g2,G,H⟩
 ·have back:∀β' s',Ext P β (S 0) (drewW w) β' s' w₂→Ext P β (S 0) w β' s' w₂:=fun β' s' hx=>⟨hx.rel,hx.le,hx.dom,hx.next,hx.bar,hx.prot,hx.size,hx.out,hx.same,hx.dead,hx.fresh,hx.os,hx.output,hx.tape⟩
  cases k:v6 P call ops.toList l (A 0) (S 0)with
  |normal a₁ s₁=>rw[k]at ho;obtain⟨h1,β',h2,q,u⟩:=ho;exact⟨h1,β',back _ _ h2,q,u⟩
  |exit i a₁ s₁=>rw[k]at ho;obtain⟨h1,β',h2,q,u⟩:=ho;exact⟨h1,β',back _ _ h2,q,u⟩
  |ret a₁ s₁=>rw[k]at ho;obtain⟨h1,β',h2,q,u⟩:=ho;exact⟨h1,β',back _ _ h2,q,u⟩
  |panic c a₁ s₁=>rw[k]at ho;obtain⟨c',β',h1,h2,q,u⟩:=ho;exact⟨c',β',h1,back _ _ h2,q,u⟩
  |stuck=>rw[k]at ho;exact ho
end Go.M
