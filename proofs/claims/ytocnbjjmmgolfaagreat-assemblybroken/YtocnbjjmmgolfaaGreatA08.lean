/- A drawn region: one operation more. -/
import Derived.Test.YtocnbjjmmgolfaaGreatA07
set_option linter.unusedSimpArgs false
set_option linter.unusedVariables false
set_option linter.unusedSectionVars false
namespace Go.M
section
variable{P:Program}{call:FuncId->Array Value->St->aq}{ops:Array Oper}{l:List an}{anc:Nat->Nat}{N:Nat}{A:Nat->Fr}{S:Nat->St}{β₀:aS}{w₀:World}{D₀:List Deferred}{ro:Option Nat}{a₀:Act}
theorem rl{a:Fr}(hs:a.size<=65534){v:Value}{t:Nat}(h:t<a.size):(a.put (some t) v).get t=v:=by
 unfold Fr.put
 simp only
 have:Nat.blt t a.size=true:=by simpa[Nat.blt_eq]using h
 rw[this]
 unfold Fr.get
 simp only
 rw[Tr.get_put vR _ _ _ _ (by have:(2:Nat) ^ vR=65536:=U;omega),aG rfl]
theorem zbu{a':Act}{v':Value}{t:Nat}(h:t<a'.tmps.size):(a'.put (some t) v').tmps.getD t undef=v':=by
 unfold Act.put
 simp only
 rw[bD,Array.getElem?_setIfInBounds_self_of_lt h]
 rfl
theorem Zz{a':Act}{dst:Option Tmp}{v':Value}{t:Nat}(h:dst≠some t):(a'.put dst v').tmps.getD t undef=a'.tmps.getD t undef:=by
 unfold Act.put
 split
 .rename_i d
  rw[bD,bD,Array.getElem?_setIfInBounds_ne (λe=>h (by rw[e]))]
 .rfl
theorem zbt{a':Act}{dst:Option Tmp}{v':Value}:(a'.put dst v').tmps.size=a'.tmps.size:=by
 unfold Act.put
 split<;>simp
structure nj(ops:Array Oper)(l:List an)(anc:Nat->Nat)(L:Nat->Prop)(i j:Nat)(d:an)(o:Oper):Prop where
 hj:l[j]? = some d
 hi:d.ix=i
 ho:ops[i]? = some o
 hn:¬L i
 hanc:∀k,(anc i).testBit k=true->L k
variable(C:dU P call ops l anc N A S β₀ w₀ a₀){L:Nat->Prop}{M:Nat}{β:aS}{a':Act}{w:World}(I:eR P ops l anc N A S β₀ w₀ D₀ L M β a' w)
 {i j:Nat} {d:an} {o:Oper} (X:nj ops l anc L i j d o)
include C I X
theorem dU.gap(r:Nat)(e:an)(h1:M<=r)(h2:r<j)(he:l[r]? = some e):gi e.how=false:=by
 have a:¬L e.ix:=λhl=>by have:=I.before r e he hl;omega
 have hp:=C.plan.pair r j e d h2 he X.hj
 cases hb:(anc d.ix).testBit e.ix with
 |true=>rw[X.hi]at hb;exact(a (X.hanc _ hb)).elim
 |false=>exact(hp.2.2 hb).1
theorem dU.gap2(r:Nat)(e:an)(h1:j<=r)(h2:r<M)(he:l[r]? = some e)(hw:gi e.how=true):j<r/\(Ke d.how=true\/Wu d.how=true)/\(FX o=true\/Wu d.how=true->i∈e.free):=by
 have hl:=I.wholes r e he hw h2
 have hne:j≠r:=λheq=>by
  subst heq
  rw[X.hj]at he;cases he
  rw[X.hi]at hl;exact X.hn hl
 have a:j<r:=by omega
 have hp:=C.plan.pair j r d e a X.hj he
 obtain⟨oe,b⟩:=C.plan.op r e he
 have hsz:e.ix<ops.size:=by
  rcases cP e.ix ops.size with c|c
  .exact c
  .rw[cV c]at b;cases b
 cases hb:(anc e.ix).testBit d.ix with
 |true=>rw[X.hi]at hb;exact(X.hn (I.closed e.ix i hsz hl hb)).elim
 |false=>
  obtain⟨g1,g2⟩:=(hp.2.2 hb).2 hw
  exact⟨a,g1,λf=>by have:=g2 o (by rw[X.hi];exact X.ho) f;rw[X.hi]at this;exact this⟩
theorem dU.relAt(a:j<=N)(h:M<=j\/(Ke d.how=false/\Wu d.how=false)):bh P β (S j) w:=by
 refine I.rel.at_state (C.wf a) (λb m hb c=>C.known I hb a c) (λb m o' hb c hg=>?_) λb m hb c g=>by
  have:=I.rel.ro b m hb (C.known I hb a c) g
  have e1:=(C.kp (cH j) a).bar
  have e2:=(C.kp (cH M) I.leN).bar
  omega
 rcases cP j M with f|f
 .have hl:=h.resolve_left O
  rw[C.stays M O I.leN (λr e h1 h2 he=>by
   cases hw:gi e.how with
   |false=>rfl
   |true=>
    rcases(C.gap2 I X r e h1 h2 he hw).2.1 with this|this
    .rw[hl.1]at this;cases this
    .rw[hl.2]at this;cases this) b c]
  exact hg
 .rw[<-C.stays j f a (λr e h1 h2 he=>C.gap I X r e h1 h2 he) b (C.known I hb a c)]
  exact hg
theorem dU.freeAt(hjN:j<N):cC β (S j) (S (j+1)):=λb h1 h2=>by
 cases hb:β b with
 |none=>rfl
 |some m=>
  exfalso
  rcases I.dom b m hb with h|⟨p,e,g1,g2,g3,g4⟩
  .have:=C.free b (bK (C.kp (cH j) O).next h1) (bL h2 (C.kp (by omega:j+1<=N) (aN N)).next)
   rw[h]at this;cases this
  .have hpM:=I.before p e g1 g2
   have hleN:=I.leN
   rcases Nat.lt_trichotomy p j with a|heq|a
   .have:=(C.kp (by omega:p+1<=j) O).next;omega
   .subst heq
    rw[X.hj]at g1;cases g1
    rw[X.hi]at g2;exact X.hn g2
   .have:=(C.kp (by omega:j+1<=p) O).next;omega
theorem dU.advance(hjN:j<N){v v':Value}(hA:A (j+1)=(A j).put o.dst v){z:Nat}(hM:M<=z)(hjM:j<z)(V:z<=N)
 (hw:∀(p:Nat) (e:an),l[p]? = some e->gi e.how=true->p<z->L e.ix\/e.ix=i) {β':aS} {w':World} (hv:ao P β' v v') (Q:bh P β' (S z) w') (hle:β.le β')
 (F:∀b m,β' b=some m->β b=none->(S j).next<=b/\b<(S (j+1)).next) (y:w.heap.size<=w'.heap.size)
 (J:∀r,r<w.heap.size->(∀b m o,β b=some m->b<(S j).next->(S 0).may b=true->(S j).get b=some o->m.blk≠r)->w'.heap[r]? = w.heap[r]?)
 (n:∀b m,β' b=some m->β b=none->w.heap.size<=m.blk\/∃a m₁ c,β a=some m₁/\a<(S j).next/\(S 0).may a=true/\(S j).get a=some c/\m₁.blk=m.blk)
 (Y:w'.os=w.os) (W:w'.output=w.output) (htp:w'.tape=w.tape) :
 eR P ops l anc N A S β₀ w₀ D₀ (λk=>L k\/k=i) z β' (a'.put o.dst v') w':=by
 have hsm:=C.small
 have hszj:=C.chain.size j O
 -- what lives and may be written at the next operation's turn did so at the region's beginning
 have back:∀b m o,β b=some m->b<(S j).next->(S 0).may b=true->(S j).get b=some o->∀r,m.blk=r ->
  w₀.heap.size<=r\/∃a m₁ c,β₀ a=some m₁/\a<(S 0).next/\(S 0).may a=true/\(S 0).get a=some c/\m₁.blk=r:=by
  intro b m oo hb u f hg r K
  cases h0:β₀ b with
  |some R=>
   have:=I.le b R h0
   rw[hb]at this;cases this
   have E:b<(S 0).next:=by
    rcases cP b (S 0).next with H|H
    .exact H
    .have:=C.free b H (bL u (C.kp (by omega:j<=N) (aN N)).next)
     rw[h0]at this;cases this
   cases G:(S 0).get b with
   |none=>rw[(C.kp (cH j) O).dead b E G]at hg;cases hg
   |some c=>exact .inr ⟨b,m,c,h0,E,f,G,K⟩
  |none=>rw[<-K];exact I.fresh b m hb h0
 exact{
  closed:=λk q hk hl s=>by
   rcases hl with hl|hl
   .exact .inl (I.closed k q hk hl s)
   .subst hl;exact .inl (X.hanc q s)
  before:=λp e hp hl=>by
   rcases hl with hl|hl
   .exact bL (I.before p e hp hl) hM
   .have:=C.pos hp X.hj (by rw[hl,X.hi]);omega
  wholes:=hw
  leN:=V
  rel:=Q
  le:=aS.le_trans I.le hle
  dom:=λb m hb=>by
   cases h1:β b with
   |some m₁=>
    have:=hle b m₁ h1
    rw[hb]at this;cases this
    rcases I.dom b m h1 with h|⟨p,e,g1,g2,B,D⟩
    .exact .inl h
    .exact .inr ⟨p,e,g1,.inl g2,B,D⟩
   |none=>
    obtain⟨g1,g2⟩:=F b m hb h1
    exact .inr ⟨j,d,X.hj,.inr X.hi,g1,g2⟩
  tsize:=by rw[zbt];exact I.tsize
  defers:=by rw[wV];exact I.defers
  filled:=λp e q t hp s hl hd T=>by
   rcases hl with hl|hl
   .have x:o.dst≠some t:=λH=>by
     have:=C.plan.dst e.ix i q o t s X.ho hd H
     rw[this]at hl;exact X.hn hl
    rw[Zz x]
    exact(I.filled p e q t hp s hl hd T).mono hle
   .have Z:=C.pos hp X.hj (by rw[hl,X.hi])
    subst Z
    rw[hl,X.ho]at s;cases s
    rw[hA,hd,rl O O,zbu (by rw[I.tsize];exact T)]
    exact hv
  old:=λt T g=>by
   have x:o.dst≠some t:=g j d o X.hj (by rw[X.hi];exact X.ho) (.inr X.hi)
   rw[Zz x]
   exact(I.old t T λp e q hp s hl=>g p e q hp s (.inl hl)).mono hle
  size:=bK I.size y
  out:=λr K g=>by
   rw[<-I.out r K g]
   refine J r (bL K I.size) λb m oo hb u f hg heq=>?_
   rcases back b m oo hb u f hg r heq with h|⟨a,m₁,c,g1,g2,B,D,U⟩
   .omega
   .exact g a m₁ c g1 g2 B D U
  fresh:=λb m hb h0=>by
   cases h1:β b with
   |some m₁=>
    have:=hle b m₁ h1
    rw[hb]at this;cases this
    exact I.fresh b m h1 h0
   |none=>
    rcases n b m hb h1 with h|⟨a,m₁,c,g1,g2,B,D,U⟩
    .exact .inl (bK I.size h)
    .exact back a m₁ c g1 g2 B D m.blk U
  os:=Y.trans I.os
  output:=W.trans I.output
  tape:=htp.trans I.tape}
omit I X in
theorem dU.mayAt(a:j<=N)(b:Nat):(S j).may b=(S 0).may b:=St.may_eq (C.kp (cH j) a).bar (C.kp (cH j) a).prot b
theorem dU.pass(f:j<N)(h:yO P call ops.toList d o (A j) (S j)=.normal (A (j+1)) (S (j+1)))(c:xZ ops.toList (A j) o=false) :
 ∃q,eR P ops l anc N A S β₀ w₀ D₀ (λk=>L k\/k=i) q β (a'.put o.dst undef) w:=by
 unfold yO at h
 rw[c]at h
 simp only[cg.normal.injEq]at h
 obtain⟨n,r⟩:=h
 rcases cP j M with a|a
 .refine⟨M,C.advance I X f n.symm (aN M) a I.leN (λp e hp hw g=>.inl (I.wholes p e hp hw g)) wy I.rel (aS.le_refl β) V5 Z3 (λ_ _ _=>rfl) V5 rfl rfl rfl⟩
 .refine⟨j+1,C.advance I X f n.symm O O O (λp e hp hw g=>?_) wy (by rw[<-r];exact C.relAt I X O (.inl a)) (aS.le_refl β) V5 Z3 (λ_ _ _=>rfl) V5 rfl rfl rfl⟩
  rcases cP p M with b|b
  .exact .inl (I.wholes p e hp hw b)
  .by_cases m:p=j
   .subst m;rw[X.hj]at hp;cases hp;exact .inr X.hi
   .have:=C.gap I X p e b O hp
    rw[hw]at this;cases this
end
section
variable{P:Program}{call:FuncId->Array Value->St->aq}{ops:Array Oper}{l:List an}{anc:Nat->Nat}{N:Nat}{A:Nat->Fr}{S:Nat->St}{β₀:aS}{w₀:World}{D₀:List Deferred}{ro:Option Nat}{a₀:Act}
theorem YP{o:Oper}{a:Fr}{v:Value}{s s₁:St}{b:Fr}(c:eh P call o a s=.normal b s₁){s':St}(h:eh P call o a s=.normal (a.put o.dst v) s'):b=a.put o.dst v/\s'=s₁:=by
 rw[c]at h
 simp only[cg.normal.injEq]at h
 exact⟨h.1,h.2.symm⟩
variable(C:dU P call ops l anc N A S β₀ w₀ a₀){L:Nat->Prop}{M:Nat}{β:aS}{a':Act}{w:World}(I:eR P ops l anc N A S β₀ w₀ D₀ L M β a' w)
 {i j:Nat} {d:an} {o:Oper} (X:nj ops l anc L i j d o)
include C I X
theorem dU.wholesTo(hjm:M<=j)(p:Nat)(e:an)(hp:l[p]? = some e)(hw:gi e.how=true)(hlt:p<j+1):L e.ix\/e.ix=i:=by
 rcases cP p M with a|a
 .exact .inl (I.wholes p e hp hw a)
 .by_cases b:p=j
  .subst b;rw[X.hj]at hp;cases hp;exact .inr X.hi
  .have:=C.gap I X p e a O hp
   rw[hw]at this;cases this
omit C in
theorem Ig(b:gi d.how=true):M<=j:=by
 rcases cP j M with a|a
 .have:=I.wholes j d X.hj b a
  rw[X.hi]at this
  exact(X.hn this).elim
 .exact a
theorem dU.whole(t:j<N)(f:yO P call ops.toList d o (A j) (S j)=.normal (A (j+1)) (S (j+1)))(q:xZ ops.toList (A j) o=true)(E:d.how=.whole)
 (K:Act->World->Prop) (Q:Exit->Act->World->Prop)
 (T:∀F β' v' w',eR P ops l anc N A S β₀ w₀ D₀ (λk=>L k\/k=i) F β' (a'.put o.dst v') w'->K (a'.put o.dst v') w'):o.wpIn (FW ro) 0 P a' w K Q:=by
 have U:gi d.how=true:=by rw[E];rfl
 have p:=Ig I X U
 unfold yO at f
 rw[q,E]at f
 simp only at f
 have n:=C.freeAt I X t
 let sm:St:={S j with prot:=xa ops.toList (A j) d.free++(S j).prot}
 have u:bh P β sm w:=(C.relAt I X O (.inl p)).of_same rfl rfl (C.relAt I X O (.inl p)).ro
 split at f
 .rename_i a₁ s₁ g
  simp only[cg.normal.injEq]at f
  obtain⟨R,z⟩:=f
  have a:(S (j+1)).next=s₁.next:=by rw[<-z]
  refine wI C.hc u (C.operands I X.hj X.hi O X.ho X.hn X.hanc) (by rw[g];simp) (by rw[g];exact λb h1 h2=>n b h1 (by rw[a];exact h2)) K Q (λv v' s' β' w' he hx hv=>?_) (λc c' s' β' w' he=>by rw[g]at he;cases he) ro
  obtain⟨e1,e2⟩:=YP g he
  subst e2
  refine T (j+1) β' v' w' (C.advance I X t (by rw[<-R,e1]) O O O (C.wholesTo I X p) hv ?_ hx.le (λb m h1 h2=>by rw[a];exact hx.dom b m h1 h2) hx.size (λr f D=>?_) (λb m h1 h2=>?_) hx.os hx.output hx.tape)
  .refine hx.rel.of_same a (by rw[<-z]) λb m h1 h2 J=>?_
   have:=hx.rel.ro b m h1 h2 J
   rw[hx.bar]at this
   rw[<-z]
   exact this
  .refine hx.out r f λb m V hb B e hg=>D b m V hb B ?_ hg
   rw[<-C.mayAt (by omega:j<=N)]
   unfold St.may at e |-
   simp only[sm,aF,bB,List.any_append,Bool.or_eq_false_iff]at e |-
   exact⟨e.1,e.2.2⟩
  .rcases hx.fresh b m h1 h2 with h|⟨s,m₁,x,g1,g2,y,G,H⟩
   .exact .inl h
   .refine .inr ⟨s,m₁,x,g1,g2,?_,G,H⟩
    rw[<-C.mayAt (by omega:j<=N)]
    unfold St.may at y |-
    simp only[sm,aF,bB,List.any_append,Bool.or_eq_false_iff]at y |-
    exact⟨y.1,y.2.2⟩
 .cases f
 .cases f
omit C I X in
theorem K2{s:St}{b:Nat}(hb:b<s.next)(p:List Nat):({s with bar:=s.next,prot:=p}:St).may b=false:=by
 unfold St.may
 simp only[eK]
 left
 rw[cM]
 intro a
 have:=aR a
 omega
theorem dU.freshOp(E:j<N)(u:yO P call ops.toList d o (A j) (S j)=.normal (A (j+1)) (S (j+1)))(J:xZ ops.toList (A j) o=true)(hh:d.how=.fresh)
 (K:Act->World->Prop) (Q:Exit->Act->World->Prop)
 (hK:∀M' β' v' w',eR P ops l anc N A S β₀ w₀ D₀ (λk=>L k\/k=i) M' β' (a'.put o.dst v') w'->K (a'.put o.dst v') w'):o.wpIn (FW ro) 0 P a' w K Q:=by
 unfold yO at u
 rw[J,hh]at u
 simp only at u
 have D:=C.freeAt I X E
 have x:bh P β (S j) w:=C.relAt I X O (.inr ⟨by rw[hh];rfl,by rw[hh];rfl⟩)
 let sm:St:={S j with bar:=(S j).next}
 have Y:bh P β sm w:=x.of_same rfl rfl λb m h1 h2 U=>h2
 split at u
 .rename_i a₁ s₁ y
  simp only[cg.normal.injEq]at u
  obtain⟨hA,hS⟩:=u
  have f:(S (j+1)).next=s₁.next:=by rw[<-hS]
  refine wI C.hc Y (C.operands I X.hj X.hi O X.ho X.hn X.hanc) (by rw[y];simp) (by rw[y];exact λb h1 h2=>D b h1 (by rw[f];exact h2)) K Q (λv v' s' β' w' he hx hv=>?_) (λc c' s' β' w' he=>by rw[y]at he;cases he) ro
  obtain⟨e1,e2⟩:=YP y he
  subst e2
  -- nothing that was there is written
  have n:∀r,r<w.heap.size->w'.heap[r]? = w.heap[r]? :=λr u=>hx.out r u λb m oo hb G z=>by
   have:=K2 (s:=S j) G (S j).prot
   rw[this]at z;cases z
  have t:∀b m,β' b=some m->β b=none->w.heap.size<=m.blk:=λb m h1 h2=>by
   rcases hx.fresh b m h1 h2 with h|⟨b₁,m₁,o₁,g1,g2,g3,_⟩
   .exact h
   .have:=K2 (s:=S j) g2 (S j).prot
    rw[this]at g3;cases g3
  have g:bh P β' (S (j+1)) w':=hx.rel.of_same f (by rw[<-hS]) λb m h1 h2 U=>by
   obtain⟨W,q2⟩:=hx.roOld Z3 h1 h2 U
   rw[<-hS]
   exact x.ro b m W q2 U
  rcases cP j M with F|F
  ·-- others behind it are done
   have q:∀b,b<(S (j+1)).next->(S M).get b=(S (j+1)).get b:=C.stays M O I.leN (λr e h1 h2 he=>by
    cases hw:gi e.how with
    |false=>rfl
    |true=>rcases(C.gap2 I X r e O h2 he hw).2.1 with this|this<;>(rw[hh]at this;cases this))
   have a:=(I.rel.grow hx.size n)
   have back:∀b m,β' b=some m->b<(S M).next->β b=some m\/(β b=none/\b<(S (j+1)).next):=λb m h1 _=>by
    cases hb:β b with
    |some m₁=>have:=hx.le b m₁ hb;rw[h1]at this;cases this;exact .inl rfl
    |none=>exact .inr ⟨rfl,by rw[f];exact(hx.dom b m h1 hb).2⟩
   have H:bh P β' (S M) w':={
    img:=λb m h1 h2=>by
     rcases back b m h1 h2 with h|⟨_,h⟩
     .exact a.img b m h h2
     .exact g.img b m h1 h
    obj:=λb m oo h1 h2 hg=>by
     rcases back b m h1 h2 with h|⟨_,h⟩
     .obtain⟨o',W,q2⟩:=a.obj b m oo h h2 hg
      exact⟨o',W,q2.mono hx.le⟩
     .exact g.obj b m oo h1 h (by rw[<-q b h];exact hg)
    inj:=λT B m1 m2 o1 o2 h1 h2 l1 l2 g1 g2 e=>by
     rcases back T m1 h1 l1 with k1|⟨k1,Z⟩
     .rcases back B m2 h2 l2 with V|⟨V,R⟩
      .exact a.inj T B m1 m2 o1 o2 k1 V l1 l2 g1 g2 e
      .have:=I.rel.img T m1 k1 l1
       have:=t B m2 h2 V
       omega
     .rcases back B m2 h2 l2 with V|⟨V,R⟩
      .have:=I.rel.img B m2 V l2
       have:=t T m1 h1 k1
       omega
      .exact g.inj T B m1 m2 o1 o2 h1 h2 Z R (by rw[<-q T Z];exact g1) (by rw[<-q B R];exact g2) e
    ro:=λb m h1 h2 U=>by
     rcases back b m h1 h2 with k|⟨k,k'⟩
     .exact a.ro b m k h2 U
     .obtain⟨W,_⟩:=hx.roOld Z3 h1 (by rw[<-f];exact k') U
      rw[k]at W;cases W
    room:=I.rel.room
    top:=I.rel.top}
   exact hK M β' v' w' (C.advance I X E (by rw[<-hA,e1]) (aN M) F I.leN (λp e hp hw G=>.inl (I.wholes p e hp hw G)) hv H hx.le (λb m h1 h2=>by rw[f];exact hx.dom b m h1 h2) hx.size (λr u _=>n r u) (λb m h1 h2=>.inl (t b m h1 h2)) hx.os hx.output hx.tape)
  .exact hK (j+1) β' v' w' (C.advance I X E (by rw[<-hA,e1]) O O O (C.wholesTo I X F) hv g hx.le (λb m h1 h2=>by rw[f];exact hx.dom b m h1 h2) hx.size (λr u _=>n r u) (λb m h1 h2=>.inl (t b m h1 h2)) hx.os hx.output hx.tape)
 .cases u
theorem dU.loadKept(hjN:j<=N)(m:jg o=true){b:Nat}(hb:xN (A j) o=some b)(D:b<(S j).next)(hjm:j<M):(S M).get b=(S j).get b:=by
 have n:FX o=true:=by
  unfold xN at hb
  split at hb
  .rename_i t x c;simp[FX,zfc,c]
  .rename_i t x lo hi c;simp[FX,Qa,c]
  .rename_i c;simp[jg,jO,Qa,c]at m
  .rename_i c;simp[jg,jO,Qa,c]at m
  .cases hb
 -- its address is the same at every later turn
 have same:∀q,j<=q->q<=N->xN (A q) o=some b:=λq F z=>by
  unfold xN at hb |-
  split at hb
  .rename_i t x c
   have:(A q).eval x=(A j).eval x:=by
    cases x with
    |tmp u=>
     refine C.chain.keepsSlot C.small u j q F z λr e B h1 h2 he p hd=>?_
     rcases C.plan.reads i o X.ho u (by rw[c];simp[Op.operands]) e.ix B p hd with h|⟨h,_⟩
     .have:=C.ahead he X.hj (by rw[X.hi];exact h);omega
     .rw[n]at h;cases h
    |const v=>rfl
    |global g=>rfl
    |func f=>rfl
   rw[this];exact hb
  .rename_i t x lo hi c
   have:(A q).eval x=(A j).eval x:=by
    cases x with
    |tmp u=>
     refine C.chain.keepsSlot C.small u j q F z λr e B h1 h2 he p hd=>?_
     rcases C.plan.reads i o X.ho u (by rw[c];simp[Op.operands]) e.ix B p hd with h|⟨h,_⟩
     .have:=C.ahead he X.hj (by rw[X.hi];exact h);omega
     .rw[n]at h;cases h
    |const v=>rfl
    |global g=>rfl
    |func f=>rfl
   rw[this];exact hb
  .rename_i c;simp[jg,jO,Qa,c]at m
  .rename_i c;simp[jg,jO,Qa,c]at m
  .cases hb
 -- and no operation on the way writes there
 have y:∀(f:List Nat) (a:Fr),i∈f->xN a o=some b->b∈xa ops.toList a f:=by
  intro f a
  induction f with
  |nil=>intro h;cases h
  |cons k f E=>
   intro hm s
   unfold xa
   rcases aJ.1 hm with rfl|hm
   .have:zH ops.toList i=some o:=by rw[zN];simpa using X.ho
    rw[this]
    simp only[s,aJ,true_or]
   .have:=E hm s
    split
    .split
     .exact aP _ this
     .exact this
    .exact this
 have:∀q,j<=q->q<=M->(S q).get b=(S j).get b:=by
  intro q
  induction q with
  |zero=>intro h _;have:j=0:=O;subst this;rfl
  |succ q E=>
   intro h1 h2
   by_cases he:j=q+1
   .rw[he]
   .have hMN:=I.leN
    obtain⟨e,B,g1,g2,G⟩:=C.chain.step q O
    rw[Qk C.hk (C.wf O) G (bL D (C.kp (by omega:j<=q) O).next) (λhw=>by
     obtain⟨_,_,H⟩:=C.gap2 I X q e O O g1 hw
     exact y e.free (A q) (H (.inl n)) (same q O O))]
    exact E O O
 exact this M O (aN M)
theorem dU.lightOp(E:j<N)(x:yO P call ops.toList d o (A j) (S j)=.normal (A (j+1)) (S (j+1)))(D:xZ ops.toList (A j) o=true)(Z:d.how=.light)
 (K:Act->World->Prop) (Q:Exit->Act->World->Prop)
 (Y:∀M' β' v' w',eR P ops l anc N A S β₀ w₀ D₀ (λk=>L k\/k=i) M' β' (a'.put o.dst v') w'->K (a'.put o.dst v') w'):o.wpIn (FW ro) 0 P a' w K Q:=by
 unfold yO at x
 rw[D,Z]at x
 simp only at x
 let sm:St:={next:=(S j).next,bar:=(S j).next,prot:=[],heap:=only (S j) (xN (A j) o)}
 have B:∀b,sm.get b=if xN (A j) o=some b then(S j).get b else none:=λb=>by
  show Tr.get (only (S j) (xN (A j) o)) b=_
  unfold only
  cases hb:xN (A j) o with
  |none=>simp[Tr.get]
  |some g=>
   simp only
   rcases cP g 281474976710655 with f|hge
   .rw[Tr.get_put depth _ _ _ _ (by have:(2:Nat) ^ depth=281474976710656:=U;omega)]
    by_cases he:b=g
    .subst he;simp
    .have:¬(some g=some b):=λh=>he (by cases h;rfl)
     rw[aD he,aD this];rfl
   ·-- so great a number is none
    have y:(S j).get g=none:=(C.wf (by omega:j<=N)).top g (by have:=(C.wf (by omega:j<=N)).room;omega)
    have all:∀(d n:Nat) (t:Tr ak) (m:Nat),(∀k,t.get k=none)->(Tr.put d t n none).get m=none:=by
     intro d
     induction d with
     |zero=>intro n t m H;exact H m
     |succ d V=>
      intro n t m H
      cases t with
      |nil=>
       cases n with
       |zero=>cases m<;>simp only[Tr.put,Tr.get];split<;>rfl
       |succ k=>
        simp only[Tr.put]
        split<;>(cases m<;>simp only[Tr.get];split<;>first|rfl|exact V _ _ _ (λ_=>rfl))
      |node v a b=>
       have hv:v=none:=H 0
       have ha:∀k,a.get k=none:=λk=>by
        have:=H (2*k+1)
        simp only[Tr.get]at this
        rw[show 2*k % 2=0 by omega,show 2*k / 2=k by omega]at this
        exact this
       have hb:∀k,b.get k=none:=λk=>by
        have:=H (2*k+2)
        simp only[Tr.get]at this
        rw[show(2*k+1) % 2=1 by omega,show(2*k+1) / 2=k by omega]at this
        exact this
       cases n with
       |zero=>cases m<;>simp only[Tr.put,Tr.get];split<;>first|exact ha _|exact hb _
       |succ k=>
        simp only[Tr.put]
        split<;>(cases m<;>simp only[Tr.get];exact hv;(split<;>first|exact ha _|exact hb _|exact V _ _ _ ha|exact V _ _ _ hb))
    rw[y,all depth g .nil b (λ_=>rfl)]
    split
    .rename_i he;cases he;exact y.symm
    .rfl
 have J:WF sm:=⟨(C.wf (by omega:j<=N)).room,λb hb=>by
  rw[B]
  split
  .exact(C.wf (by omega:j<=N)).top b hb
  .rfl⟩
 have G:bh P β sm w:=by
  refine I.rel.at_state J (λb m hb f=>C.known I hb (by omega:j<=N) f) (λb m oo hb f hg=>?_) λb m hb f x=>f
  rw[B]at hg
  split at hg
  .rename_i T
   rcases cP j M with u|u
   .rw[C.loadKept I X O (C.plan.light j d o X.hj (by rw[X.hi];exact X.ho) (by rw[Z];rfl)) T f u];exact hg
   .rw[<-C.stays j u O (λr e h1 h2 he=>C.gap I X r e h1 h2 he) b (C.known I hb (by omega:j<=N) f)]
    exact hg
  .cases hg
 split at x
 .rename_i a₁ s₁ z
  split at x
  .rename_i hn
   have hn:s₁.next=(S j).next:=aK hn
   simp only[cg.normal.injEq]at x
   obtain⟨W,hS⟩:=x
   refine wI C.hc G (C.operands I X.hj X.hi O X.ho X.hn X.hanc) (by rw[z];simp) (by
    rw[z]
    intro b h1 h2
    have h1:(S j).next<=b:=h1
    omega) K Q (λv v' s' β' w' he hx hv=>?_) (λc c' s' β' w' he=>by rw[z]at he;cases he) ro
   obtain⟨e1,e2⟩:=YP z he
   subst e2
   have q:∀r,r<w.heap.size->w'.heap[r]? = w.heap[r]? :=λr x=>hx.out r x λb m oo hb f F=>by
    have:=K2 (s:=sm) f []
    have e:({sm with bar:=sm.next,prot:=[]}:St)=sm:=rfl
    rw[e,F]at this;cases this
   have y:∀b m,β' b=some m->β b=none->False:=λb m h1 h2=>by
    have h:=hx.dom b m h1 h2
    have h1:(S j).next<=b:=h.1
    have h2:=h.2
    omega
   have hle':β'.le β:=λb m hb=>by
    cases h1:β b with
    |some m₁=>have:=hx.le b m₁ h1;rw[hb]at this;cases this;rfl
    |none=>exact(y b m hb h1).elim
   have R:β'=β:=by
    funext b
    cases h1:β b with
    |some m=>exact hx.le b m h1
    |none=>cases h2:β' b with
     |none=>rfl
     |some m=>exact(y b m h2 h1).elim
   subst R
   rcases cP j M with u|u
   .exact Y M β' v' w' (C.advance I X E (by rw[<-W,e1]) (aN M) u I.leN (λp e hp hw f=>.inl (I.wholes p e hp hw f)) hv (I.rel.grow hx.size q) hx.le V5 hx.size (λr x _=>q r x) V5 hx.os hx.output hx.tape)
   .exact Y (j+1) β' v' w' (C.advance I X E (by rw[<-W,e1]) O O O (C.wholesTo I X u) hv (by rw[<-hS];exact(C.relAt I X O (.inl u)).grow hx.size q) hx.le V5 hx.size (λr x _=>q r x) V5 hx.os hx.output hx.tape)
  .cases x
 .cases x
omit C I X in
theorem bh.newDead{s:St}(h:bh P β s w)(c:s.room=true)(hn:β s.next=none)(o:ak):bh P β (s.new o) w:=by
 have n:=wp c
 have f:=λb'=>St.get_new (s:=s) O o b'
 have ne:∀b m,β b=some m->b≠s.next:=λb m hb e=>by rw[e,hn]at hb;cases hb
 exact{
  img:=λb m hb a=>h.img b m hb (by have:=ne b m hb;simp at a;omega)
  obj:=λb m u hb a hg=>by
   rw[f,aD (ne b m hb)]at hg
   exact h.obj b m u hb (by have:=ne b m hb;simp at a;omega) hg
  inj:=λg k m1 m2 r t h1 h2 p q g1 g2 e=>by
   rw[f,aD (ne g m1 h1)]at g1
   rw[f,aD (ne k m2 h2)]at g2
   exact h.inj g k m1 m2 r t h1 h2 (by have:=ne g m1 h1;simp at p;omega) (by have:=ne k m2 h2;simp at q;omega) g1 g2 e
  ro:=λb m hb a n=>h.ro b m hb (by have:=ne b m hb;simp at a;omega) n
  room:=by simp;omega
  top:=λb hb=>by simp at hb;rw[f,aD O];exact h.top b O}
theorem dU.newKept(hjN:j<N)(F:d.how=.new){b:Nat}(c:xN (A (j+1)) o=some b)(D:b<(S (j+1)).next)(hjm:j<M):(S M).get b=(S (j+1)).get b:=by
 have s:(uo o||zfd o)=true:=C.plan.alloc j d o X.hj (by rw[X.hi];exact X.ho) (by rw[F];rfl)
 have same:∀q,j+1<=q->q<=N->xN (A q) o=some b:=λq G z=>by
  unfold xN at c |-
  split at c
  .rename_i t x p;simp[uo,zfd,p]at s
  .rename_i t x lo hi p;simp[uo,zfd,p]at s
  .cases hd:o.dst with
   |none=>rw[hd]at c;cases c
   |some u=>
    rw[hd]at c
    have:(A q).get u=(A (j+1)).get u:=C.chain.keepsSlot C.small u (j+1) q G z λr e B h1 h2 he n g=>by
     have m:=C.plan.dst i e.ix o B u X.ho n hd g
     have:=C.pos X.hj he (by rw[X.hi];exact m)
     omega
    simp only[this]
    exact c
  .cases hd:o.dst with
   |none=>rw[hd]at c;cases c
   |some u=>
    rw[hd]at c
    have:(A q).get u=(A (j+1)).get u:=C.chain.keepsSlot C.small u (j+1) q G z λr e B h1 h2 he n g=>by
     have m:=C.plan.dst i e.ix o B u X.ho n hd g
     have:=C.pos X.hj he (by rw[X.hi];exact m)
     omega
    simp only[this]
    exact c
  .cases c
 have y:∀(f:List Nat) (a:Fr),i∈f->xN a o=some b->b∈xa ops.toList a f:=by
  intro f a
  induction f with
  |nil=>intro h;cases h
  |cons k f E=>
   intro hm v
   unfold xa
   rcases aJ.1 hm with rfl|hm
   .have:zH ops.toList i=some o:=by rw[zN];simpa using X.ho
    rw[this]
    simp only[v,aJ,true_or]
   .have:=E hm v
    split
    .split
     .exact aP _ this
     .exact this
    .exact this
 have:∀q,j+1<=q->q<=M->(S q).get b=(S (j+1)).get b:=by
  intro q
  induction q with
  |zero=>intro h _;omega
  |succ q E=>
   intro h1 h2
   by_cases he:j=q
   .rw[he]
   .have hMN:=I.leN
    obtain⟨e,B,g1,g2,H⟩:=C.chain.step q O
    rw[Qk C.hk (C.wf O) H (bL D (C.kp (by omega:j+1<=q) O).next) (λhw=>by
     obtain⟨_,_,J⟩:=C.gap2 I X q e O O g1 hw
     exact y e.free (A q) (J (.inr (by rw[F];rfl))) (same q O O))]
    exact E O O
 exact this M O (aN M)
theorem dU.newOp(x:j<N)(D:yO P call ops.toList d o (A j) (S j)=.normal (A (j+1)) (S (j+1)))(E:xZ ops.toList (A j) o=true)(hh:d.how=.new)
 (K:Act->World->Prop) (Q:Exit->Act->World->Prop)
 (hK:∀M' β' v' w',eR P ops l anc N A S β₀ w₀ D₀ (λk=>L k\/k=i) M' β' (a'.put o.dst v') w'->K (a'.put o.dst v') w'):o.wpIn (FW ro) 0 P a' w K Q:=by
 obtain⟨s₁,ob,y,hn,u,hbo,hob,hS⟩:=zfy D E hh
 have q:=C.freeAt I X x
 have hSn:(S (j+1)).next=(S j).next+1:=by rw[hS];rfl
 let sm:St:={next:=(S j).next,bar:=(S j).next,prot:=[],heap:=.nil}
 have Y:WF sm:=⟨(C.wf (by omega:j<=N)).room,λb _=>rfl⟩
 have V:bh P β sm w:=I.rel.at_state Y (λb m hb f=>C.known I hb (by omega:j<=N) f) (λb m oo hb f hg=>by
  have:sm.get b=none:=rfl
  rw[this]at hg
  cases hg) λb m hb f D=>f
 refine wI C.hc V (C.operands I X.hj X.hi O X.ho X.hn X.hanc) (by rw[y];simp) (by
  rw[y]
  intro b h1 h2
  exact q b h1 (by rw[hSn];rw[hn]at h2;exact h2)) K Q (λv v' s' β' w' he hx hv=>?_) (λc c' s' β' w' he=>by rw[y]at he;cases he) ro
 obtain⟨e1,e2⟩:=YP y he
 subst e2
 have g:∀r,r<w.heap.size->w'.heap[r]? = w.heap[r]? :=λr D=>hx.out r D λb m oo hb f U=>by
  have:=K2 (s:=sm) f []
  have e:({sm with bar:=sm.next,prot:=[]}:St)=sm:=rfl
  rw[e,U]at this;cases this
 have n:∀b m,β' b=some m->β b=none->w.heap.size<=m.blk:=λb m h1 h2=>by
  rcases hx.fresh b m h1 h2 with h|⟨b₁,m₁,o₁,g1,g2,g3,_⟩
  .exact h
  .have:=K2 (s:=sm) g2 []
   have e:({sm with bar:=sm.next,prot:=[]}:St)=sm:=rfl
   rw[e,g3]at this;cases this
 have B:∀b m,β' b=some m->β b=none->b=(S j).next:=λb m h1 h2=>by
  have H:=hx.dom b m h1 h2
  have h4:(S j).next<=b:=H.1
  have h5:=H.2
  omega
 have key:∀T:St,bh P β T w->T.get (S j).next=some ob->bh P β' T w':=λT J hg0=>by
  have a:=J.grow hx.size g
  have back:∀b m,β' b=some m->β b=some m\/(β b=none/\b=(S j).next):=λb m h1=>by
   cases hb:β b with
   |some m₁=>have:=hx.le b m₁ hb;rw[h1]at this;cases this;exact .inl rfl
   |none=>exact .inr ⟨rfl,B b m h1 hb⟩
  exact{
   img:=λb m h1 h2=>by
    rcases back b m h1 with h|⟨_,h⟩
    .exact a.img b m h h2
    .exact hx.rel.img b m h1 O
   obj:=λb m oo h1 h2 hg=>by
    rcases back b m h1 with h|⟨_,h⟩
    .obtain⟨o',q1,q2⟩:=a.obj b m oo h h2 hg
     exact⟨o',q1,q2.mono hx.le⟩
    .subst h
     rw[hg0]at hg
     cases hg
     exact hx.rel.obj _ m ob h1 O hob
   inj:=λZ G m1 m2 o1 o2 h1 h2 l1 l2 g1 g2 e=>by
    rcases back Z m1 h1 with k1|⟨k1,k1'⟩
    .rcases back G m2 h2 with F|⟨F,k2'⟩
     .exact a.inj Z G m1 m2 o1 o2 k1 F l1 l2 g1 g2 e
     .have:=J.img Z m1 k1 l1
      have:=n G m2 h2 F
      omega
    .rcases back G m2 h2 with F|⟨F,k2'⟩
     .have:=J.img G m2 F l2
      have:=n Z m1 h1 k1
      omega
     .exact .inl O
   ro:=λb m h1 h2 H=>by
    rcases back b m h1 with k|⟨k,k'⟩
    .exact a.ro b m k h2 H
    .obtain⟨q1,_⟩:=hx.roOld Z3 h1 O H
     rw[k]at q1;cases q1
   room:=J.room
   top:=J.top}
 have R:(S (j+1)).get (S j).next=some ob:=by
  have:=wp u
  rw[hS,St.get_new O,aG rfl]
 have z:∀b m,β' b=some m->β b=none->(S j).next<=b/\b<(S (j+1)).next:=λb m h1 h2=>by
  have:=B b m h1 h2
  omega
 rcases cP j M with t|t
 .have hst:=C.newKept I X x hh hbo O t
  exact hK M β' v' w' (C.advance I X x e1 (aN M) t I.leN (λp e hp hw f=>.inl (I.wholes p e hp hw f)) hv (key (S M) I.rel (by rw[hst];exact R)) hx.le z hx.size (λr D _=>g r D) (λb m h1 h2=>.inl (n b m h1 h2)) hx.os hx.output hx.tape)
 .have hrj:=C.relAt I X (by omega:j<=N) (.inl t)
  have W:bh P β (S (j+1)) w:=by
   rw[hS]
   exact bh.newDead hrj u (q _ Z3 O) ob
  exact hK (j+1) β' v' w' (C.advance I X x e1 O O O (C.wholesTo I X t) hv (key _ W R) hx.le z hx.size (λr D _=>g r D) (λb m h1 h2=>.inl (n b m h1 h2)) hx.os hx.output hx.tape)
end
theorem bp.relax{P:Program}{β β':aS}{s s₀ s₁:St}{w w':World}(q:s₀.heap=s.heap)(hn:s₀.next=s.next)(hm:∀b,s₀.may b=true->s.may b=true)(hb:s₀.bar=s.bar)(h:bp P β s₀ w β' s₁ w') :
 bp P β s w β' {next:=s₁.next,bar:=s.bar,prot:=s.prot,heap:=s₁.heap} w':=by
 have hg:∀b,s₀.get b=s.get b:=λb=>by simp only[St.get,q]
 exact{
  rel:=h.rel.of_same rfl rfl λb m h1 h2 p=>by
   have:=h.rel.ro b m h1 h2 p
   rw[h.bar,hb]at this
   exact this
  le:=h.le
  dom:=λb m h1 h2=>by have:=h.dom b m h1 h2;rw[hn]at this;exact this
  next:=by have:=h.next;simp only;omega
  bar:=rfl
  prot:=rfl
  size:=h.size
  out:=λr t i=>h.out r t λb m o hb hlt c f=>i b m o hb O (hm b c) (by rw[<-hg];exact f)
  same:=λb hb d=>by
   have hf:s₀.may b=false:=by
    cases hx:s₀.may b with
    |false=>rfl
    |true=>rw[hm b hx]at d;cases d
   have:=h.same b O hf
   rw[hg]at this
   exact this
  dead:=λb hb hd=>h.dead b O (by rw[hg];exact hd)
  fresh:=λb m h1 h2=>by
   rcases h.fresh b m h1 h2 with g|⟨a,m₁,e,g1,g2,j,k,n⟩
   .exact .inl g
   .exact .inr ⟨a,m₁,e,g1,by omega,hm _ j,by rw[<-hg];exact k,n⟩
  os:=h.os
  output:=h.output
  tape:=h.tape}
section
variable{P:Program}{lo:Nat}{call:FuncId->Array Value->St->aq}{ops:Array Oper}{l:List an}{anc:Nat->Nat}{N:Nat}{A:Nat->Fr}{S:Nat->St}{β₀:aS}{w₀:World}{D₀:List Deferred}{ro:Option Nat}{a₀:Act}
theorem dU.ext(C:dU P call ops l anc N A S β₀ w₀ a₀){L:Nat->Prop}{M:Nat}{β:aS}{a':Act}{w:World}(I:eR P ops l anc N A S β₀ w₀ D₀ L M β a' w){q:Nat}(hMq:M<=q)(c:q<=N)(a:bh P β (S q) w) :
 bp P β₀ (S 0) w₀ β (S q) w:=by
 have hk:=C.kp (cH q) c
 exact{
  rel:=a
  le:=I.le
  dom:=λb m h1 h2=>by
   rcases I.dom b m h1 with h|⟨p,d,g1,g2,e,f⟩
   .rw[h2]at h;cases h
   .have:=I.before p d g1 g2
    exact⟨bK (C.kp (cH p) O).next e,bL f (C.kp (by omega:p+1<=q) c).next⟩
  next:=hk.next
  bar:=hk.bar
  prot:=hk.prot
  size:=I.size
  out:=I.out
  same:=hk.same
  dead:=hk.dead
  fresh:=I.fresh
  os:=I.os
  output:=I.output
  tape:=I.tape}
theorem dU.finish(C:dU P call ops l anc N A S β₀ w₀ a₀)(n:N=l.length){L:Nat->Prop}{M:Nat}{β:aS}{a':Act}{w:World}(I:eR P ops l anc N A S β₀ w₀ D₀ L M β a' w)(a:∀i,i<ops.size->L i)(h:ck lo β₀ (S 0) w₀ D₀) :
 fE P lo β₀ (S 0) w₀ (.normal (A N) (S N)) .normal a' w:=by
 have hsz:∀i (o:Oper),ops[i]? = some o->i<ops.size:=λi o ho=>by
  rcases cP i ops.size with f|f
  .exact f
  .rw[cV f]at ho;cases ho
 have m:M=N:=by
  have h1:=I.leN
  rcases cP M N with g|hge
  .obtain⟨d,hd⟩:∃d,l[M]? = some d:=⟨l[M],by simp[n▸g]⟩
   obtain⟨o,ho⟩:=C.plan.op M d hd
   have:=I.before M d hd (a _ (hsz _ o ho))
   omega
  .omega
 subst m
 refine⟨rfl,β,C.ext I (aN M) (aN M) I.rel,?_,by rw[I.defers];exact h.ext (C.ext I (aN M) (aN M) I.rel) C.free⟩
 refine⟨by rw[I.tsize,C.chain.size M (aN M)],by rw[C.chain.size M (aN M)];exact C.small,λt=>?_⟩
 by_cases k:t<(A 0).size
 .by_cases hex:∃(p:Nat) (d:an) (o:Oper),l[p]? = some d/\ops[d.ix]? = some o/\o.dst=some t
  .obtain⟨p,d,o,hp,ho,hd⟩:=hex
   have hl:=a _ (hsz _ o ho)
   have hv:=I.filled p d o t hp ho hl hd k
   have hpM:=I.before p d hp hl
   have:(A M).get t=(A (p+1)).get t:=C.chain.keepsSlot C.small t (p+1) M O (aN M) λr e j h1 h2 he c b=>by
    have heq:=C.plan.dst e.ix d.ix j o t c ho b hd
    have:=C.pos he hp heq
    omega
   rw[this];exact hv
  .have:(A M).get t=(A 0).get t:=C.chain.keepsSlot C.small t 0 M (cH _) (aN M) λr e j h1 h2 he c b=>hex ⟨r,e,j,he,c,b⟩
   rw[this]
   exact I.old t k λp d o hp ho _ hd=>hex ⟨p,d,o,hp,ho,hd⟩
 .have h1:∀q,q<=M->(A q).get t=(A 0).get t:=by
   intro q
   induction q with
   |zero=>intro _;rfl
   |succ q u=>
    intro hq
    obtain⟨d,o,_,_,s⟩:=C.chain.step q O
    obtain⟨v,hv⟩:=wu s
    rw[hv,rj (by rw[C.chain.size q O];exact C.small) (by rw[C.chain.size q O];omega)]
    exact u O
  rw[h1 M (aN M)]
  have h2:a'.tmps.getD t undef=a₀.tmps.getD t undef:=by
   rw[bD,bD,cV (by rw[I.tsize];omega),cV (by rw[C.fr.size];omega)]
  rw[h2]
  exact(C.fr.get t).mono I.le
def SP(P:Program)(call:FuncId->Array Value->St->aq)(ops:Array Oper)(l:List an)(N:Nat)(A:Nat->Fr)(S:Nat->St)(r:cg):Prop:=
 (N=l.length/\r=.normal (A N) (S N)) \/
 ∃d o c a s₁,l[N]? = some d/\ops[d.ix]? = some o/\yO P call ops.toList d o (A N) (S N)=.panic c a s₁/\r=.panic c a s₁
theorem dU.sched(C:dU P call ops l anc N A S β₀ w₀ a₀){r:cg}(z:SP P call ops l N A S r)(f:r.free β₀ (S 0))(Q:Exit->Act->World->Prop)(hQ:∀e x B,fE P lo β₀ (S 0) w₀ r e x B->Q e x B)(J:ck lo β₀ (S 0) w₀ D₀)(ro:Option Nat) :
 ∀(V:List Nat) (L:Nat->Prop),fI ops L V->∀(M:Nat) (β:aS) (a':Act) (w:World),eR P ops l anc N A S β₀ w₀ D₀ L M β a' w->wpOpsIn (FW ro) 0 P ops Q V a' w:=by
 intro V
 induction V with
 |nil=>
  intro L hs M β a' w I
  cases hs with
  |nil y=>
   rcases z with⟨hN,t⟩|⟨d,o,c,u,s₁,hd,ho,_,_⟩
   .subst t
    exact hQ _ _ _ (C.finish hN I y J)
   .exfalso
    have hl:=y d.ix (by
     rcases cP d.ix ops.size with h|h
     .exact h
     .rw[cV h]at ho;cases ho)
    have:=I.before N d hd hl
    have:=I.leN
    omega
 |cons i rest ih=>
  intro L hs M β a' w I
  cases hs with
  |cons hi hn he hs=>
   obtain⟨j,d,hj,g⟩:=C.plan.surj i hi
   obtain⟨o,ho⟩:=C.plan.op j d hj
   rw[g]at ho
   have X:nj ops l anc L i j d o:=⟨hj,g,ho,hn,λk hk=>C.done I ho (he o ho) hk⟩
   unfold wpOpsIn
   rw[ho]
   simp only
   rcases cP j N with m|m
   .obtain⟨d',o',g1,g2,t⟩:=C.chain.step j m
    rw[hj]at g1;cases g1
    rw[g,ho]at g2;cases g2
    rw[<-C.wants I hj g O ho hn X.hanc]
    cases hw:xZ ops.toList (A j) o with
    |false=>
     obtain⟨G,W⟩:=C.pass I X m t hw
     simp only[aV,cK]
     exact⟨λ_ _=>trivial,ih _ hs G β _ w W⟩
    |true=>
     simp only[dQ]
     have U:∀G β' v' w',eR P ops l anc N A S β₀ w₀ D₀ (λk=>L k\/k=i) G β' (a'.put o.dst v') w'->wpOpsIn (FW ro) 0 P ops Q rest (a'.put o.dst v') w':=λG β' v' w' W=>ih _ hs G β' _ w' W
     cases h:d.how with
     |light=>exact C.lightOp I X m t hw h _ Q U
     |whole=>exact C.whole I X m t hw h _ Q U
     |fresh=>exact C.freshOp I X m t hw h _ Q U
     |new=>exact C.newOp I X m t hw h _ Q U
   ·-- it panics
    rcases z with⟨hN,_⟩|⟨F,oN,c,u,s₁,fF,K,a,t⟩
    .exfalso
     have:j<l.length:=by
      rcases cP j l.length with h|h
      .exact h
      .rw[cU h]at hj;cases hj
     omega
    ·-- the operation that panics is a whole one
     have E:xZ ops.toList (A N) oN=true/\F.how=.whole/\∃s',eh P call oN (A N) {S N with prot:=xa ops.toList (A N) F.free++(S N).prot}=.panic c u s'/\s₁={next:=s'.next,bar:=(S N).bar,prot:=(S N).prot,heap:=s'.heap}:=by
      unfold yO at a
      split at a
      .rename_i hw
       split at a
       ·(repeat' split at a)<;>cases a
       .rename_i h
        split at a
        .cases a
        .rename_i c' a'' s' p
         cases a
         exact⟨hw,h,s',p,rfl⟩
        .cases a
       ·(repeat' split at a)<;>cases a
       ·(repeat' split at a)<;>cases a
      .cases a
     obtain⟨hw,h,s',p,D⟩:=E
     have H:j=N:=by
      rcases cP N j with hlt|hge
      .exfalso
       have hnl:¬L F.ix:=λhl=>by
        have:=I.before N F fF hl
        have:=I.leN
        omega
       have hp:=C.plan.pair N j F d hlt fF hj
       cases hb:(anc d.ix).testBit F.ix with
       |true=>rw[g]at hb;exact hnl (X.hanc _ hb)
       |false=>
        have:=(hp.2.2 hb).1
        rw[h]at this;cases this
      .omega
     subst H
     rw[hj]at fF;cases fF
     rw[g,ho]at K;cases K
     rw[<-C.wants I hj g (aN j) ho hn X.hanc,hw]
     simp only[dQ]
     subst t D
     have n:=C.relAt I X (aN j) (.inl I.leN)
     have q:=C.ext I I.leN (aN j) n
     have hfr:cC β (S j) s':=q.freeOf f
     refine wI C.hc (n.of_same (T:={S j with prot:=xa ops.toList (A j) d.free++(S j).prot}) rfl rfl n.ro) (C.operands I hj g (aN j) ho hn X.hanc) (by rw[p];simp) (by rw[p];exact hfr) _ Q (λv v' s'' β' w' he=>by rw[p]at he;cases he) (λch Y s'' β' w' he hx Z=>?_) ro
     rw[p]at he
     simp only[cg.panic.injEq]at he
     obtain⟨rfl,_,rfl⟩:=he
     have R:=bp.relax (s:=S j) (s₀:={S j with prot:=xa ops.toList (A j) d.free++(S j).prot}) rfl rfl (λb hb=>by
      unfold St.may at hb |-
      simp only[aF,bB,List.any_append,Bool.or_eq_false_iff]at hb |-
      exact⟨hb.1,hb.2.2⟩) rfl hx
     exact hQ _ _ _ ⟨Y,β',rfl,q.trans R f,Z,by rw[I.defers];exact J.ext (q.trans R f) f⟩
end
theorem zfw{P:Program}{lo:Nat}{call:FuncId->Array Value->St->aq}(B:P.follows .mixedOrders=true)(hc:JQ P call)(hk:∀f args s,WF s->(call f args s).keeps s){id:Nat}{ops:Array Oper}{l:List an}
 (y:Zt ops.toList l=true) (q:ops.toList.all (λo=>o.op.operands.toList.all k8)=true) {a:Fr} {a':Act} {s:St} {β:aS} {w:World} (h:bh P β s w) (hf:cv P β a a') (hm:ck lo β s w a'.defers) (ro:Option Nat)
 (G:wh P call ops.toList l a s≠.stuck) (g:(wh P call ops.toList l a s).free β s):(Code.region id ops true).wpIn (FW ro) 0 P (fE P lo β s w (wh P call ops.toList l a s)) a' w:=by
 obtain⟨anc,hp⟩:=Bv y
 obtain⟨N,A,S,L,M,z,p⟩:=zdD l a s G
 subst L M
 refine wpIn_region_draw λt=>?_
 have E:Region.schedule (P.follows .mixedOrders) ops t=Region.linearise .any ops t:=by
  unfold Region.schedule
  rw[B]
  simp
 rw[E]
 have H:WF (S 0):=⟨h.room,h.top⟩
 have F:=z.kp hk H N (aN N)
 have k:cC β (S 0) (S N):=by
  rcases p with⟨_,n⟩|⟨d,o,c,j,s₁,_,_,D,n⟩
  .rw[n]at g;exact g
  .rw[n]at g
   have:=ws (P:=P) hk F.wf ops.toList d o (A N)
   rw[D]at this
   have this:Kp (S N) s₁:=this
   exact cC.sub g this.next
 have C:dU P call ops l anc N A S β (drewW w) a':={
  hc:=hc
  hk:=hk
  plan:=hp
  chain:=z
  small:=hf.small
  rel:=h.drewW
  fr:=hf
  free:=k
  opsB:=λi o ho=>by
   rw[List.all_eq_true]at q
   exact q o (by rw[Array.mem_toList_iff];exact Array.mem_of_getElem? ho)}
 have I:eR P ops l anc N A S β (drewW w) a'.defers (λ_=>False) 0 β a' (drewW w):={
  closed:=λ_ _ _ hl=>hl.elim
  before:=λ_ _ _ hl=>hl.elim
  wholes:=λ_ _ _ _ hlt=>by omega
  leN:=cH _
  rel:=h.drewW
  le:=aS.le_refl β
  dom:=λb m hb=>.inl hb
  tsize:=hf.size
  defers:=rfl
  filled:=λ_ _ _ _ _ _ hl=>hl.elim
  old:=λt _ _=>hf.get t
  size:=aN _
  out:=λ_ _ _=>rfl
  fresh:=λb m h1 h2=>by rw[h2]at h1;cases h1
  os:=rfl
  output:=rfl
  tape:=rfl}
 refine C.sched (r:=wh P call ops.toList l (A 0) (S 0)) ?_ g _ (λe a₂ u ho=>?_) (D₀:=a'.defers) (ck.same (w:=w) (w':=drewW w) rfl hm) ro _ _ (QC ops (λi o ho e he hb=>(hp.edges i o ho e he hb).1) t) 0 β a' (drewW w) I
 .rcases p with⟨h1,h2⟩|⟨d,o,c,j,s₁,g1,g2,J,K⟩
  .exact .inl ⟨h1,h2⟩
  .exact .inr ⟨d,o,c,j,s₁,g1,g2,J,K⟩
 .have back:∀β' s',bp P β (S 0) (drewW w) β' s' u->bp P β (S 0) w β' s' u:=λβ' s' hx=>⟨hx.rel,hx.le,hx.dom,hx.next,hx.bar,hx.prot,hx.size,hx.out,hx.same,hx.dead,hx.fresh,hx.os,hx.output,hx.tape⟩
  cases n:wh P call ops.toList l (A 0) (S 0)with
  |normal j s₁=>rw[n]at ho;obtain⟨h1,β',h2,v,x⟩:=ho;exact⟨h1,β',back _ _ h2,v,x⟩
  |exit i j s₁=>rw[n]at ho;obtain⟨h1,β',h2,v,x⟩:=ho;exact⟨h1,β',back _ _ h2,v,x⟩
  |ret j s₁=>rw[n]at ho;obtain⟨h1,β',h2,v,x⟩:=ho;exact⟨h1,β',back _ _ h2,v,x⟩
  |panic c j s₁=>rw[n]at ho;obtain⟨c',β',h1,h2,v,x⟩:=ho;exact⟨c',β',h1,back _ _ h2,v,x⟩
  |stuck=>rw[n]at ho;exact ho
end Go.M
