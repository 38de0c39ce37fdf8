/- The evaluator: the state as a round finds it. -/
import Derived.Test.YtocnbjjmmgolfaaGreatA18
set_option linter.unusedSimpArgs false
set_option linter.unusedVariables false
set_option linter.unusedSectionVars false
namespace Go.Proofs.YtocnbjjmmgolfaaGreat
open Go Go.M Go.Proofs.C14
def tqS(Q:Qs):List (Option Nat)→Qs
 | []=>[]
 |some j::r=>Q.getD j (.slice none 0 0,0)::tqS Q r
 |none::r=>(.slice none 0 0,0)::tqS Q r
def toS(O:List (Option MObj)):List (Option Nat)→List (Option MObj)
 | []=>[]
 |some j::r=>O.getD j none::toS O r
 |none::r=>none::toS O r
def ge:List Ob→List (Option MObj)→List (Option MObj)
 | .dead::r,_::s=>none::ge r s
 |_::r,o::s=>o::ge r s
 |_,_=>[]
theorem QC{Q:Qs}:∀{l:List (Option Nat)},(tqS Q l).length=l.length
 | []=>rfl
 |some j::r=>by simp only[tqS,aW,QC]
 |none::r=>by simp only[tqS,aW,QC]
theorem QD{O:List (Option MObj)}:∀{l:List (Option Nat)},(toS O l).length=l.length
 | []=>rfl
 |some j::r=>by simp only[toS,aW,QD]
 |none::r=>by simp only[toS,aW,QD]
theorem Yr{Q:Qs}:∀{l:List (Option Nat)} {k:Nat} {j:Option Nat},l[k]? = some j→(tqS Q l)[k]? = some (match j with|some j=>Q.getD j (.slice none 0 0,0)|none=>(.slice none 0 0,0))
 |some j::r,0,_,h=>by cases h;rfl
 |none::r,0,_,h=>by cases h;rfl
 |some j::r,k+1,_,h=>Yr (l:=r) (k:=k) h
 |none::r,k+1,_,h=>Yr (l:=r) (k:=k) h
theorem Ys{O:List (Option MObj)}:∀{l:List (Option Nat)} {k:Nat} {j:Option Nat},l[k]? = some j→(toS O l)[k]? = some (match j with|some j=>O.getD j none|none=>none)
 |some j::r,0,_,h=>by cases h;rfl
 |none::r,0,_,h=>by cases h;rfl
 |some j::r,k+1,_,h=>Ys (l:=r) (k:=k) h
 |none::r,k+1,_,h=>Ys (l:=r) (k:=k) h
theorem WS:∀{a:List Ob} {O:List (Option MObj)},a.length≤O.length→(ge a O).length=a.length
 | [],O,_=>by cases O<;>rfl
 |b::r,[],h=>by simp at h
 |b::r,o::s,h=>by
  have:=WS (a:=r) (O:=s) (by simpa using h)
  cases b<;>simp only[ge,aW,this]
theorem WT:∀{a:List Ob} {O:List (Option MObj)} {i:Nat} {o:Option MObj},(ge a O)[i]? = some o→(a[i]? = some .dead∧o=none)∨(a[i]? ≠ some .dead∧O[i]? = some o)
 | [],O,i,o,h=>by cases O<;>cases h
 |b::r,[],i,o,h=>by cases b<;>cases h
 |b::r,p::s,0,o,h=>by cases b<;>cases h<;>first|exact .inl ⟨rfl,rfl⟩|exact .inr ⟨Y8,rfl⟩
 |b::r,p::s,i+1,o,h=>by
  have:(ge r s)[i]? = some o:=by cases b<;>exact h
  simpa only[cQ]using WT this
theorem jC:∀{l:List (Option Nat)} {k j:Nat},l[k]? = some (some j)→K4 j l=true
 |some i::r,0,j,h=>by cases h;simp[K4]
 |none::r,0,j,h=>by cases h
 |some i::r,k+1,j,h=>by simp only[K4,jC (l:=r) (k:=k) h,Bool.or_true]
 |none::r,k+1,j,h=>jC (l:=r) (k:=k) h
theorem ZK:∀{l:List (Option Nat)} {k k' j:Nat},ZL l=true→l[k]? = some (some j)→l[k']? = some (some j)→k=k'
 |some i::r,0,0,j,_,_,_=>rfl
 |some i::r,0,k'+1,j,h,h1,h2=>by
  cases h1
  simp only[ZL,aG,bC]at h
  rw[jC (l:=r) (k:=k') h2]at h
  cases h.1
 |some i::r,k+1,0,j,h,h1,h2=>by
  cases h2
  simp only[ZL,aG,bC]at h
  rw[jC (l:=r) (k:=k) h1]at h
  cases h.1
 |some i::r,k+1,k'+1,j,h,h1,h2=>by
  simp only[ZL,aG]at h
  rw[ZK (l:=r) (k:=k) (k':=k') h.2 h1 h2]
 |none::r,0,_,j,h,h1,h2=>by cases h1
 |none::r,k+1,0,j,h,h1,h2=>by cases h2
 |none::r,k+1,k'+1,j,h,h1,h2=>by rw[ZK (l:=r) (k:=k) (k':=k') h h1 h2]
theorem Zd{n:Nat}:∀{l:List (Option Nat)} {k j:Nat},W3 n l=true→l[k]? = some (some j)→n≤j
 |some i::r,0,j,h,h1=>by cases h1;simp only[W3,aG]at h;exact aR h.1
 |none::r,0,j,h,h1=>by cases h1
 |some i::r,k+1,j,h,h1=>by simp only[W3,aG]at h;exact Zd (l:=r) (k:=k) h.2 h1
 |none::r,k+1,j,h,h1=>Zd (l:=r) (k:=k) h h1
theorem zck{srcs:List (Option Nat)}{j:Nat}:∀{l:List (Nat×List LS)},objN srcs l=true→K4 j srcs=true→zcw j l=false
 | [],_,_=>rfl
 |(i,ls)::r,h,hj=>by
  simp only[objN,aG,bC]at h
  have a:=zck (l:=r) h.2 hj
  simp only[zcw,find]at a ⊢
  cases hb:Nat.beq i j with
  |true=>rw[aJ hb]at h;rw[hj]at h;cases h.1
  |false=>exact a
theorem zek{e:En}:∀{os:List OwnS} {srcs:List (Option Nat)} {a a':List Lf},zcb e os srcs=some a→RtL a a'→(X4 os a').length=srcs.length ∧
 ∀(k:Nat) j,srcs[k]? = some j→∃t w τ l,(X4 os a')[k]? = some (.list t w τ l)∧match j with
  |some j=>e.objs[j]? = some (.list t w τ l)
  |none=>l=[]∧τ.sz=w
 | [],[],a,a',h,ha=>by cases h;cases ha;exact⟨rfl,fun k j h=>by cases h⟩
 | [],_::_,a,a',h,ha=>by simp only[zcb]at h;cases h
 |_::_,[],a,a',h,ha=>by simp only[zcb]at h;cases h
 |o::os,none::srcs,a,a',h,ha=>by
  simp only[zcb]at h
  split at h
  ·next b hsz hb=>
   cases h
   cases ha with
   |cons h1 h2=>
    cases h1
    obtain⟨g1,g2⟩:=zek hb h2
    refine⟨by simp only[X4,aW,g1],fun k j hk=>?_⟩
    cases k with
    |zero=>cases hk;exact⟨_,_,_,_,rfl,rfl,aJ hsz⟩
    |succ k=>exact g2 k j hk
  ·cases h
 |o::os,some i::srcs,a,a',h,ha=>by
  simp only[zcb]at h
  split at h
  ·next t w τ l b c hb=>
   cases h
   rw[zJ]at c
   cases ha with
   |cons h1 h2=>
    cases h1
    obtain⟨g1,g2⟩:=zek hb h2
    refine⟨by simp only[X4,aW,g1],fun k j hk=>?_⟩
    cases k with
    |zero=>cases hk;exact⟨_,_,_,_,rfl,c⟩
    |succ k=>exact g2 k j hk
  ·cases h
section
variable{W:Wd}{s0 s:St}{C:Cx}{QL:Qs}{stk:List Fra}{e:En}{F:FF}{m:Nat}{Q:Qs}{O:List (Option MObj)}{L Φ:Hp'}
theorem zgq(G:GX QL W s0 s C stk e F m Q O L Φ){h:Hi}{C0:Cx}{skel:List Ob}{srcs:List (Option Nat)}{x:Tp h.ts}(hget:∀t p,e.get C0 t=some p→PvR (W.x Φ) Q p (F t))(hlen:skel.length=C.n)
 (T:∀(i:Nat) b,skel[i]? = some b→b=.dead∨(b=.const∧∀b' q o,C.objs[i]? = some b'→Q[i]? = some q→O[i]? = some o→ObjR (W.x Φ) (Q.take C.n) b' q o))
 (hsrc:∀(k j:Nat),srcs[k]? = some (some j)→skel[j]? ≠ some .const) (hn:zgr h C.n C.lent C0 e srcs=some x) :
 ∃Q' O',GX QL W s0 s C stk (mkE h C.n skel x) F m Q' O' L Φ:=by
 unfold zgr at hn
 split at hn
 ·next a b c ha hb hc=>
  split at hn
  ·next hck=>
   simp only[aG]at hck
   obtain⟨⟨hnd,hle⟩,hoN⟩:=hck
   have hR:=rdL_ok hn
   obtain⟨a',bc',hmk,hRa,hRbc⟩:=hR.split
   obtain⟨b',c',rfl,hRb,hRc⟩:=hRbc.split
   obtain⟨V,N⟩:=zek hc hRc
   have hcn:=G.cn
   have u:(Q.take C.n).length=C.n:=by rw[bU];omega
   have U:∀(k j:Nat),srcs[k]? = some (some j)→∃q o,Q[j]? = some q∧O[j]? = some o∧∃t w τ l,e.objs[j]? = some (.list t w τ l)∧ObjR (W.x Φ) Q (.list t w τ l) q o:=fun k j hk=>by
    obtain⟨t,w,τ,l,_,h2⟩:=N k _ hk
    simp only at h2
    have hj:j<Q.length:=by rw[←G.len];exact(aM.mp h2).1
    have d:=aE hj
    have ho:=aE (l:=O) (i:=j) (by rw[G.oq];exact hj)
    exact⟨_,_,d,ho,t,w,τ,l,h2,G.obj j _ _ _ h2 d ho⟩
   -- where things lie now
   have v:∀(i:Nat),i<C.n→(Q.take C.n++tqS Q srcs)[i]? = Q[i]? :=fun i hi=>by
    rw[bY (by rw[u];exact hi),List.getElem?_take,aF hi]
   have I:∀(k:Nat),(Q.take C.n++tqS Q srcs)[C.n+k]? = (tqS Q srcs)[k]? :=fun k=>by
    rw[List.getElem?_append_right (by rw[u];omega),u,eS]
   have hS:SrcR Q (Q.take C.n++tqS Q srcs) C.n srcs:=fun k j hk=>by
    rw[I,Yr hk]
    cases j with
    |none=>exact⟨_,rfl,⟨_,_,_,rfl⟩,rfl⟩
    |some j=>
     obtain⟨q,o,d,ho,t,w,τ,l,_,av,cap,hv,_⟩:=U k j hk
     refine⟨_,rfl,?_,q,d,?_⟩
     ·simp only[aC,d,bL];exact⟨_,_,_,hv⟩
     ·simp only[aC,d,bL]
   have hQQ:∀(i:Nat) q,i<C.n→Q[i]? = some q→(Q.take C.n++tqS Q srcs)[i]? = some q:=fun i q hi d=>by rw[v i hi];exact d
   obtain⟨hv1,hv2⟩:=zfR (rest:=b'++c') hQQ hS hget ha hRa
   obtain⟨ho1,ho2,R⟩:=zgo (sk:=skel) (rest:=c') hQQ hS (fun i b q o h0 h1 h2=>G.obj i b q o h0 h1 h2) hb hRb
   have hmkE:mkE h C.n skel x={slots:=(Vp C.n h.vars (a'++(b'++c'))).1,objs:=(X5 C.n h.objs skel (b'++c')).1++X4 h.own c'}:=by
    unfold mkE
    simp only[hmk,hv1,ho1]
   rw[hmkE]
   generalize hob:(X5 C.n h.objs skel (b'++c')).1=ob at ho2 R
   have g:ob.length=C.n:=ho2.trans hlen
   have P:(ge ob O).length=C.n:=by rw[WS (by rw[g,G.oq];exact hcn),g]
   have E:∀(i:Nat) o,i<C.n→(ge ob O++toS O srcs)[i]? = some o→(ob[i]? = some .dead∧o=none)∨(ob[i]? ≠ some .dead∧O[i]? = some o):=fun i o hi h=>by
    rw[bY (by rw[P];exact hi)]at h;exact WT h
   have S:∀(k:Nat),(ge ob O++toS O srcs)[C.n+k]? = (toS O srcs)[k]? :=fun k=>by
    rw[List.getElem?_append_right (by rw[P];omega),P,eS]
   -- every object: an old one,or one that was elsewhere
   have y:∀(i:Nat) q o,(Q.take C.n++tqS Q srcs)[i]? = some q→(ge ob O++toS O srcs)[i]? = some (some o) →
    (i<C.n∧ob[i]? ≠ some .dead∧Q[i]? = some q∧O[i]? = some (some o))∨∃k j,i=C.n+k∧srcs[k]? = some (some j)∧Q[j]? = some q∧O[j]? = some (some o):=fun i q o d ho=>by
    by_cases hi:i<C.n
    ·rw[v i hi]at d
     rcases E i _ hi ho with⟨_,h2⟩|⟨h1,h2⟩
     ·cases h2
     ·exact .inl ⟨hi,h1,d,h2⟩
    ·obtain⟨k,rfl⟩:∃k,i=C.n+k:=⟨i-C.n,by omega⟩
     rw[I]at d
     rw[S]at ho
     have hk:k<srcs.length:=by rw[←QD (O:=O)];exact(aM.mp ho).1
     have hj:=aE hk
     cases M:srcs[k]with
     |none=>rw[M]at hj;rw[Ys hj]at ho;cases ho
     |some j=>
      rw[M]at hj
      rw[Ys hj]at ho
      rw[Yr hj]at d
      obtain⟨X,o',B,A,_⟩:=U k j hj
      simp only[aC,B,bL,bF]at d
      simp only[aC,A,bL,bF]at ho
      subst d ho
      exact .inr ⟨k,j,rfl,hj,B,A⟩
   -- what was taken over is written off where it was
   have J:∀(k j:Nat),srcs[k]? = some (some j)→j<C.n→ob[j]? = some .dead:=fun k j hk hj=>by
    have h1:=aE (l:=ob) (i:=j) (by rw[g];exact hj)
    rcases R j _ h1 with h|⟨h,_⟩
    ·rcases T j _ h with h2|⟨h2,_⟩
     ·rw[h1,h2]
     ·rw[h2]at h;exact(hsrc k j hk h).elim
    ·rw[zck hoN (jC hk)]at h;cases h
   refine⟨Q.take C.n++tqS Q srcs,ge ob O++toS O srcs,?_⟩
   exact{
    K:=G.K,H:=G.H
    oq:=by rw[aQ,aQ,P,u,QD,QC]
    len:=by simp only[aQ,g,u,V,QC]
    cn:=by rw[aQ,u];omega
    ln:=G.ln
    pre:=fun i hi=>by rw[v i (by have:=G.ln;omega)];exact G.pre i hi
    fro:=G.fro
    own:=fun i q o d ho hi=>by
     rcases y i q o d ho with⟨h1,h2,r,D⟩|⟨k,j,rfl,h1,h2,r⟩
     ·exact G.own i q o r D hi
     ·exact G.own j q o h2 r (Zd hle h1)
    lent:=fun i q o d ho hi=>by
     rcases y i q o d ho with⟨h1,h2,r,D⟩|⟨k,j,rfl,h1,h2,r⟩
     ·exact G.lent i q o r D hi
     ·have:=G.ln;omega
    inj:=fun i i' q X o o' d B ho A he=>by
     rcases y i q o d ho with⟨h1,h2,r,D⟩|⟨k,j,rfl,h1,h2,r⟩<;>rcases y i' X o' B A with⟨g1,g2,Y,g4⟩|⟨k',j',rfl,g1,g2,Y⟩
     ·exact G.inj i i' q X o o' r Y D g4 he
     ·have:=G.inj i j' q X o o' r g2 D Y he
      subst this
      exact(h2 (J k' i g1 h1)).elim
     ·have:=G.inj j i' q X o o' h2 Y r g4 he
      subst this
      exact(g2 (J k j h1 g1)).elim
     ·have:=G.inj j j' q X o o' h2 g2 r Y he
      subst this
      rw[ZK hnd h1 g1]
    dis:=fun i q o p hi d ho hp=>by
     rcases y i q o d ho with⟨h1,h2,r,D⟩|⟨k,j,rfl,h1,h2,r⟩
     ·exact G.dis i q o p hi r D hp
     ·exact G.dis j q o p (Zd hle h1) h2 r hp
    obj:=fun i b1 q o hb1 d ho=>by
     by_cases hi:i<C.n
     ·rw[bY (by rw[g];exact hi)]at hb1
      rw[v i hi]at d
      rcases R i b1 hb1 with h|⟨h1,h2,r,D⟩
      ·rcases T i b1 h with rfl|⟨rfl,_⟩<;>trivial
      ·rcases E i _ hi ho with⟨Z,_⟩|⟨_,h6⟩
       ·rw[hb1]at Z;cases Z;exact(r rfl).elim
       ·exact D q o d h6
     ·obtain⟨k,rfl⟩:∃k,i=C.n+k:=⟨i-C.n,by omega⟩
      rw[List.getElem?_append_right (by rw[g];omega),g,eS]at hb1
      rw[I]at d
      rw[S]at ho
      have hk:k<srcs.length:=by rw[←V];exact(aM.mp hb1).1
      have hj:=aE hk
      obtain⟨t,w,τ,l,h1,h2⟩:=N k _ hj
      rw[h1]at hb1;cases hb1
      rw[Ys hj]at ho
      rw[Yr hj]at d
      cases M:srcs[k]with
      |none=>
       rw[M]at ho d h2
       cases ho;cases d
       simp only at h2
       obtain⟨rfl,hsz⟩:=h2
       exact⟨none,0,rfl,fun _=>rfl,OwnL.nil hsz⟩
      |some j=>
       rw[M]at ho d h2 hj
       obtain⟨X,o',B,A,t',w',τ',l',r,D⟩:=U k j hj
       simp only at h2
       rw[h2]at r;cases r
       simp only[aC,B,bL,bF]at d
       simp only[aC,A,bL,bF]at ho
       subst d ho
       exact D
    cob:=fun i b1 q o z hb1 d ho=>by
     have hi:i<C.n:=by
      by_cases hi:i<C.n
      ·exact hi
      ·obtain⟨k,rfl⟩:∃k,i=C.n+k:=⟨i-C.n,by omega⟩
       rw[List.getElem?_append_right (by rw[g];omega),g,eS]at z
       have hk:k<srcs.length:=by rw[←V];exact(aM.mp z).1
       obtain⟨t,w,τ,l,h1,h2⟩:=N k _ (aE hk)
       rw[h1]at z;cases z
     rw[bY (by rw[g];exact hi)]at z
     rw[v i hi]at d
     rw[List.take_append_of_le_length (by rw[u];exact aO _),List.take_take,Nat.min_self]
     rcases R i _ z with h|⟨_,h,_⟩
     ·rcases T i _ h with h|⟨_,h⟩
      ·cases h
      ·rcases E i _ hi ho with⟨Z,_⟩|⟨_,h6⟩
       ·rw[z]at Z;cases Z
       ·exact h b1 q o hb1 d h6
     ·exact(h rfl).elim
    slots:=hv2
    cslots:=by rw[List.take_append_of_le_length (by rw[u];exact aO _),List.take_take,Nat.min_self];exact G.cslots
    stk:=fun f hf=>by
     obtain⟨h1,h2⟩:=G.stk f hf
     rw[List.take_append_of_le_length (by rw[u];exact h1),List.take_take,Nat.min_eq_left h1]
     exact⟨h1,h2⟩}
  ·cases hn
 ·cases hn
end
section
variable{W:Wd}{s0 s:St}{C:Cx}{QL:Qs}{stk:List Fra}{e:En}{F:FF}{m:Nat}{Q:Qs}{O:List (Option MObj)}{L Φ:Hp'}
theorem GX.push(G:GX QL W s0 s C stk e F m Q O L Φ){f:Fra}(h1:f.n≤C.n)(h2:SvF (W.x Φ) (Q.take f.n) f.slots f.F)(a:f.psi⊆Φ):GX QL W s0 s C (f::stk) e F m Q O L Φ:=
 {G with
  stk:=fun g hg=>by
   rcases aL.mp hg with rfl|hg
   ·exact⟨h1,h2,a⟩
   ·exact G.stk g hg}
theorem GX.pop{f:Fra}(G:GX QL W s0 s C (f::stk) e F m Q O L Φ):GX QL W s0 s C stk e F m Q O L Φ:=
 {G with stk:=fun g hg=>G.stk g (aN _ hg)}
def zcV(b:Nat)(Φ:Hp'):Hp':=Φ.filter fun p=> !Nat.beq p.1 b
theorem mem_cutB{b:Nat}{Φ:Hp'}{p:Nat×MObj}:p∈zcV b Φ↔p∈Φ∧p.1≠b:=by
 unfold zcV
 rw[List.mem_filter]
 simp only[bC,cL,ne_eq,Nat.beq_eq]
theorem JG{lp:Lp}{b:Nat}(a:∀p,p∈Φ→p.1=b→p.2=.loop lp){Ψ:Hp'}(hΨ:zcV b Φ⊆Ψ):WLe (W.x Φ) (W.x Ψ):=by
 have key:∀{b' c t},(b',MObj.cells c t)∈Φ→(b',MObj.cells c t)∈Ψ:=fun{b' c t} h=>hΨ (mem_cutB.mpr ⟨h,fun e=>by have:=a _ h e;cases this⟩)
 constructor
 ·intro t w v l h
  refine h.imp id fun h=>?_
  cases h with
  |nil c hv hl=>exact .nil c hv hl
  |block b' off cap c hv hg hcap hc=>exact .block b' off cap c hv (key hg) hcap hc
theorem GX.only(G:GX QL W s0 s C stk e F m Q O L Φ){b:Nat}{o:MObj}(h:(b,o)∈Φ):∀p,p∈Φ→p.1=b→p.2=o:=fun p hp e=>by
 have h1:=(G.H.own _ (G.fro h)).1
 have h2:=(G.H.own _ (G.fro hp)).1
 simp only at h1
 rw[e]at h2
 rw[h1]at h2
 exact(cR h2).symm
theorem GX.reput(G:GX QL W s0 s C stk e F m Q O L Φ)(t:s0.next+m≤zw){b:Nat}{lp lp':Lp}(hb:(b,MObj.loop lp)∈Φ){stk':List Fra}(r:∀f,f∈stk'→∃g,g∈stk∧f.n=g.n∧f.slots=g.slots∧f.F=g.F∧∀p,p∈f.psi→p=(b,.loop lp')∨p∈g.psi∧p.1≠b) :
 ∃u,GX QL W s0 (s.put b (some (.loop lp'))) C stk' e F m Q O u ((b,.loop lp')::zcV b Φ):=by
 have a:=G.fro hb
 obtain⟨A,B,rfl⟩:=dZ a
 have k:WLe (W.x Φ) (W.x ((b,.loop lp')::zcV b Φ)):=JG (G.only hb) fun p hp=>aN _ hp
 have c:=G.H.own _ a
 have hge:s0.next≤b:=by rcases c.2.2.2 with h|h;exact h;cases h
 have hlt:b<s.next:=c.2.1
 have hmost:=G.H.most
 have j:∀p,p∈A++(b,.loop lp)::B→p.1≠b→p∈A++(b,.loop lp')::B:=fun p hp d=>by
  rcases aU.mp hp with h|h
  ·exact cE _ h
  ·rcases aL.mp h with rfl|h
   ·exact(d rfl).elim
   ·exact bE _ (aN _ h)
 refine⟨A++(b,.loop lp')::B,?_⟩
 exact{G with
  H:=G.H.putAt A _ t
  fro:=fun p hp=>by
   rcases aL.mp hp with rfl|hp
   ·exact bE _ (aP ..)
   ·exact j p (G.fro (mem_cutB.mp hp).1) (mem_cutB.mp hp).2
  own:=fun i q o h1 h2 hi=>j _ (G.own i q o h1 h2 hi) fun e=>G.dis i q o _ hi h1 h2 hb e.symm
  lent:=fun i q o h1 h2 hi=>by
   obtain⟨g1,g2⟩:=G.lent i q o h1 h2 hi
   exact⟨by rw[St.get_put (by unfold zw at t;omega),aD Oz];exact g1,g2⟩
  dis:=fun i q o p hi h1 h2 hp=>by
   rcases aL.mp hp with rfl|hp
   ·exact fun e=>G.dis i q o _ hi h1 h2 hb e
   ·exact G.dis i q o p hi h1 h2 (mem_cutB.mp hp).1
  obj:=fun i b q o h0 h1 h2=>(G.obj i b q o h0 h1 h2).mono k QLe.rfl
  cob:=fun i b q o h0 l h1 h2=>(G.cob i b q o h0 l h1 h2).mono k QLe.rfl
  slots:=G.slots.mono k QLe.rfl
  cslots:=G.cslots.mono k QLe.rfl
  stk:=fun f hf=>by
   obtain⟨g,hg,e1,e2,v,w⟩:=r f hf
   obtain⟨g1,g2,y⟩:=G.stk g hg
   rw[e1,e2,v]
   refine⟨g1,g2.mono k QLe.rfl,fun p hp=>?_⟩
   rcases w p hp with rfl|⟨h,d⟩
   ·exact aP ..
   ·exact aN _ (mem_cutB.mpr ⟨y h,d⟩)}
theorem GX.show(G:GX QL W s0 s C stk e F m Q O L Φ){b j:Nat}{lp:Lp}{q:Value×Nat}(hb:(b,MObj.loop lp)∈Φ)(o:Q[j]? = some q)(z:q.2=b)(hj:C.lent≤j){ob:Ob}(A:∀f,f∈stk→∀p,p∈f.psi→p.1≠b)
 (y:∀W',WLe (W.x Φ) W'→ObjR W' Q ob q (some (.loop lp))) (w:ob=.const→∀b',C.objs[j]? = some b'→∀W',WLe (W.x Φ) W'→ObjR W' (Q.take C.n) b' q (some (.loop lp))) :
 GX QL W s0 s C stk (e.setO j ob) F m Q (zE O j (some (.loop lp))) L (zcV b Φ):=by
 subst z
 have r:WLe (W.x Φ) (W.x (zcV q.2 Φ)):=JG (G.only hb) fun p hp=>hp
 have u:j<Q.length:=(aM.mp o).1
 have l:∀(i:Nat) a,(zE O j (some (.loop lp)))[i]? = some a→(i=j∧a=some (.loop lp))∨(i≠j∧O[i]? = some a):=fun i a h=>by
  rw[xY]at h
  split at h
  ·next h1=>cases h;exact .inl ⟨h1.1,rfl⟩
  ·next h1=>
   refine .inr ⟨fun e=>?_,h⟩
   subst e
   exact h1 ⟨rfl,by rw[G.oq];exact u⟩
 have E:∀(i:Nat) b',(zE e.objs j ob)[i]? = some b'→(i=j∧b'=ob)∨(i≠j∧e.objs[i]? = some b'):=fun i b' h=>by
  rw[xY]at h
  split at h
  ·next h1=>cases h;exact .inl ⟨h1.1,rfl⟩
  ·next h1=>
   refine .inr ⟨fun K=>?_,h⟩
   subst K
   exact h1 ⟨rfl,by rw[G.len];exact u⟩
 exact{G with
  oq:=by rw[yE];exact G.oq
  len:=by simp only[En.setO,yE];exact G.len
  fro:=fun p hp=>G.fro (mem_cutB.mp hp).1
  own:=fun i c a h1 h2 hi=>by
   rcases l i _ h2 with⟨rfl,h⟩|⟨d,h⟩
   ·cases h;rw[o]at h1;cases h1;exact G.fro hb
   ·exact G.own i c a h1 h hi
  lent:=fun i c a h1 h2 hi=>by
   rcases l i _ h2 with⟨rfl,h⟩|⟨d,h⟩
   ·omega
   ·exact G.lent i c a h1 h hi
  inj:=fun B D c J a I h1 h2 M N he=>by
   have key:∀(i:Nat) c a,Q[i]? = some c→O[i]? = some (some a)→c.2≠q.2:=fun i c a h1 h2 he=>by
    by_cases hi:C.lent≤i
    ·exact G.dis i c a _ hi h1 h2 hb he.symm
    ·have g1:=(G.lent i c a h1 h2 Oz).2
     rcases(G.H.own _ (G.fro hb)).2.2.2 with h|h
     ·simp only at h;omega
     ·cases h
   rcases l B _ M with⟨rfl,h⟩|⟨d,h⟩<;>rcases l D _ N with⟨g,k⟩|⟨g,k⟩
   ·exact g.symm
   ·rw[o]at h1;cases h1;exact(key D J I h2 k he.symm).elim
   ·subst g;rw[o]at h2;cases h2;exact(key B c a h1 h he).elim
   ·exact G.inj B D c J a I h1 h2 h k he
  dis:=fun i c a p hi h1 h2 hp=>by
   rcases l i _ h2 with⟨rfl,h⟩|⟨d,h⟩
   ·rw[o]at h1;cases h1;exact(mem_cutB.mp hp).2
   ·exact G.dis i c a p hi h1 h (mem_cutB.mp hp).1
  obj:=fun i v c a h0 h1 h2=>by
   rcases E i _ h0 with⟨rfl,rfl⟩|⟨d,h0⟩<;>rcases l i _ h2 with⟨g,k⟩|⟨g,k⟩
   ·subst k;rw[o]at h1;cases h1;exact y _ r
   ·exact(g rfl).elim
   ·exact(d g).elim
   ·exact(G.obj i v c a h0 h1 k).mono r QLe.rfl
  cob:=fun i v c a h0 t h1 h2=>by
   rcases E i _ h0 with⟨rfl,P⟩|⟨d,h0⟩<;>rcases l i _ h2 with⟨g,k⟩|⟨g,k⟩
   ·subst k;rw[o]at h1;cases h1;exact w P.symm v t _ r
   ·exact(g rfl).elim
   ·exact(d g).elim
   ·exact(G.cob i v c a h0 t h1 k).mono r QLe.rfl
  slots:=G.slots.mono r QLe.rfl
  cslots:=G.cslots.mono r QLe.rfl
  stk:=fun f hf=>⟨(G.stk f hf).1,(G.stk f hf).2.1.mono r QLe.rfl,fun p hp=>mem_cutB.mpr ⟨(G.stk f hf).2.2 hp,A f hf p hp⟩⟩}
end
theorem JJ:∀{a c:List Ob},(unO a c).length=c.length
 | [],[]=>rfl
 |_::_,[]=>rfl
 |o::r,c::s=>by simp only[unO,aW,JJ]
 | [],c::s=>by simp only[unO,aW,JJ]
theorem QA:∀{a c:List Ob} {i:Nat} {b:Ob},(unO a c)[i]? = some b→(c[i]? = some .const∧(a[i]? = some b∨b=.dead))∨(c[i]? = some b∧b≠.const)
 | [],[],i,b,h=>by cases h
 |_::_,[],i,b,h=>by cases h
 |o::r,c::s,0,b,h=>by
  cases c<;>cases h<;>first|exact .inl ⟨rfl,.inl rfl⟩|exact .inr ⟨rfl,(fun h=>nomatch h)⟩
 | [],c::s,0,b,h=>by
  cases c<;>cases h<;>first|exact .inl ⟨rfl,.inr rfl⟩|exact .inr ⟨rfl,(fun h=>nomatch h)⟩
 |o::r,c::s,i+1,b,h=>by simpa only[cQ]using QA (a:=r) (c:=s) (i:=i) h
 | [],c::s,i+1,b,h=>by
  rcases QA (a:=[]) (c:=s) (i:=i) h with⟨h1,h2⟩|h
  ·exact .inl ⟨h1,h2.imp (fun h=>by cases h) id⟩
  ·exact .inr h
theorem Jo:∀{a c:List Ob} {i:Nat} {b:Ob},a[i]? = some b→b≠.const→(gG a c)[i]? = some b
 |o::r,[],i,b,h,_=>by cases o<;>exact h
 |o::r,d::s,0,b,h,hb=>by cases h;cases o<;>first|rfl|exact(hb rfl).elim
 |o::r,d::s,i+1,b,h,hb=>by
  have:=Jo (a:=r) (c:=s) (i:=i) h hb
  cases o<;>exact this
theorem Xc{h:Hi}{srcs:List (Option Nat)}:∀{l:List Ob} {n:Nat},(Zr h srcs l n).length=l.length
 | [],_=>rfl
 |_::l,n=>by simp only[Zr,aW,Xc]
theorem WA{h:Hi}{srcs:List (Option Nat)}:∀{l:List Ob} {n i:Nat} {b:Ob},(Zr h srcs l n)[i]? = some b→b=.dead∨(b=.const∧K4 (n+i) srcs=false)
 |o::l,n,0,b,hb=>by
  simp only[Zr,eP,bF]at hb
  subst hb
  split
  ·exact .inl rfl
  ·split
   ·exact .inl rfl
   ·next a=>
    split
    ·exact .inl rfl
    ·exact .inr ⟨rfl,a⟩
 |o::l,n,i+1,b,hb=>by
  have:=WA (l:=l) (n:=n+1) (i:=i) hb
  rw[show n+1+i=n+(i+1)by omega]at this
  exact this
theorem Xe:∀{a c:List Ob} {i:Nat},XP a c=true→a[i]? = some .const→c[i]? = some .const
 |p::r,o::s,0,h,h1=>by
  cases h1
  simp only[XP,kM,eJ,Bool.false_or,aG]at h
  cases o<;>first|rfl|(simp[kM]at h)
 |p::r,o::s,i+1,h,h1=>by
  simp only[XP,aG]at h
  exact Xe (a:=r) (c:=s) (i:=i) h.2 h1
 |p::r,[],0,h,h1=>by cases h1;simp[XP,kM]at h
 |p::r,[],i+1,h,h1=>by
  simp only[XP,aG]at h
  have:=Xe (a:=r) (c:=[]) (i:=i) h.2 h1
  cases this
theorem Kr{skel:List Ob}:∀{l:List (Option Nat)} {k j:Nat},srcB skel l=true→l[k]? = some (some j)→skel[j]? ≠ some .const
 |some i::r,0,j,h,h1=>by
  cases h1
  simp only[srcB,aG,zJ]at h
  intro he
  rw[he]at h
  cases h.1
 |none::r,0,j,h,h1=>by cases h1
 |some i::r,k+1,j,h,h1=>by
  simp only[srcB,aG]at h
  exact Kr (l:=r) (k:=k) h.2 h1
 |none::r,k+1,j,h,h1=>Kr (l:=r) (k:=k) h h1
theorem VD{C:Cx}{e:En}:∀{l:List Nat} {p:Nat×Pv},p∈XC C e l→p∈e.slots
 |t::r,p,h=>by
  simp only[XC]at h
  split at h
  ·next v hv=>
   rcases aL.mp h with rfl|h
   ·exact Vn hv
   ·exact VD h
  ·exact VD h
section
variable{W:Wd}{s0 s:St}{C:Cx}{QL:Qs}{stk:List Fra}{e:En}{F:FF}{m:Nat}{Q:Qs}{O:List (Option MObj)}{L Φ:Hp'}
theorem zgL{l:List Nat}:∀{e a:En} {O:List (Option MObj)} {Φ:Hp'},GX QL W s0 s C stk e F m Q O L Φ→frzS C e l=some a→∃b Φ',GX QL W s0 s C stk a F m Q b L Φ':=by
 induction l with
 |nil=>intro e a O Φ G h;cases h;exact⟨_,_,G⟩
 |cons t l d=>
  intro e a O Φ G h
  simp only[frzS]at h
  split at h
  ·split at h
   ·next e1 h1=>
    obtain⟨b,Φ',c⟩:=G.frzP h1
    exact d c h
   ·cases h
  ·cases h
abbrev cxL(C:Cx)(e:En)(cst:List (Nat×Pv)):Cx:={slots:=cst++C.slots,objs:=gG e.objs C.objs,n:=yD e.objs 0,lent:=C.lent}
theorem GX.inLoop(G:GX QL W s0 s C stk e F m Q O L Φ){l:List Nat}:GX QL W s0 s (cxL C e (XC C e l)) stk e F m Q O L Φ:=by
 have hn:yD e.objs 0=Q.length:=by rw[yd,bK,G.len]
 exact{G with
  cn:=by simp only[hn];exact aO _
  ln:=by simp only[hn];exact bH G.ln G.cn
  cob:=fun i b q o h0 a h1 h2=>by
   simp only[hn,aY]
   rcases gE a with⟨c,d⟩|c
   ·exact(G.cob i b q o c d h1 h2).mono WLe.rfl QLe.take
   ·exact G.obj i b q o c h1 h2
  cslots:=fun p hp=>by
   simp only[hn,aY]
   rcases aU.mp hp with h|h
   ·exact G.slots p (VD h)
   ·exact(G.cslots p h).mono WLe.rfl QLe.take
  stk:=fun f hf=>⟨by simp only[hn];exact bH (G.stk f hf).1 G.cn,(G.stk f hf).2⟩}
theorem GX.leave{s1:St}{e1:En}{g:FF}{m1:Nat}{n:Qs}{k:List (Option MObj)}{j Φ1:Hp'}{l:List Nat}(G:GX QL W s0 s C stk e F m Q O L Φ)(G1:GX QL W s0 s1 (cxL C e (XC C e l)) stk e1 g m1 n k j Φ1) :
 GX QL W s0 s1 C stk (En.leave (XC C e l) e.objs e1) g m1 n k j Φ1:=by
 have hn:yD e.objs 0=Q.length:=by rw[yd,bK,G.len]
 exact{G1 with
  len:=by simp only[En.leave,JJ];exact G1.len
  cn:=by have h1:=G1.cn;have h2:=G.cn;simp only at h1;omega
  ln:=G.ln
  obj:=fun i b q o h0 h1 h2=>by
   rcases QA h0 with⟨c,a|a⟩|⟨c,a⟩
   ·by_cases hb:b=.const
    ·subst hb;trivial
    ·exact(G1.cob i b q o c (Jo a hb) h1 h2).mono WLe.rfl QLe.take
   ·subst a;trivial
   ·exact G1.obj i b q o c h1 h2
  cob:=fun i b q o h0 d h1 h2=>by
   rcases QA h0 with⟨c,a|a⟩|⟨c,a⟩
   ·have r:=G1.cob i b q o c (ZY a d) h1 h2
    have hi:i<Q.length:=by rw[←G.len];exact(aM.mp a).1
    have t:=G.cob i b _ _ a d (aE hi) (aE (by rw[G.oq];exact hi))
    exact ObjR.back t (r.mono WLe.rfl QLe.take)
   ·cases a
   ·exact(a rfl).elim
  slots:=fun p hp=>by
   rcases aU.mp hp with h|h
   ·exact G1.slots p h
   ·exact(G1.cslots p (cE _ h)).mono WLe.rfl QLe.take
  cslots:=fun p hp=>PvR.back (G.cslots p hp) ((G1.cslots p (bE _ hp)).mono WLe.rfl QLe.take)
  stk:=fun f hf=>⟨(G.stk f hf).1,(G1.stk f hf).2⟩}
end
theorem Jb{ρ:Type}{w:En→En}:∀{a:List (Nat×(En→Option ρ))} {i:Nat} {k:En→Option ρ},find (outK w a) i=some k→∃k',find a i=some k'∧k=fun e=>k' (w e)
 |(j,b)::r,i,k,h=>by
  simp only[outK,find]at h ⊢
  split at h
  ·next hb=>cases h;exact⟨b,rfl,rfl⟩
  ·next hb=>exact Jb h
section
variable{I:zU}{Γ:TypeId→Option Ty}{T:FuncId→Option Con}{ρ:Type}{inl:Inl ρ}{rc:Nat}{W:Wd}{s0:St}{QL:Qs}{stk:List Fra}
theorem zaM(hI:zH I)(hT:Qz I T)(hin:∀W s0,Qi I W s0 inl rc){r:ρ}{N:Nat}(c:Code):∀{C:Cx} {hs:List Hi} {S:List (Nat×(En→Option ρ))} {R k:En→Option ρ} {e:En} {F:FF} {s:St} {m:Nat} {P:FOut→Prop},k8 QL W s0 s C stk e F m →
 qV Γ T inl rc N c C hs S R k e=some r→s0.next+(m+xV T rc c hs)≤zw →
 (∀B A s' z,z≤m+xV T rc c hs→k8 QL W s0 s' C stk B A z→k B=some r→P (.normal A s')) →
 (∀i U,find S i=some U→∀B A s' z,z≤m+xV T rc c hs→k8 QL W s0 s' C stk B A z→U B=some r→P (.exit i A s')) →
 (∀B A s' z,z≤m+xV T rc c hs→k8 QL W s0 s' C stk B A z→R B=some r→P (.ret A s'))→CodeW Tryz.prog I N c F s P:=by
 induction c with
 |skip=>
  intro C hs S R k e F s m P G h J hk hx E
  exact hk e F s m (Nat.le_add_right ..) G h
 |label i=>
  intro C hs S R k e F s m P G h J hk hx E
  unfold qV at h
  exact⟨.normal F s,hk e F s m (Nat.le_add_right ..) G h,1,fun m hm=>by obtain⟨m,rfl⟩:∃k,m=k+1:=⟨m-1,by omega⟩;rfl⟩
 |exit i=>
  intro C hs S R k e F s m P G h J hk hx E
  unfold qV at h
  split at h
  ·next U D=>exact hx i U D e F s m (Nat.le_add_right ..) G h
  ·cases h
 |ret=>
  intro C hs S R k e F s m P G h J hk hx E
  exact E e F s m (Nat.le_add_right ..) G h
 |scope b ih=>
  intro C hs S R k e F s m P G h J hk hx E
  unfold qV at h
  exact ih (P:=P) G h J hk hx E
 |seq x y ihx ihy=>
  intro C hs S R k e F s m P G h J hk hx E
  unfold qV at h
  simp only[xV]at J hk hx E
  refine ihx (P:=seqK (fun F s=>CodeW Tryz.prog I N y F s P) P) G h Oz ?_ ?_ ?_
  ·intro B A s' z hm G' M
   exact ihy G' M Oz (fun u F'' w a d=>hk u F'' w a Oz) (fun i U D u F'' w a d=>hx i U D u F'' w a Oz) (fun u F'' w a d=>E u F'' w a Oz)
  ·intro i U D B A s' z hm
   exact hx i U D B A s' z Oz
  ·intro B A s' z hm
   exact E B A s' z Oz
 |cond c x y ihx ihy=>
  intro C hs S R k e F s m P G h J hk hx E
  unfold qV at h
  simp only[xV]at J hk hx E
  obtain⟨Q,O,L,Φ,G⟩:=G
  split at h
  ·next b hb=>
   have hc:zd F c=.bool b:=(List.cons.inj (show [zd F c]=[Value.bool b]from G.ev hb)).1
   split at h
   ·next hbt=>
    subst hbt
    exact yN hc (ihx (G.mark hb).good h Oz (fun u F'' w a d=>hk u F'' w a Oz) (fun i U D u F'' w a d=>hx i U D u F'' w a Oz) (fun u F'' w a d=>E u F'' w a Oz))
   ·next hbf=>
    obtain rfl:b=false:=by simpa using hbf
    exact ye hc (ihy (G.mark hb).good h Oz (fun u F'' w a d=>hk u F'' w a Oz) (fun i U D u F'' w a d=>hx i U D u F'' w a Oz) (fun u F'' w a d=>E u F'' w a Oz))
  ·cases h
 |block i b ih=>
  intro C hs S R k e F s m P G h J hk hx E
  unfold qV at h
  refine ih (P:=vn i P) G h J hk ?_ E
  intro j kj hkj B A s' z hm G' M
  simp only[find]at hkj
  simp only[vn]
  rw[show Nat.beq i j=Nat.beq j i from Bool.eq_iff_iff.mpr (by simp only[Nat.beq_eq];exact eq_comm)]at hkj
  split at hkj
  ·next hb=>cases hkj;rw[hb];exact hk B A s' z hm G' M
  ·next hb=>rw[hb];exact hx j kj hkj B A s' z hm G' M
 |region id ops dr=>
  intro C hs S R k e F s m P G h J hk hx E
  cases dr with
  |false=>
   unfold qV at h
   simp only[xV]at J hk
   exact zQ (zem hI hT (hin W s0) G h J hk)
  |true=>
   unfold qV at h
   simp only[xV]at J hk
   split at h
   ·next hp=>exact uv _ hp rfl (qv hI hT hin G h J hk)
   ·cases h
 |loop b ih=>
  intro C hs S R k e F s m P G h J hk hx E
  unfold qV at h
  split at h
  ·next hd hs=>
   simp only[xV]at J hx E
   split at h
   ·-- round by round
    have key:∀(n:Nat) (e:En) (F:FF) (s:St) (z:Nat),z+n*xV T rc b hs≤m+hd.fuel*xV T rc b hs→k8 QL W s0 s C stk e F z→zj (fun again e=>qV Γ T inl rc N b C hs S R again e) n e=some r→CodeW Tryz.prog I N (.loop b) F s P:=by
     intro n
     induction n with
     |zero=>intro e F s z _ _ h;cases h
     |succ n ihn=>
      intro e F s z hm G h
      have hmul:(n+1)*xV T rc b hs=n*xV T rc b hs+xV T rc b hs:=by rw[dM,dQ]
      rw[hmul]at hm
      refine XA (ih (P:=zed Tryz.prog I N b.loop P) G h Oz ?_ ?_ ?_)
      ·intro B A s' a d G' M;exact ihn B A s' a Oz G' M
      ·intro i U D B A s' a d G' M;exact hx i U D B A s' a Oz G' M
      ·intro B A s' a d G' M;exact E B A s' a Oz G' M
    exact key hd.fuel e F s m Oz G h
   unfold loopK at h
   split at h
   ·next K he0=>
    obtain⟨Q,O,L,Φ,G⟩:=G
    obtain⟨O0,Φ0,G0⟩:=zgL G he0
    split at h
    ·next srcs hsrcs=>
     simp only at h
     split at h
     ·next x hx0=>
      have hn:yD K.objs 0=Q.length:=by rw[yd,bK,G0.len]
      have G1:=G0.inLoop (l:=hd.cst)
      have X:∀(i:Nat) b,(Zr hd srcs K.objs 0)[i]? = some b→b=.dead∨(b=.const∧K4 i srcs=false):=fun i b hb=>by
       have:=WA hb;rwa[cA]at this
      obtain⟨Q1,O1,G2⟩:=zgq (skel:=Zr hd srcs K.objs 0) G1 (C0:=C) (fun t p hp=>G0.ev (x:=.tmp t) hp) (by simp only[Xc,yd,bK])
       (fun i b hb=>(X i b hb).imp_right fun h=>⟨h.1,fun b' q o h1 h2 h3=>by
        simp only at h1 ⊢
        rw[hn,aY]
        rcases gE h1 with⟨h4,h5⟩|h4
        ·exact(G0.cob i b' q o h4 h5 h2 h3).mono WLe.rfl QLe.take
        ·exact G0.obj i b' q o h4 h2 h3⟩)
       (fun k j hk hc=>by
        rcases X j _ hc with h|⟨_,h⟩
        ·cases h
        ·rw[jC hk]at h;cases h) hx0
      have hlen:(Zr hd srcs K.objs 0).length=yD K.objs 0:=by rw[Xc,yd,bK]
      generalize hsk:Zr hd srcs K.objs 0=skel at h X G2 hlen
      rw[zC]at h
      -- the rounds
      have key:∀(n:Nat) (x:Tp hd.ts) (F:FF) (s:St) (z:Nat),z+n*xV T rc b hs≤m+hd.fuel*xV T rc b hs→k8 QL W s0 s (cxL C K (XC C K hd.cst)) stk (mkE hd (yD K.objs 0) skel x) F z →
       zj (fun again x=>qV Γ T inl rc N b (cxL C K (XC C K hd.cst)) hs (outK (En.leave (XC C K hd.cst) K.objs) S) (fun e=>R (En.leave (XC C K hd.cst) K.objs e)) (fun B=>match backK hd (cxL C K (XC C K hd.cst)) skel B with
        |some y=>again y
        |none=>none) (mkE hd (yD K.objs 0) skel x)) n x=some r→CodeW Tryz.prog I N (.loop b) F s P:=by
       intro n
       induction n with
       |zero=>intro x F s z _ _ h;cases h
       |succ n ihn=>
        intro x F s z hm G h
        have hmul:(n+1)*xV T rc b hs=n*xV T rc b hs+xV T rc b hs:=by rw[dM,dQ]
        rw[hmul]at hm
        refine XA (ih (P:=zed Tryz.prog I N b.loop P) G h Oz ?_ ?_ ?_)
        ·intro B A s' a d G' M
         obtain⟨Q',O',L',Φ',G'⟩:=G'
         split at M
         ·next y hy=>
          unfold backK at hy
          split at hy
          ·next e1 he1=>
           obtain⟨O'',Φ'',G'⟩:=zgL G' he1
           split at hy
           ·next srcs' hsrcs'=>
            split at hy
            ·next Y=>
             simp only[aG]at Y
             obtain⟨Q2,O2,G3⟩:=zgq (skel:=skel) G' (fun t p hp=>G'.ev (x:=.tmp t) hp) hlen
              (fun i b hb=>(X i b hb).imp_right fun h=>⟨h.1,fun b' q o h1 h2 h3=>G'.cob i b' q o (Xe Y.1 (by rw[hb,h.1])) h1 h2 h3⟩)
              (fun k j hk=>Kr Y.2 hk) hy
             exact ihn y A s' a Oz G3.good M
            ·cases hy
           ·cases hy
          ·cases hy
         ·cases M
        ·intro i U D B A s' a d G' M
         obtain⟨Q',O',L',Φ',G'⟩:=G'
         obtain⟨k',Z,rfl⟩:=Jb D
         exact hx i k' Z _ A s' a Oz (G0.leave G').good M
        ·intro B A s' a d G' M
         obtain⟨Q',O',L',Φ',G'⟩:=G'
         exact E _ A s' a Oz (G0.leave G').good M
      exact key hd.fuel x F s m Oz G2.good h
     ·cases h
    ·cases h
   ·cases h
  ·cases h
 |rangeFunc f ps x y=>
  intro C hs S R k e F s m P G h J hk hx E
  unfold qV at h
  simp only[xV]at J hk E
  obtain⟨Q,O,L,Φ,G⟩:=G
  split at h
  ·next g caps hf=>
   split at h
   ·next Y=>
    rw[aG,aG,aG (Nat.ble N 65534&&Yt N f),aG (Nat.ble N 65534),aG (q7 N x),aG (xH Tryz.prog g && !Nat.ble zu g),aG (xH Tryz.prog g)]at Y
    obtain⟨⟨⟨⟨hfun,V⟩,hw⟩,⟨⟨hN,htmp⟩,hnx,hny⟩⟩,hcode⟩:=Y
    have V:Nat.ble zu g=false:=by simpa using V
    obtain⟨cs,hff,hcs⟩:=G.ev hf
    have hm:=G.H.most
    have hol:yD e.objs 0=e.objs.length:=by rw[yd,bK]
    rw[hol]at h
    have hlen:=G.len
    refine cw_range (aR hN) hff hfun rfl (G.H.room Oz) htmp (fun fr ha=>?_) V
    have G1:=G.new (v:=undef) Oz (o:=.loop {fr:=fr,params:=ps.toList,assign:=x,body:=y,state:=.ready,pend:=none}) (b:=.loop N (e.slots++C.slots) ps.toList x y .ready none)
     ⟨⟨hcode,hnx,hny⟩,fr,F,rfl,ha,fun p hp=>by
      rcases aU.mp hp with h|h
      ·exact(G.slots p h).mono WLe.rfl QLe.app
      ·exact(G.cslots p h).mono WLe.rfl (QLe.take.trans QLe.app)⟩ (fun h=>nomatch h)
    have hnth:=G.nth (q:=(undef,s.next))
    have G2:=(G1.enter F).push (f:=⟨[(0,.one (.yl e.objs.length))],fun _=>.func (.yield s.next) ⟨[]⟩ ⟨[]⟩,e.objs.length+1,[]⟩) Y8 (fun p hp=>by
     rcases aL.mp hp with rfl|hp
     ·exact⟨_,by rw[List.getElem?_take,aF (Nat.lt_succ_self _)];exact hnth,rfl⟩
     ·cases hp) (List.nil_subset _)
    rw[←jx (Q:=Q++[(undef,s.next)]) V]
    refine hin W s0 h G2 rfl (vs:=_::cs) ⟨_,cs,rfl,⟨_,hnth,rfl⟩,PsR.caps (hcs.mono WLe.rfl QLe.app) hw⟩ Oz ?_
    intro p v o s' z Q' O' L' Φ' hm' G' hp Z
    obtain⟨q',hq',hv'⟩:=(G'.stk _ (aP ..)).2.1 _ (aP ..)
    have hqn:q'.2=s.next:=by
     have:=(List.cons.inj hv').1
     simp only[Value.func.injEq,Fn.yield.injEq]at this
     exact this.1.symm
    have hq':Q'[e.objs.length]? = some q':=QLe.take _ _ hq'
    have hlj:C.lent≤e.objs.length:=by have:=G.ln;have:=G.cn;omega
    have key:∀st pend N' sl' ps' x' y',zF o e.objs.length=some (.loop N' sl' ps' x' y' st pend)→wH (e.objs++[Ob.loop N (e.slots++C.slots) ps.toList x y .ready none]) o=true→∃lp,lp.state=st∧lp.pend=pend∧s'.may s.next=true∧s'.get s.next=some (.loop lp) ∧
     k8 QL W s0 (s'.put s.next (some (.loop {lp with state:=.exhausted}))) C stk {e with objs:=zE o e.objs.length .dead} F z:=by
     intro st pend N' sl' ps' x' y' hob hc
     have G3:=G1.exit (F'':=F) G'.pop hc
     rw[zJ]at hob
     obtain⟨oo,hoo⟩:∃oo,O'[e.objs.length]? = some oo:=⟨_,aE (by rw[G'.oq];exact(aM.mp hq').1)⟩
     obtain⟨_,fr',F0,rfl,_,_⟩:=G3.obj _ _ q' oo hob hq' hoo
     have hown:=G3.H.own _ (G3.own _ q' _ hq' hoo hlj)
     have hm3:=G3.H.most
     obtain⟨L3,G4⟩:=G3.write Oz (o':=.loop {fr:=fr',params:=ps',assign:=x',body:=y',state:=.exhausted,pend:=pend}) (b:=.dead) hq' hoo hlj trivial (fun h=>nomatch h)
     rw[←hqn]
     exact⟨_,rfl,rfl,hown.2.2.1,hown.1,G4.good⟩
    split at Z
    ·next hob hc=>
     obtain⟨lp,h1,h2,h3,h4,G5⟩:=key _ _ _ _ _ _ _ hob hc
     refine⟨lp,h3,h4,by rw[h1];rfl,?_⟩
     rw[h2]at G5 ⊢
     exact hk _ F _ z Oz G5 Z
    ·next hob hc=>
     obtain⟨lp,h1,h2,h3,h4,G5⟩:=key _ _ _ _ _ _ _ hob hc
     refine⟨lp,h3,h4,by rw[h1];rfl,?_⟩
     rw[h2]at G5 ⊢
     exact E _ F _ z Oz G5 Z
    ·cases Z
   ·cases h
  ·cases h
 |_=>
  intro C hs S R k e F s m P G h J hk hx E
  unfold qV at h
  cases h
end
section
variable{W:Wd}{Q:Qs}
theorem Jf:∀{l:List Value} {n t:Nat} {F:FF},t<n→X6 l n F t=F t
 | [],n,t,F,h=>rfl
 |v::l,n,t,F,h=>by
  simp only[X6]
  rw[Jf Oz,vh,aD Oz]
theorem X3:∀{ps:List Pv} {vs:List Value} {n:Nat} {F:FF},PsR W Q ps vs→SvF W Q (numS n ps) (X6 vs n F)
 | [],vs,n,F,h,p,hp=>by cases hp
 |q::ps,vs,n,F,⟨v,r,e,h1,h2⟩,p,hp=>by
  subst e
  simp only[X6]
  rcases aL.mp hp with rfl|hp
  ·rw[Jf Y8,vh,aF rfl];exact h1
  ·exact X3 h2 p hp
theorem zfU:∀{ps:List Pv} {b:List (Bool×List Lf)} {vs:List Value},PsR W Q ps vs→unQs ps=some b→TsR W Q b vs
 | [],b,vs,h,a=>by cases a;exact h
 |p::ps,b,vs,⟨v,r,e,h1,h2⟩,a=>by
  simp only[unQs]at a
  split at a
  ·next q l c hl=>cases a;exact⟨v,r,e,zdW h1 c,zfU h2 hl⟩
  ·cases a
end
section
variable{W:Wd}{s0 s:St}{C:Cx}{QL:Qs}{stk:List Fra}{e:En}{F:FF}{m:Nat}{Q:Qs}{O:List (Option MObj)}{L Φ:Hp'}
theorem JX(G:GX QL W s0 s C stk e F m Q O L Φ):∀{rs:List ResultVar} {ps:List Pv},resK C e rs=some ps→∃vs,qS Tryz.prog F s rs=some vs∧PsR (W.x Φ) Q ps vs
 | [],ps,h=>by cases h;exact⟨[],rfl,rfl⟩
 | .tmp t::rs,ps,h=>by
  simp only[resK]at h
  split at h
  ·next p l hp hl=>
   cases h
   obtain⟨vs,h1,h2⟩:=JX G hl
   exact⟨F t::vs,by simp only[qS,h1],F t,vs,rfl,G.ev (x:=.tmp t) hp,h2⟩
  ·cases h
 | .cell t ty::rs,ps,h=>by
  simp only[resK]at h
  split at h
  ·next j off l hp hl=>
   split at h
   ·next c ho=>
    split at h
    ·next p hc=>
     cases h
     obtain⟨vs,h1,h2⟩:=JX G hl
     obtain⟨q,f,hx⟩:=G.ev (x:=.tmp t) hp
     have hx:=(List.cons.inj hx).1
     obtain⟨q',cs,tt,b,_,hg,d⟩:=G.see.cel _ _ ho
     rw[f]at b;cases b
     obtain⟨v,g1,g2⟩:=VB d hc
     have a:vY Tryz.prog ty (F t) s=some v:=by
      have hx:F t=.pointer (some ⟨q.2,off,none⟩):=hx
      simp only[vY,hx,hg,g1]
     exact⟨v::vs,by simp only[qS,h1,a],v,vs,rfl,g2,h2⟩
    ·cases h
   ·cases h
  ·cases h
end
theorem SvF.putS{W:Wd}{Q:Qs}{l:List (Nat×Pv)}{F:FF}{t:Nat}{p:Pv}{v:Value}(h:SvF W Q l F)(hp:PvR W Q p v):SvF W Q (putS l t p) (upd F (some t) v):=fun x hx=>by
 rcases aL.mp hx with rfl|hx
 ·rw[vh,aF rfl];exact hp
 ·obtain⟨h1,h2⟩:=Xv hx
  rw[vh,aD h2];exact h _ h1
theorem SvF.putPs{W:Wd}{Q:Qs}:∀{ts:List Nat} {ps:List Pv} {vs:List Value} {l:List (Nat×Pv)} {F:FF},SvF W Q l F→PsR W Q ps vs→ps.length=ts.length→SvF W Q (putPs ts ps l) (zbV F ts vs)
 | [],[],vs,l,F,h,hp,_=>by rw[show vs=[]from hp];exact h
 |t::ts,p::ps,vs,l,F,h,⟨v,r,e,h1,h2⟩,hl=>by
  subst e
  exact SvF.putPs (ts:=ts) (h.putS h1) h2 (by simpa using hl)
section
variable{I:zU}{Γ:TypeId→Option Ty}{T:FuncId→Option Con}{Hs:FuncId→List Hi}{ρ:Type}{W:Wd}{s0:St}
theorem rnd_ok(hI:zH I)(hT:Qz I T){inl:Inl ρ}{rc rc1:Nat}(hin:∀W s0,Qi I W s0 inl rc1){j:Nat}{Z:List Ob}{lent:Nat}{args:List Pv}{objs:List Ob}{k:Pv→List Ob→Option ρ}{r:ρ}(h:rndS Γ T rc rc1 inl j Z lent args objs k=some r)
 {QL:Qs} {s:St} {stk:List Fra} {m:Nat} {Q:Qs} {O:List (Option MObj)} {L Φ:Hp'} {n:Nat} {F:FF} {vs:List Value} (G:GX QL W s0 s ⟨[],Z,n,lent⟩ stk ⟨[],objs⟩ F m Q O L Φ) (hn:n=objs.length) (hps:PsR (W.x Φ) Q args vs) (hB:s0.next+(m+rc)≤zw)
 {Post:Value→St→Prop} (hP:∀p v o s' m' Q' O' L' Φ',m'≤m+rc→GX QL W s0 s' ⟨[],Z,n,lent⟩ stk ⟨[],o⟩ F m' Q' O' L' Φ'→PvR (W.x Φ') Q' p v→k p o=some r→Post v s'):∃v s',vo Tryz.prog I (zbK Q (zu+j)) ⟨vs⟩ s v s'∧Post v s':=by
 unfold rndS at h
 rw[yd,bK,←hn]at h
 split at h
 ·next N slots ps x y old c M=>
  split at h
  ·next hck=>
   simp only[aG]at hck
   obtain⟨⟨hlen,a⟩,D⟩:=hck
   have a:=aR a
   have D:=aR D
   have hlen:args.length=ps.length:=by
    have:=aJ hlen
    rw[yd,yd]at this;omega
   obtain⟨q,o,hq,ho,b,fr,X,rfl,ha,hs⟩:=G.at c
   rw[zbJ hq]
   have hnQ:Q.length=n:=by rw[hn];exact G.len.symm
   have hjn:j<n:=by rw[←hnQ];exact(aM.mp hq).1
   have J:=G.own j q _ hq ho a
   have hown:=G.H.own _ J
   obtain⟨A,B,hL⟩:=dZ J
   have w:∀f,f∈stk→∀p,p∈f.psi→p.1≠q.2:=fun f hf p hp=>G.dis j q _ p a hq ho ((G.stk f hf).2.2 hp)
   have G1:=G.frzNew hq ho a hL (s':=s) (o':=.loop {fr:=fr,params:=ps,assign:=x,body:=y,state:=.ready,pend:=none}) (by rw[←hL];exact G.H)
   have hw:WLe (W.x Φ) (W.x ((q.2,.loop {fr:=fr,params:=ps,assign:=x,body:=y,state:=.ready,pend:=none})::Φ)):=vF fun p hp=>aN _ hp
   have E:Q.take n=Q:=by rw[←hnQ,aY]
   have G2:=(G1.push (f:=⟨slots,X,n,[(q.2,.loop {fr:=fr,params:=ps,assign:=x,body:=y,state:=.ready,pend:=none})]⟩) (aO _) (by rw[E];exact hs.mono hw QLe.rfl) (fun p hp=>by
    rcases aL.mp hp with rfl|hp
    ·exact aP ..
    ·cases hp)).push (f:=⟨[(0,.one (.yl j))],fun _=>.func (.yield q.2) ⟨[]⟩ ⟨[]⟩,n,[]⟩) (aO _) (fun p hp=>by
    rcases aL.mp hp with rfl|hp
    ·rw[E];exact⟨q,hq,rfl⟩
    ·cases hp) (List.nil_subset _)
   have G3:GX QL W s0 s ⟨[],Z,n,lent⟩ _ ⟨putPs ps args slots,zE objs j .dead⟩ (zbV X ps vs) m Q (zE O j none) (A++(q.2,.loop {fr:=fr,params:=ps,assign:=x,body:=y,state:=.ready,pend:=none})::B) ((q.2,.loop {fr:=fr,params:=ps,assign:=x,body:=y,state:=.ready,pend:=none})::Φ):={G2 with
    slots:=SvF.putPs (hs.mono hw QLe.rfl) (PsR.mono hw QLe.rfl hps) hlen
    cslots:=fun _ h=>nomatch h}
   have P:Nat.beq (yD (⟨vs⟩:Array Value).toList 0) (yD ps 0)=true:=by
    have:=hps.len
    rw[yd,yd,show(⟨vs⟩:Array Value).toList=vs from rfl,this,hlen];exact eM _
   refine round_of (N:=N) hown.1 ha (by rw[b.1];exact P) b.2.1 b.2.2 (zaM (N:=N) hI hT hin x G3.good h Oz ?_ (fun i ki S=>by cases S) (fun e' F' s' m' _ _ h=>by cases h))
   intro e1 F1 s1 m1 hm1 ⟨Q1,O1,L1,Φ1,G4⟩ h1
   -- the record,as it was
   have z:(q.2,MObj.loop {fr:=fr,params:=ps,assign:=x,body:=y,state:=.ready,pend:=none})∈Φ1:=(G4.stk _ (aN _ (aP ..))).2.2 (aP ..)
   have t:=G4.H.own _ (G4.fro z)
   refine⟨_,t.2.2.1,t.1,rfl,?_⟩
   obtain⟨L2,G5⟩:=G4.reput Oz (lp':={fr:=fr,params:=ps,assign:=x,body:=y,state:=.busy,pend:=none}) z
    (stk':=⟨[(0,.one (.yl j))],fun _=>.func (.yield q.2) ⟨[]⟩ ⟨[]⟩,n,[]⟩::⟨slots,X,n,[(q.2,.loop {fr:=fr,params:=ps,assign:=x,body:=y,state:=.busy,pend:=none})]⟩::stk) (fun f hf=>by
     rcases aL.mp hf with rfl|hf
     ·exact⟨_,aP ..,rfl,rfl,rfl,fun p hp=>by cases hp⟩
     ·rcases aL.mp hf with rfl|hf
      ·exact⟨_,aN _ (aP ..),rfl,rfl,rfl,fun p hp=>by
        rcases aL.mp hp with rfl|hp
        ·exact .inl rfl
        ·cases hp⟩
      ·exact⟨f,aN _ (aN _ hf),rfl,rfl,rfl,fun p hp=>.inr ⟨hp,w f hf p hp⟩⟩)
   -- behind the body
   have fin:∀(Y:FF) (e2:En) (s2:St) (m2:Nat) (jump:Option Code) (st:LoopState) (ob:Ob),m2≤m+rc→k8 QL W s0 s2 ⟨[],Z,n,lent⟩ (⟨[(0,.one (.yl j))],fun _=>.func (.yield q.2) ⟨[]⟩ ⟨[]⟩,n,[]⟩::⟨slots,X,n,[(q.2,.loop {fr:=fr,params:=ps,assign:=x,body:=y,state:=.busy,pend:=none})]⟩::stk) e2 Y m2 →
    (st=match jump with|none=>.ready|some _=>.done)→k (.one (.bool jump.isNone)) (zE e2.objs j ob)=some r→(ob=old∧jump=none∨ob=.loop N [] ps x y st jump)→∃v s',jI q.2 jump s2=.ret v s'∧Post v s':=by
    intro Y e2 s2 m2 jump st ob U ⟨Q2,O2,L2',Φ2,G6⟩ hst hk K
    have d:(q.2,MObj.loop {fr:=fr,params:=ps,assign:=x,body:=y,state:=.busy,pend:=none})∈Φ2:=(G6.stk _ (aN _ (aP ..))).2.2 (aP ..)
    have u:=G6.H.own _ (G6.fro d)
    refine⟨_,_,by unfold jI;rw[u.2.2.1,u.1],?_⟩
    have hsl:=(G6.stk _ (aN _ (aP ..))).2.1
    obtain⟨q2,V,hv2⟩:=(G6.stk _ (aP ..)).2.1 _ (aP ..)
    have hqn:q2.2=q.2:=by
     have:=(List.cons.inj hv2).1
     simp only[Value.func.injEq,Fn.yield.injEq]at this
     exact this.1.symm
    have V:Q2[j]? = some q2:=QLe.take _ _ V
    have hm6:=G6.H.most
    obtain⟨L3,G7⟩:=G6.pop.pop.reput Oz (lp':={fr:=fr,params:=ps,assign:=x,body:=y,state:=st,pend:=jump}) d (stk':=stk) (fun f hf=>⟨f,hf,rfl,rfl,rfl,fun p hp=>.inr ⟨hp,w f hf p hp⟩⟩)
    have hw2:WLe (W.x Φ2) (W.x ((q.2,MObj.loop {fr:=fr,params:=ps,assign:=x,body:=y,state:=st,pend:=jump})::zcV q.2 Φ2)):=JG (G6.only d) fun p hp=>aN _ hp
    have l:jump=none→∀W' Q',WLe (W.x Φ2) W'→(Q'=Q2∨Q'=Q2.take n)→ObjR W' Q' (.loop N slots ps x y .ready none) q2 (some (.loop {fr:=fr,params:=ps,assign:=x,body:=y,state:=st,pend:=jump})):=by
     intro hj W' Q' g hQ'
     subst hj
     subst hst
     refine⟨b,fr,X,rfl,ha,?_⟩
     rcases hQ' with rfl|rfl
     ·exact SvF.mono g QLe.take hsl
     ·exact SvF.mono g QLe.rfl hsl
    have G8:=G7.show (ob:=ob) (aP ..) V hqn a w (fun W' g=>by
     rcases K with⟨rfl,hj⟩|rfl
     ·unfold En.obj at c
      rw[M]at c
      cases ob with
      |const=>trivial
      |dead=>cases c
      |_=>
       simp only[bF]at c
       rw[c]
       exact l hj W' Q2 (hw2.trans g) (.inl rfl)
     ·exact⟨b,fr,X,rfl,ha,fun _ h=>nomatch h⟩) (fun hc b' R W' g=>by
     rcases K with⟨rfl,hj⟩|rfl
     ·subst hc
      unfold En.obj at c
      rw[M]at c
      simp only at c R
      rw[zJ]at c
      rw[c]at R
      cases R
      exact l hj W' _ (hw2.trans g) (.inr rfl)
     ·cases hc)
    have G9:GX QL W s0 (s2.put q.2 (some (.loop {fr:=fr,params:=ps,assign:=x,body:=y,state:=st,pend:=jump}))) ⟨[],Z,n,lent⟩ stk ⟨[],zE e2.objs j ob⟩ F m2 Q2 _ L3 _:={G8 with slots:=(fun _ h=>nomatch h),cslots:=(fun _ h=>nomatch h)}
    have:=hP (.one (.bool jump.isNone)) (.bool jump.isNone) _ _ m2 _ _ _ _ U G9 rfl hk
    rw[hst]at this
    exact this
   refine zaM (N:=N) hI hT hin y G5.good h1 Oz ?_ (fun i ki S=>by cases S) ?_
   ·intro e2 Y s2 m2 U G6 h2
    exact fin Y e2 s2 m2 none .ready old Oz G6 rfl h2 (.inl ⟨rfl,rfl⟩)
   ·intro e2 Y s2 m2 U G6 h2
    exact fin Y e2 s2 m2 (some .ret) .done _ Oz G6 rfl h2 (.inr rfl)
  ·cases h
 ·cases h
theorem zeK(S:zH I)(hT:Qz I T):∀(rs:List Nat) (W:Wd) (s0:St),Qi I W s0 (zcI (ρ:=ρ) Γ T Hs rs) (hdN rs):=by
 intro rs
 induction rs with
 |nil=>
  intro W s0 g z lent ps objs k r h
  cases h
 |cons rc rs ih=>
  intro W s0 g z lent ps objs k r h QL s stk m Q O L Φ n F vs G hn A R Post D
  replace h:funS Γ T Hs rc (hdN rs) (zcI Γ T Hs rs) g z lent ps objs k=some r:=h
  have R:s0.next+(m+rc)≤zw:=R
  have D:∀p v o s' d Q' N M Φ',d≤m+rc→GX QL W s0 s' ⟨[],z,n,lent⟩ stk ⟨[],o⟩ F d Q' N M Φ'→PvR (W.x Φ') Q' p v→k p o=some r→Post v s':=D
  unfold funS at h
  cases f:Nat.ble zu g
  case true=>
   rw[f]at h
   simp only at h
   have:=rnd_ok (stk:=stk) S hT ih h G hn A R D
   rw[Nat.add_sub_cancel' (aR f)]at this
   exact this
  rw[f]at h
  simp only at h
  rw[jx f]
  split at h
  ·next fn V=>
   split at h
   ·next c hc=>
    split at h
    ·next E=>
     simp only[aG,bC]at E
     obtain⟨⟨h1,_⟩,h4⟩:=E
     have h3:=f
     have h4:=aR h4
     have U:I g=none:=S g
     subst hn
     rw[yd,bK]at h h1
     refine qD ps.length U V hc h1 A.len ?_ h3
     have G1:GX QL W s0 s ⟨[],z,objs.length,lent⟩ stk ⟨numS 0 ps,objs⟩ (YM ⟨vs⟩) m Q O L Φ:={G with slots:=X3 A,cslots:=(fun _ h=>nomatch h)}
     have t:∀j w s' d,d≤m+xV T (hdN rs) c (Hs g)→k8 QL W s0 s' ⟨[],z,objs.length,lent⟩ stk j w d→endK ⟨[],z,objs.length,lent⟩ fn.results.toList j k=some r→endQ Tryz.prog fn.results.toList Post w s':=by
      intro j w s' d K ⟨Q',N,M,Φ',y⟩ h
      unfold endK at h
      have Z:GX QL W s0 s' ⟨[],z,objs.length,lent⟩ stk ⟨[],j.objs⟩ F d Q' N M Φ':={y with slots:=(fun _ h=>nomatch h),cslots:=(fun _ h=>nomatch h)}
      constructor
      split at h
      ·next p hp=>
       obtain⟨B,g1,v,r1,rfl,g2,J⟩:=JX y hp
       rw[show r1=[]from J]at g1
       rw[g1]
       exact D p v _ s' d _ _ _ _ Oz Z g2 h
      ·next l Y hl=>
       split at h
       ·next q hq=>
        obtain⟨B,g1,g2⟩:=JX y hl
        rw[g1]
        have J:=D (.tup q) (.tuple ⟨B⟩) _ s' d _ _ _ _ Oz Z ⟨B,rfl,zfU g2 hq⟩ h
        have H:=g2.len
        cases B with
        |nil=>exact J
        |cons u B=>cases B with
         |nil=>
          cases l with
          |nil=>simp at H
          |cons a l=>cases l with
           |nil=>exact(Y a rfl).elim
           |cons b l=>simp at H
         |cons u2 B=>exact J
       ·cases h
      ·cases h
     refine zaM (rc:=hdN rs) S hT ih c G1.good h Oz ?_ (fun i ki X=>by cases X) ?_
     ·intro j w s' d K y P;exact nrm_end (t j w s' d K y P)
     ·intro j w s' d K y P;exact xD (t j w s' d K y P)
    ·cases h
   ·cases h
  ·cases h
end
def VX:List Ty→Bool
 | []=>true
 |a::l=>a.okT&&VX l
theorem JO{W:Wd}{Q:Qs}:∀{ar:List Ty} {vs:List Value} {x:Tp ar},VX ar=true→VsR W ar vs x→PsR W Q (toPs ar x) vs
 | [],vs,x,c,h=>h
 | [a],vs,x,c,⟨v,e,h⟩=>by simp only[VX,aG]at c;exact⟨v,[],e,JP h c.1,rfl⟩
 |a::b::l,vs,x,c,⟨v,r,e,h,h2⟩=>by
  rw[VX,aG]at c
  exact⟨v,r,e,JP h c.1,JO c.2 h2⟩
theorem VsR.mono{W W':Wd}(c:WLe W W'):∀{ar:List Ty} {vs:List Value} {x:Tp ar},VsR W ar vs x→VsR W' ar vs x
 | [],vs,x,h=>h
 | [a],vs,x,⟨v,e,h⟩=>⟨v,e,h.mono c⟩
 |a::b::l,vs,x,⟨v,r,e,h,h2⟩=>⟨v,r,e,h.mono c,VsR.mono (ar:=b::l) c h2⟩
theorem zKI_ok{I:zU}(l:zH I){Γ:TypeId→Option Ty}{T:FuncId→Option Con}{Hs:FuncId→List Hi}(n:Qz I T){rs:List Nat}{g:FuncId}{ar:List Ty}{τ:Ty}(w:VX ar=true):DecI I g (hdN rs) ar τ (zK Γ T Hs rs g ar τ):=by
 intro s hf W u vs x hx r y hroom
 have G:GX [] W s s ⟨[],[],0,0⟩ [] ⟨[],[]⟩ (fun _=>undef) 0 [] [] [] []:=
  {K:=u,H:=hf.hl,oq:=rfl,len:=rfl,cn:=aO _,ln:=aO _,pre:=(fun i h=>by cases h),fro:=List.nil_subset _
   own:=fun i q o h=>by cases h
   lent:=fun i q o h=>by cases h
   inj:=fun i j q r o o' h=>by cases h
   dis:=fun i q o p _ h=>by cases h
   obj:=fun i b q o h=>by cases h
   cob:=fun i b q o h=>by cases h
   slots:=fun _ h=>nomatch h
   cslots:=fun _ h=>nomatch h
   stk:=fun _ h=>nomatch h}
 rw[←show zbK [] g=g from by unfold zbK;split<;>rfl]
 refine zeK (Γ:=Γ) (Hs:=Hs) l n rs W s y G rfl (JO w (hx.mono xP)) Oz ?_
 intro p v o s' z Q' k d Φ' hm f hp a
 unfold outP at a
 split at a
 ·next t p' o' c=>
  have G1:GX [] W s s' ⟨[],[],0,0⟩ [] ⟨[(0,p)],o⟩ (fun _=>v) z Q' k d Φ':={f with slots:=(fun x hx=>by rcases aL.mp hx with rfl|hx;exact hp;cases hx),cslots:=(fun _ h=>nomatch h)}
  obtain⟨O1,Φ1,G2⟩:=G1.frzP c
  have hv:=Yz (G2.slots _ (aP ..)) a
  exact⟨d,G2.H.up Oz,hv.mono (vF G2.fro)⟩
 ·cases a
theorem zK_ok{Γ:TypeId→Option Ty}{T:FuncId→Option Con}{Hs:FuncId→List Hi}(b:ConOK T){rs:List Nat}{g:FuncId}{ar:List Ty}{τ:Ty}(c:VX ar=true):qA g (hdN rs) ar τ (zK Γ T Hs rs g ar τ):=
 fun _ a=>zKI_ok a (b.i a) c
def zm(T:FuncId→Option Con)(f:FuncId)(c:Con):FuncId→Option Con:=fun g=>match Nat.beq f g with
 |true=>some c
 |false=>T g
theorem ConOK.add{T:FuncId→Option Con}(a:ConOK T){f:FuncId}{c:Con}(h:qA f c.room c.ar c.res c.fn):ConOK (zm T f c):=by
 intro g con hg
 unfold zm at hg
 split at hg
 ·next hb=>cases hg;rw[←aJ hb];exact h
 ·exact a g con hg
theorem ConOK.next{Γ:TypeId→Option Ty}{T:FuncId→Option Con}{Hs:FuncId→List Hi}(a:ConOK T){rs:List Nat}{g:FuncId}{ar:List Ty}{τ:Ty}{z:Tp ar→Option τ.T}(b:VX ar=true)(he:∀x,zK Γ T Hs rs g ar τ x=z x):ConOK (zm T g ⟨ar,τ,hdN rs,z⟩):=
 a.add (by rw[←show zK Γ T Hs rs g ar τ=z from funext he];exact zK_ok a b)
theorem ConOK.nil:ConOK fun _=>none:=fun _ _ h=>nomatch h
def hsF(l:List (Nat×List Hi))(g:FuncId):List Hi:=match find l g with
 |some h=>h
 |none=>[]
abbrev i6:Ty:=.int .i64
abbrev hi(a b:List Nat)(c:List (Nat×Bool×List LS))(d:List (Nat×List LS))(e:List OwnS)(f:List Ty)(g:Nat):Hi:={frz:=a,cst:=b,vars:=c,objs:=d,own:=e,ts:=f,fuel:=g}
end Go.Proofs.YtocnbjjmmgolfaaGreat
