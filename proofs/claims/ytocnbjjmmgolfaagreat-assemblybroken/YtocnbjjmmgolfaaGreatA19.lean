/- The evaluator: the state as a round finds it. -/
import Derived.Test.YtocnbjjmmgolfaaGreatA18
set_option linter.unusedSimpArgs false
set_option linter.unusedVariables false
set_option linter.unusedSectionVars false
namespace Go.Proofs.YtocnbjjmmgolfaaGreat
open Go Go.M Go.Proofs.C14
def mA(Q:Qs):List (Option Nat)->Qs
 | []=>[]
 |some j::r=>Q.getD j (.slice none 0 0,0)::mA Q r
 |none::r=>(.slice none 0 0,0)::mA Q r
def si(O:List (Option ak)):List (Option Nat)->List (Option ak)
 | []=>[]
 |some j::r=>O.getD j none::si O r
 |none::r=>none::si O r
def gf:List Ob->List (Option ak)->List (Option ak)
 | .dead::r,_::s=>none::gf r s
 |_::r,o::s=>o::gf r s
 |_,_=>[]
theorem QH{Q:Qs}:∀{l:List (Option Nat)},(mA Q l).length=l.length
 | []=>rfl
 |some j::r=>by simp only[mA,aU,QH]
 |none::r=>by simp only[mA,aU,QH]
theorem QI{O:List (Option ak)}:∀{l:List (Option Nat)},(si O l).length=l.length
 | []=>rfl
 |some j::r=>by simp only[si,aU,QI]
 |none::r=>by simp only[si,aU,QI]
theorem Yt{Q:Qs}:∀{l:List (Option Nat)} {k:Nat} {j:Option Nat},l[k]? = some j->(mA Q l)[k]? = some (match j with|some j=>Q.getD j (.slice none 0 0,0)|none=>(.slice none 0 0,0))
 |some j::r,0,_,h=>by cases h;rfl
 |none::r,0,_,h=>by cases h;rfl
 |some j::r,k+1,_,h=>Yt (l:=r) (k:=k) h
 |none::r,k+1,_,h=>Yt (l:=r) (k:=k) h
theorem Yu{O:List (Option ak)}:∀{l:List (Option Nat)} {k:Nat} {j:Option Nat},l[k]? = some j->(si O l)[k]? = some (match j with|some j=>O.getD j none|none=>none)
 |some j::r,0,_,h=>by cases h;rfl
 |none::r,0,_,h=>by cases h;rfl
 |some j::r,k+1,_,h=>Yu (l:=r) (k:=k) h
 |none::r,k+1,_,h=>Yu (l:=r) (k:=k) h
theorem Jc:∀{a:List Ob} {O:List (Option ak)},a.length<=O.length->(gf a O).length=a.length
 | [],O,_=>by cases O<;>rfl
 |b::r,[],h=>by simp at h
 |b::r,o::s,h=>by
  have:=Jc (a:=r) (O:=s) (by simpa using h)
  cases b<;>simp only[gf,aU,this]
theorem Jd:∀{a:List Ob} {O:List (Option ak)} {i:Nat} {o:Option ak},(gf a O)[i]? = some o->(a[i]? = some .dead/\o=none)\/(a[i]? ≠ some .dead/\O[i]? = some o)
 | [],O,i,o,h=>by cases O<;>cases h
 |b::r,[],i,o,h=>by cases b<;>cases h
 |b::r,p::s,0,o,h=>by cases b<;>cases h<;>first|exact .inl ⟨rfl,rfl⟩|exact .inr ⟨Y8,rfl⟩
 |b::r,p::s,i+1,o,h=>by
  have:(gf r s)[i]? = some o:=by cases b<;>exact h
  simpa only[cR]using Jd this
theorem jM:∀{l:List (Option Nat)} {k j:Nat},l[k]? = some (some j)->K8 j l=true
 |some i::r,0,j,h=>by cases h;simp[K8]
 |none::r,0,j,h=>by cases h
 |some i::r,k+1,j,h=>by simp only[K8,jM (l:=r) (k:=k) h,Bool.or_true]
 |none::r,k+1,j,h=>jM (l:=r) (k:=k) h
theorem ZK:∀{l:List (Option Nat)} {k k' j:Nat},ZL l=true->l[k]? = some (some j)->l[k']? = some (some j)->k=k'
 |some i::r,0,0,j,_,_,_=>rfl
 |some i::r,0,k'+1,j,h,h1,h2=>by
  cases h1
  simp only[ZL,aF,bB]at h
  rw[jM (l:=r) (k:=k') h2]at h
  cases h.1
 |some i::r,k+1,0,j,h,h1,h2=>by
  cases h2
  simp only[ZL,aF,bB]at h
  rw[jM (l:=r) (k:=k) h1]at h
  cases h.1
 |some i::r,k+1,k'+1,j,h,h1,h2=>by
  simp only[ZL,aF]at h
  rw[ZK (l:=r) (k:=k) (k':=k') h.2 h1 h2]
 |none::r,0,_,j,h,h1,h2=>by cases h1
 |none::r,k+1,0,j,h,h1,h2=>by cases h2
 |none::r,k+1,k'+1,j,h,h1,h2=>by rw[ZK (l:=r) (k:=k) (k':=k') h h1 h2]
theorem Zb{n:Nat}:∀{l:List (Option Nat)} {k j:Nat},Jm n l=true->l[k]? = some (some j)->n<=j
 |some i::r,0,j,h,h1=>by cases h1;simp only[Jm,aF]at h;exact aR h.1
 |none::r,0,j,h,h1=>by cases h1
 |some i::r,k+1,j,h,h1=>by simp only[Jm,aF]at h;exact Zb (l:=r) (k:=k) h.2 h1
 |none::r,k+1,j,h,h1=>Zb (l:=r) (k:=k) h h1
theorem zcD{a:List (Option Nat)}{j:Nat}:∀{l:List (Nat×List LS)},AV a l=true->K8 j a=true->FV j l=false
 | [],_,_=>rfl
 |(i,ls)::r,h,hj=>by
  simp only[AV,aF,bB]at h
  have b:=zcD (l:=r) h.2 hj
  simp only[FV,cW]at b |-
  cases hb:Nat.beq i j with
  |true=>rw[aK hb]at h;rw[hj]at h;cases h.1
  |false=>exact b
theorem zeI{e:En}:∀{os:List iB} {c:List (Option Nat)} {a a':List Lf},F4 e os c=some a->hJ a a'->(Qf os a').length=c.length /\
 ∀(k:Nat) j,c[k]? = some j->∃t w τ l,(Qf os a')[k]? = some (.list t w τ l)/\match j with
  |some j=>e.objs[j]? = some (.list t w τ l)
  |none=>l=[]/\τ.sz=w
 | [],[],a,a',h,ha=>by cases h;cases ha;exact⟨rfl,λk j h=>by cases h⟩
 | [],_::_,a,a',h,ha=>by simp only[F4]at h;cases h
 |_::_,[],a,a',h,ha=>by simp only[F4]at h;cases h
 |o::os,none::c,a,a',h,ha=>by
  simp only[F4]at h
  split at h
  .next b hsz hb=>
   cases h
   cases ha with
   |cons h1 h2=>
    cases h1
    obtain⟨g1,g2⟩:=zeI hb h2
    refine⟨by simp only[Qf,aU,g1],λk j hk=>?_⟩
    cases k with
    |zero=>cases hk;exact⟨_,_,_,_,rfl,rfl,aK hsz⟩
    |succ k=>exact g2 k j hk
  .cases h
 |o::os,some i::c,a,a',h,ha=>by
  simp only[F4]at h
  split at h
  .next t w τ l b d hb=>
   cases h
   rw[zN]at d
   cases ha with
   |cons h1 h2=>
    cases h1
    obtain⟨g1,g2⟩:=zeI hb h2
    refine⟨by simp only[Qf,aU,g1],λk j hk=>?_⟩
    cases k with
    |zero=>cases hk;exact⟨_,_,_,_,rfl,d⟩
    |succ k=>exact g2 k j hk
  .cases h
section
variable{W:Wd}{s0 s:St}{C:Cx}{QL:Qs}{stk:List fy}{e:En}{F:FF}{m:Nat}{Q:Qs}{O:List (Option ak)}{L Φ:au}
theorem zgX(G:GX QL W s0 s C stk e F m Q O L Φ){h:Hi}{C0:Cx}{skel:List Ob}{d:List (Option Nat)}{x:Tp h.ts}(hget:∀t p,e.get C0 t=some p->cL (W.x Φ) Q p (F t))(hlen:skel.length=C.n)
 (T:∀(i:Nat) b,skel[i]? = some b->b=.dead\/(b=.const/\∀b' q o,C.objs[i]? = some b'->Q[i]? = some q->O[i]? = some o->cZ (W.x Φ) (Q.take C.n) b' q o))
 (hsrc:∀(k j:Nat),d[k]? = some (some j)->skel[j]? ≠ some .const) (hn:Sr h C.n C.lent C0 e d=some x) :
 ∃Q' O',GX QL W s0 s C stk (Lm h C.n skel x) F m Q' O' L Φ:=by
 unfold Sr at hn
 split at hn
 .next a b c ha hb hc=>
  split at hn
  .next hck=>
   simp only[aF]at hck
   obtain⟨⟨hnd,hle⟩,hoN⟩:=hck
   have hR:=ry hn
   obtain⟨a',bc',hmk,hRa,hRbc⟩:=hR.split
   obtain⟨b',c',rfl,hRb,hRc⟩:=hRbc.split
   obtain⟨V,N⟩:=zeI hc hRc
   have hcn:=G.cn
   have v:(Q.take C.n).length=C.n:=by rw[bX];omega
   have U:∀(k j:Nat),d[k]? = some (some j)->∃q o,Q[j]? = some q/\O[j]? = some o/\∃t w τ l,e.objs[j]? = some (.list t w τ l)/\cZ (W.x Φ) Q (.list t w τ l) q o:=λk j hk=>by
    obtain⟨t,w,τ,l,_,h2⟩:=N k _ hk
    simp only at h2
    have hj:j<Q.length:=by rw[<-G.len];exact(aM.mp h2).1
    have g:=aE hj
    have ho:=aE (l:=O) (i:=j) (by rw[G.oq];exact hj)
    exact⟨_,_,g,ho,t,w,τ,l,h2,G.obj j _ _ _ h2 g ho⟩
   -- where things lie now
   have y:∀(i:Nat),i<C.n->(Q.take C.n++mA Q d)[i]? = Q[i]? :=λi hi=>by
    rw[cA (by rw[v];exact hi),List.getElem?_take,aG hi]
   have I:∀(k:Nat),(Q.take C.n++mA Q d)[C.n+k]? = (mA Q d)[k]? :=λk=>by
    rw[List.getElem?_append_right (by rw[v];omega),v,eO]
   have hS:iD Q (Q.take C.n++mA Q d) C.n d:=λk j hk=>by
    rw[I,Yt hk]
    cases j with
    |none=>exact⟨_,rfl,⟨_,_,_,rfl⟩,rfl⟩
    |some j=>
     obtain⟨q,o,g,ho,t,w,τ,l,_,av,cap,hv,_⟩:=U k j hk
     refine⟨_,rfl,?_,q,g,?_⟩
     .simp only[aB,g,bN];exact⟨_,_,_,hv⟩
     .simp only[aB,g,bN]
   have Z:∀(i:Nat) q,i<C.n->Q[i]? = some q->(Q.take C.n++mA Q d)[i]? = some q:=λi q hi g=>by rw[y i hi];exact g
   obtain⟨hv1,hv2⟩:=zgu (rest:=b'++c') Z hS hget ha hRa
   obtain⟨ho1,ho2,R⟩:=zgV (sk:=skel) (rest:=c') Z hS (λi b q o h0 h1 h2=>G.obj i b q o h0 h1 h2) hb hRb
   have hmkE:Lm h C.n skel x={slots:=(Vx C.n h.vars (a'++(b'++c'))).1,objs:=(Qg C.n h.objs skel (b'++c')).1++Qf h.own c'}:=by
    unfold Lm
    simp only[hmk,hv1,ho1]
   rw[hmkE]
   generalize hob:(Qg C.n h.objs skel (b'++c')).1=ob at ho2 R
   have r:ob.length=C.n:=ho2.trans hlen
   have P:(gf ob O).length=C.n:=by rw[Jc (by rw[r,G.oq];exact hcn),r]
   have E:∀(i:Nat) o,i<C.n->(gf ob O++si O d)[i]? = some o->(ob[i]? = some .dead/\o=none)\/(ob[i]? ≠ some .dead/\O[i]? = some o):=λi o hi h=>by
    rw[cA (by rw[P];exact hi)]at h;exact Jd h
   have S:∀(k:Nat),(gf ob O++si O d)[C.n+k]? = (si O d)[k]? :=λk=>by
    rw[List.getElem?_append_right (by rw[P];omega),P,eO]
   -- every object: an old one,or one that was elsewhere
   have hold:∀(i:Nat) q o,(Q.take C.n++mA Q d)[i]? = some q->(gf ob O++si O d)[i]? = some (some o) ->
    (i<C.n/\ob[i]? ≠ some .dead/\Q[i]? = some q/\O[i]? = some (some o))\/∃k j,i=C.n+k/\d[k]? = some (some j)/\Q[j]? = some q/\O[j]? = some (some o):=λi q o g ho=>by
    by_cases hi:i<C.n
    .rw[y i hi]at g
     rcases E i _ hi ho with⟨_,h2⟩|⟨h1,h2⟩
     .cases h2
     .exact .inl ⟨hi,h1,g,h2⟩
    .obtain⟨k,rfl⟩:∃k,i=C.n+k:=⟨i-C.n,by omega⟩
     rw[I]at g
     rw[S]at ho
     have hk:k<d.length:=by rw[<-QI (O:=O)];exact(aM.mp ho).1
     have hj:=aE hk
     cases M:d[k]with
     |none=>rw[M]at hj;rw[Yu hj]at ho;cases ho
     |some j=>
      rw[M]at hj
      rw[Yu hj]at ho
      rw[Yt hj]at g
      obtain⟨q',o',B,A,_⟩:=U k j hj
      simp only[aB,B,bN,bH]at g
      simp only[aB,A,bN,bH]at ho
      subst g ho
      exact .inr ⟨k,j,rfl,hj,B,A⟩
   -- what was taken over is written off where it was
   have J:∀(k j:Nat),d[k]? = some (some j)->j<C.n->ob[j]? = some .dead:=λk j hk hj=>by
    have h1:=aE (l:=ob) (i:=j) (by rw[r];exact hj)
    rcases R j _ h1 with h|⟨h,_⟩
    .rcases T j _ h with h2|⟨h2,_⟩
     .rw[h1,h2]
     .rw[h2]at h;exact(hsrc k j hk h).elim
    .rw[zcD hoN (jM hk)]at h;cases h
   refine⟨Q.take C.n++mA Q d,gf ob O++si O d,?_⟩
   exact{
    K:=G.K,H:=G.H
    oq:=by rw[aQ,aQ,P,v,QI,QH]
    len:=by simp only[aQ,r,v,V,QH]
    cn:=by rw[aQ,v];omega
    ln:=G.ln
    pre:=λi hi=>by rw[y i (by have:=G.ln;omega)];exact G.pre i hi
    fro:=G.fro
    own:=λi q o g ho hi=>by
     rcases hold i q o g ho with⟨h1,h2,u,D⟩|⟨k,j,rfl,h1,h2,u⟩
     .exact G.own i q o u D hi
     .exact G.own j q o h2 u (Zb hle h1)
    lent:=λi q o g ho hi=>by
     rcases hold i q o g ho with⟨h1,h2,u,D⟩|⟨k,j,rfl,h1,h2,u⟩
     .exact G.lent i q o u D hi
     .have:=G.ln;omega
    inj:=λi i' q q' o o' g B ho A he=>by
     rcases hold i q o g ho with⟨h1,h2,u,D⟩|⟨k,j,rfl,h1,h2,u⟩<;>rcases hold i' q' o' B A with⟨g1,g2,X,g4⟩|⟨k',j',rfl,g1,g2,X⟩
     .exact G.inj i i' q q' o o' u X D g4 he
     .have:=G.inj i j' q q' o o' u g2 D X he
      subst this
      exact(h2 (J k' i g1 h1)).elim
     .have:=G.inj j i' q q' o o' h2 X u g4 he
      subst this
      exact(g2 (J k j h1 g1)).elim
     .have:=G.inj j j' q q' o o' h2 g2 u X he
      subst this
      rw[ZK hnd h1 g1]
    dis:=λi q o p hi g ho hp=>by
     rcases hold i q o g ho with⟨h1,h2,u,D⟩|⟨k,j,rfl,h1,h2,u⟩
     .exact G.dis i q o p hi u D hp
     .exact G.dis j q o p (Zb hle h1) h2 u hp
    obj:=λi b1 q o hb1 g ho=>by
     by_cases hi:i<C.n
     .rw[cA (by rw[r];exact hi)]at hb1
      rw[y i hi]at g
      rcases R i b1 hb1 with h|⟨h1,h2,u,D⟩
      .rcases T i b1 h with rfl|⟨rfl,_⟩<;>trivial
      .rcases E i _ hi ho with⟨Y,_⟩|⟨_,h6⟩
       .rw[hb1]at Y;cases Y;exact(u rfl).elim
       .exact D q o g h6
     .obtain⟨k,rfl⟩:∃k,i=C.n+k:=⟨i-C.n,by omega⟩
      rw[List.getElem?_append_right (by rw[r];omega),r,eO]at hb1
      rw[I]at g
      rw[S]at ho
      have hk:k<d.length:=by rw[<-V];exact(aM.mp hb1).1
      have hj:=aE hk
      obtain⟨t,w,τ,l,h1,h2⟩:=N k _ hj
      rw[h1]at hb1;cases hb1
      rw[Yu hj]at ho
      rw[Yt hj]at g
      cases M:d[k]with
      |none=>
       rw[M]at ho g h2
       cases ho;cases g
       simp only at h2
       obtain⟨rfl,hsz⟩:=h2
       exact⟨none,0,rfl,λ_=>rfl,dk.nil hsz⟩
      |some j=>
       rw[M]at ho g h2 hj
       obtain⟨q',o',B,A,t',w',τ',l',u,D⟩:=U k j hj
       simp only at h2
       rw[h2]at u;cases u
       simp only[aB,B,bN,bH]at g
       simp only[aB,A,bN,bH]at ho
       subst g ho
       exact D
    cob:=λi b1 q o z hb1 g ho=>by
     have hi:i<C.n:=by
      by_cases hi:i<C.n
      .exact hi
      .obtain⟨k,rfl⟩:∃k,i=C.n+k:=⟨i-C.n,by omega⟩
       rw[List.getElem?_append_right (by rw[r];omega),r,eO]at z
       have hk:k<d.length:=by rw[<-V];exact(aM.mp z).1
       obtain⟨t,w,τ,l,h1,h2⟩:=N k _ (aE hk)
       rw[h1]at z;cases z
     rw[cA (by rw[r];exact hi)]at z
     rw[y i hi]at g
     rw[List.take_append_of_le_length (by rw[v];exact aN _),List.take_take,Nat.min_self]
     rcases R i _ z with h|⟨_,h,_⟩
     .rcases T i _ h with h|⟨_,h⟩
      .cases h
      .rcases E i _ hi ho with⟨Y,_⟩|⟨_,h6⟩
       .rw[z]at Y;cases Y
       .exact h b1 q o hb1 g h6
     .exact(h rfl).elim
    slots:=hv2
    cslots:=by rw[List.take_append_of_le_length (by rw[v];exact aN _),List.take_take,Nat.min_self];exact G.cslots
    stk:=λf hf=>by
     obtain⟨h1,h2⟩:=G.stk f hf
     rw[List.take_append_of_le_length (by rw[v];exact h1),List.take_take,Nat.min_eq_left h1]
     exact⟨h1,h2⟩}
  .cases hn
 .cases hn
end
section
variable{W:Wd}{s0 s:St}{C:Cx}{QL:Qs}{stk:List fy}{e:En}{F:FF}{m:Nat}{Q:Qs}{O:List (Option ak)}{L Φ:au}
theorem GX.push(G:GX QL W s0 s C stk e F m Q O L Φ){f:fy}(h1:f.n<=C.n)(h2:ff (W.x Φ) (Q.take f.n) f.slots f.F)(a:f.psi⊆Φ):GX QL W s0 s C (f::stk) e F m Q O L Φ:=
 {G with
  stk:=λg hg=>by
   rcases aJ.mp hg with rfl|hg
   .exact⟨h1,h2,a⟩
   .exact G.stk g hg}
theorem GX.pop{f:fy}(G:GX QL W s0 s C (f::stk) e F m Q O L Φ):GX QL W s0 s C stk e F m Q O L Φ:=
 {G with stk:=λg hg=>G.stk g (aP _ hg)}
def Ge(b:Nat)(Φ:au):au:=Φ.filter λp=> !Nat.beq p.1 b
theorem cS{b:Nat}{Φ:au}{p:Nat×ak}:p∈Ge b Φ↔p∈Φ/\p.1≠b:=by
 unfold Ge
 rw[List.mem_filter]
 simp only[bB,cM,ne_eq,Nat.beq_eq]
theorem J0{lp:Lp}{b:Nat}(d:∀p,p∈Φ->p.1=b->p.2=.loop lp){a:au}(hΨ:Ge b Φ⊆a):cu (W.x Φ) (W.x a):=by
 have key:∀{b' c t},(b',ak.cells c t)∈Φ->(b',ak.cells c t)∈a:=λ{b' c t} h=>hΨ (cS.mpr ⟨h,λe=>by have:=d _ h e;cases this⟩)
 constructor
 .intro t w v l h
  refine h.imp id λh=>?_
  cases h with
  |nil c hv hl=>exact .nil c hv hl
  |block b' off cap c hv hg hcap hc=>exact .block b' off cap c hv (key hg) hcap hc
theorem GX.only(G:GX QL W s0 s C stk e F m Q O L Φ){b:Nat}{o:ak}(h:(b,o)∈Φ):∀p,p∈Φ->p.1=b->p.2=o:=λp hp e=>by
 have h1:=(G.H.own _ (G.fro h)).1
 have h2:=(G.H.own _ (G.fro hp)).1
 simp only at h1
 rw[e]at h2
 rw[h1]at h2
 exact(dD h2).symm
theorem GX.reput(G:GX QL W s0 s C stk e F m Q O L Φ)(r:s0.next+m<=zA){b:Nat}{lp lp':Lp}(hb:(b,ak.loop lp)∈Φ){stk':List fy}(l:∀f,f∈stk'->∃g,g∈stk/\f.n=g.n/\f.slots=g.slots/\f.F=g.F/\∀p,p∈f.psi->p=(b,.loop lp')\/p∈g.psi/\p.1≠b) :
 ∃t,GX QL W s0 (s.put b (some (.loop lp'))) C stk' e F m Q O t ((b,.loop lp')::Ge b Φ):=by
 have a:=G.fro hb
 obtain⟨A,B,rfl⟩:=eI a
 have hw:cu (W.x Φ) (W.x ((b,.loop lp')::Ge b Φ)):=J0 (G.only hb) λp hp=>aP _ hp
 have c:=G.H.own _ a
 have hge:s0.next<=b:=by rcases c.2.2.2 with h|h;exact h;cases h
 have hlt:b<s.next:=c.2.1
 have hmost:=G.H.most
 have j:∀p,p∈A++(b,.loop lp)::B->p.1≠b->p∈A++(b,.loop lp')::B:=λp hp d=>by
  rcases aW.mp hp with h|h
  .exact bJ _ h
  .rcases aJ.mp h with rfl|h
   .exact(d rfl).elim
   .exact bA _ (aP _ h)
 refine⟨A++(b,.loop lp')::B,?_⟩
 exact{G with
  H:=G.H.putAt A _ r
  fro:=λp hp=>by
   rcases aJ.mp hp with rfl|hp
   .exact bA _ (aO ..)
   .exact j p (G.fro (cS.mp hp).1) (cS.mp hp).2
  own:=λi q o h1 h2 hi=>j _ (G.own i q o h1 h2 hi) λe=>G.dis i q o _ hi h1 h2 hb e.symm
  lent:=λi q o h1 h2 hi=>by
   obtain⟨g1,g2⟩:=G.lent i q o h1 h2 hi
   exact⟨by rw[St.get_put (by unfold zA at r;omega),aD Oz];exact g1,g2⟩
  dis:=λi q o p hi h1 h2 hp=>by
   rcases aJ.mp hp with rfl|hp
   .exact λe=>G.dis i q o _ hi h1 h2 hb e
   .exact G.dis i q o p hi h1 h2 (cS.mp hp).1
  obj:=λi b q o h0 h1 h2=>(G.obj i b q o h0 h1 h2).mono hw cd.rfl
  cob:=λi b q o h0 k h1 h2=>(G.cob i b q o h0 k h1 h2).mono hw cd.rfl
  slots:=G.slots.mono hw cd.rfl
  cslots:=G.cslots.mono hw cd.rfl
  stk:=λf hf=>by
   obtain⟨g,hg,e1,e2,u,v⟩:=l f hf
   obtain⟨g1,g2,w⟩:=G.stk g hg
   rw[e1,e2,u]
   refine⟨g1,g2.mono hw cd.rfl,λp hp=>?_⟩
   rcases v p hp with rfl|⟨h,d⟩
   .exact aO ..
   .exact aP _ (cS.mpr ⟨w h,d⟩)}
theorem GX.show(G:GX QL W s0 s C stk e F m Q O L Φ){b j:Nat}{lp:Lp}{q:Value×Nat}(hb:(b,ak.loop lp)∈Φ)(o:Q[j]? = some q)(y:q.2=b)(hj:C.lent<=j){ob:Ob}(z:∀f,f∈stk->∀p,p∈f.psi->p.1≠b)
 (w:∀W',cu (W.x Φ) W'->cZ W' Q ob q (some (.loop lp))) (v:ob=.const->∀b',C.objs[j]? = some b'->∀W',cu (W.x Φ) W'->cZ W' (Q.take C.n) b' q (some (.loop lp))) :
 GX QL W s0 s C stk (e.setO j ob) F m Q (zM O j (some (.loop lp))) L (Ge b Φ):=by
 subst y
 have hw:cu (W.x Φ) (W.x (Ge q.2 Φ)):=J0 (G.only hb) λp hp=>hp
 have t:j<Q.length:=(aM.mp o).1
 have l:∀(i:Nat) a,(zM O j (some (.loop lp)))[i]? = some a->(i=j/\a=some (.loop lp))\/(i≠j/\O[i]? = some a):=λi a h=>by
  rw[xV]at h
  split at h
  .next h1=>cases h;exact .inl ⟨h1.1,rfl⟩
  .next h1=>
   refine .inr ⟨λe=>?_,h⟩
   subst e
   exact h1 ⟨rfl,by rw[G.oq];exact t⟩
 have A:∀(i:Nat) b',(zM e.objs j ob)[i]? = some b'->(i=j/\b'=ob)\/(i≠j/\e.objs[i]? = some b'):=λi b' h=>by
  rw[xV]at h
  split at h
  .next h1=>cases h;exact .inl ⟨h1.1,rfl⟩
  .next h1=>
   refine .inr ⟨λE=>?_,h⟩
   subst E
   exact h1 ⟨rfl,by rw[G.len];exact t⟩
 exact{G with
  oq:=by rw[y9];exact G.oq
  len:=by simp only[En.setO,y9];exact G.len
  fro:=λp hp=>G.fro (cS.mp hp).1
  own:=λi c a h1 h2 hi=>by
   rcases l i _ h2 with⟨rfl,h⟩|⟨d,h⟩
   .cases h;rw[o]at h1;cases h1;exact G.fro hb
   .exact G.own i c a h1 h hi
  lent:=λi c a h1 h2 hi=>by
   rcases l i _ h2 with⟨rfl,h⟩|⟨d,h⟩
   .omega
   .exact G.lent i c a h1 h hi
  inj:=λi1 i2 c D a B h1 h2 I J he=>by
   have key:∀(i:Nat) c a,Q[i]? = some c->O[i]? = some (some a)->c.2≠q.2:=λi c a h1 h2 he=>by
    by_cases hi:C.lent<=i
    .exact G.dis i c a _ hi h1 h2 hb he.symm
    .have g1:=(G.lent i c a h1 h2 Oz).2
     rcases(G.H.own _ (G.fro hb)).2.2.2 with h|h
     .simp only at h;omega
     .cases h
   rcases l i1 _ I with⟨rfl,h⟩|⟨d,h⟩<;>rcases l i2 _ J with⟨g,k⟩|⟨g,k⟩
   .exact g.symm
   .rw[o]at h1;cases h1;exact(key i2 D B h2 k he.symm).elim
   .subst g;rw[o]at h2;cases h2;exact(key i1 c a h1 h he).elim
   .exact G.inj i1 i2 c D a B h1 h2 h k he
  dis:=λi c a p hi h1 h2 hp=>by
   rcases l i _ h2 with⟨rfl,h⟩|⟨d,h⟩
   .rw[o]at h1;cases h1;exact(cS.mp hp).2
   .exact G.dis i c a p hi h1 h (cS.mp hp).1
  obj:=λi u c a h0 h1 h2=>by
   rcases A i _ h0 with⟨rfl,rfl⟩|⟨d,h0⟩<;>rcases l i _ h2 with⟨g,k⟩|⟨g,k⟩
   .subst k;rw[o]at h1;cases h1;exact w _ hw
   .exact(g rfl).elim
   .exact(d g).elim
   .exact(G.obj i u c a h0 h1 k).mono hw cd.rfl
  cob:=λi u c a h0 r h1 h2=>by
   rcases A i _ h0 with⟨rfl,K⟩|⟨d,h0⟩<;>rcases l i _ h2 with⟨g,k⟩|⟨g,k⟩
   .subst k;rw[o]at h1;cases h1;exact v K.symm u r _ hw
   .exact(g rfl).elim
   .exact(d g).elim
   .exact(G.cob i u c a h0 r h1 k).mono hw cd.rfl
  slots:=G.slots.mono hw cd.rfl
  cslots:=G.cslots.mono hw cd.rfl
  stk:=λf hf=>⟨(G.stk f hf).1,(G.stk f hf).2.1.mono hw cd.rfl,λp hp=>cS.mpr ⟨(G.stk f hf).2.2 hp,z f hf p hp⟩⟩}
end
theorem J2:∀{a c:List Ob},(Ib a c).length=c.length
 | [],[]=>rfl
 |_::_,[]=>rfl
 |o::r,c::s=>by simp only[Ib,aU,J2]
 | [],c::s=>by simp only[Ib,aU,J2]
theorem QG:∀{a c:List Ob} {i:Nat} {b:Ob},(Ib a c)[i]? = some b->(c[i]? = some .const/\(a[i]? = some b\/b=.dead))\/(c[i]? = some b/\b≠.const)
 | [],[],i,b,h=>by cases h
 |_::_,[],i,b,h=>by cases h
 |o::r,c::s,0,b,h=>by
  cases c<;>cases h<;>first|exact .inl ⟨rfl,.inl rfl⟩|exact .inr ⟨rfl,(λh=>nomatch h)⟩
 | [],c::s,0,b,h=>by
  cases c<;>cases h<;>first|exact .inl ⟨rfl,.inr rfl⟩|exact .inr ⟨rfl,(λh=>nomatch h)⟩
 |o::r,c::s,i+1,b,h=>by simpa only[cR]using QG (a:=r) (c:=s) (i:=i) h
 | [],c::s,i+1,b,h=>by
  rcases QG (a:=[]) (c:=s) (i:=i) h with⟨h1,h2⟩|h
  .exact .inl ⟨h1,h2.imp (λh=>by cases h) id⟩
  .exact .inr h
theorem JF:∀{a c:List Ob} {i:Nat} {b:Ob},a[i]? = some b->b≠.const->(gD a c)[i]? = some b
 |o::r,[],i,b,h,_=>by cases o<;>exact h
 |o::r,d::s,0,b,h,hb=>by cases h;cases o<;>first|rfl|exact(hb rfl).elim
 |o::r,d::s,i+1,b,h,hb=>by
  have:=JF (a:=r) (c:=s) (i:=i) h hb
  cases o<;>exact this
theorem Xn{h:Hi}{a:List (Option Nat)}:∀{l:List Ob} {n:Nat},(Zq h a l n).length=l.length
 | [],_=>rfl
 |_::l,n=>by simp only[Zq,aU,Xn]
theorem WO{h:Hi}{a:List (Option Nat)}:∀{l:List Ob} {n i:Nat} {b:Ob},(Zq h a l n)[i]? = some b->b=.dead\/(b=.const/\K8 (n+i) a=false)
 |o::l,n,0,b,hb=>by
  simp only[Zq,eM,bH]at hb
  subst hb
  split
  .exact .inl rfl
  .split
   .exact .inl rfl
   .next hm=>
    split
    .exact .inl rfl
    .exact .inr ⟨rfl,hm⟩
 |o::l,n,i+1,b,hb=>by
  have:=WO (l:=l) (n:=n+1) (i:=i) hb
  rw[show n+1+i=n+(i+1)by omega]at this
  exact this
theorem Xp:∀{a c:List Ob} {i:Nat},XW a c=true->a[i]? = some .const->c[i]? = some .const
 |p::r,o::s,0,h,h1=>by
  cases h1
  simp only[XW,kK,eJ,Bool.false_or,aF]at h
  cases o<;>first|rfl|(simp[kK]at h)
 |p::r,o::s,i+1,h,h1=>by
  simp only[XW,aF]at h
  exact Xp (a:=r) (c:=s) (i:=i) h.2 h1
 |p::r,[],0,h,h1=>by cases h1;simp[XW,kK]at h
 |p::r,[],i+1,h,h1=>by
  simp only[XW,aF]at h
  have:=Xp (a:=r) (c:=[]) (i:=i) h.2 h1
  cases this
theorem Ku{skel:List Ob}:∀{l:List (Option Nat)} {k j:Nat},mw skel l=true->l[k]? = some (some j)->skel[j]? ≠ some .const
 |some i::r,0,j,h,h1=>by
  cases h1
  simp only[mw,aF,zN]at h
  intro he
  rw[he]at h
  cases h.1
 |none::r,0,j,h,h1=>by cases h1
 |some i::r,k+1,j,h,h1=>by
  simp only[mw,aF]at h
  exact Ku (l:=r) (k:=k) h.2 h1
 |none::r,k+1,j,h,h1=>Ku (l:=r) (k:=k) h h1
theorem VM{C:Cx}{e:En}:∀{l:List Nat} {p:Nat×Pv},p∈XK C e l->p∈e.slots
 |t::r,p,h=>by
  simp only[XK]at h
  split at h
  .next v hv=>
   rcases aJ.mp h with rfl|h
   .exact Vv hv
   .exact VM h
  .exact VM h
section
variable{W:Wd}{s0 s:St}{C:Cx}{QL:Qs}{stk:List fy}{e:En}{F:FF}{m:Nat}{Q:Qs}{O:List (Option ak)}{L Φ:au}
theorem zhs{l:List Nat}:∀{e b:En} {O:List (Option ak)} {Φ:au},GX QL W s0 s C stk e F m Q O L Φ->o6 C e l=some b->∃c a,GX QL W s0 s C stk b F m Q c L a:=by
 induction l with
 |nil=>intro e b O Φ G h;cases h;exact⟨_,_,G⟩
 |cons t l f=>
  intro e b O Φ G h
  simp only[o6]at h
  split at h
  .split at h
   .next e1 h1=>
    obtain⟨c,a,d⟩:=G.frzP h1
    exact f d h
   .cases h
  .cases h
abbrev Nd(C:Cx)(e:En)(cst:List (Nat×Pv)):Cx:={slots:=cst++C.slots,objs:=gD e.objs C.objs,n:=yD e.objs 0,lent:=C.lent}
theorem GX.inLoop(G:GX QL W s0 s C stk e F m Q O L Φ){l:List Nat}:GX QL W s0 s (Nd C e (XK C e l)) stk e F m Q O L Φ:=by
 have hn:yD e.objs 0=Q.length:=by rw[yf,bM,G.len]
 exact{G with
  cn:=by simp only[hn];exact aN _
  ln:=by simp only[hn];exact bK G.ln G.cn
  cob:=λi b q o h0 a h1 h2=>by
   simp only[hn,bE]
   rcases gC a with⟨c,d⟩|c
   .exact(G.cob i b q o c d h1 h2).mono cu.rfl cd.take
   .exact G.obj i b q o c h1 h2
  cslots:=λp hp=>by
   simp only[hn,bE]
   rcases aW.mp hp with h|h
   .exact G.slots p (VM h)
   .exact(G.cslots p h).mono cu.rfl cd.take
  stk:=λf hf=>⟨by simp only[hn];exact bK (G.stk f hf).1 G.cn,(G.stk f hf).2⟩}
theorem GX.leave{s1:St}{e1:En}{g:FF}{m1:Nat}{n:Qs}{k:List (Option ak)}{j Φ1:au}{l:List Nat}(G:GX QL W s0 s C stk e F m Q O L Φ)(G1:GX QL W s0 s1 (Nd C e (XK C e l)) stk e1 g m1 n k j Φ1) :
 GX QL W s0 s1 C stk (En.leave (XK C e l) e.objs e1) g m1 n k j Φ1:=by
 have hn:yD e.objs 0=Q.length:=by rw[yf,bM,G.len]
 exact{G1 with
  len:=by simp only[En.leave,J2];exact G1.len
  cn:=by have h1:=G1.cn;have h2:=G.cn;simp only at h1;omega
  ln:=G.ln
  obj:=λi b q o h0 h1 h2=>by
   rcases QG h0 with⟨c,a|a⟩|⟨c,a⟩
   .by_cases hb:b=.const
    .subst hb;trivial
    .exact(G1.cob i b q o c (JF a hb) h1 h2).mono cu.rfl cd.take
   .subst a;trivial
   .exact G1.obj i b q o c h1 h2
  cob:=λi b q o h0 d h1 h2=>by
   rcases QG h0 with⟨c,a|a⟩|⟨c,a⟩
   .have r:=G1.cob i b q o c (ZZ a d) h1 h2
    have hi:i<Q.length:=by rw[<-G.len];exact(aM.mp a).1
    have t:=G.cob i b _ _ a d (aE hi) (aE (by rw[G.oq];exact hi))
    exact cZ.back t (r.mono cu.rfl cd.take)
   .cases a
   .exact(a rfl).elim
  slots:=λp hp=>by
   rcases aW.mp hp with h|h
   .exact G1.slots p h
   .exact(G1.cslots p (bJ _ h)).mono cu.rfl cd.take
  cslots:=λp hp=>cL.back (G.cslots p hp) ((G1.cslots p (bA _ hp)).mono cu.rfl cd.take)
  stk:=λf hf=>⟨(G.stk f hf).1,(G1.stk f hf).2⟩}
end
theorem Ju{ρ:Type}{w:En->En}:∀{a:List (Nat×(En->Option ρ))} {i:Nat} {k:En->Option ρ},cW (p8 w a) i=some k->∃k',cW a i=some k'/\k=λe=>k' (w e)
 |(j,b)::r,i,k,h=>by
  simp only[p8,cW]at h |-
  split at h
  .next hb=>cases h;exact⟨b,rfl,rfl⟩
  .next hb=>exact Ju h
section
variable{I:zZ}{Γ:TypeId->Option Ty}{T:FuncId->Option eQ}{ρ:Type}{inl:ir ρ}{rc:Nat}{W:Wd}{s0:St}{QL:Qs}{stk:List fy}
theorem zbf(hI:zx I)(hT:QE I T)(hin:∀W s0,Qr I W s0 inl rc){r:ρ}{N:Nat}(c:Code):∀{C:Cx} {hs:List Hi} {U:List (Nat×(En->Option ρ))} {S k:En->Option ρ} {e:En} {F:FF} {s:St} {m:Nat} {P:bk->Prop},vg QL W s0 s C stk e F m ->
 qS Γ T inl rc N c C hs U S k e=some r->s0.next+(m+xS T rc c hs)<=zA ->
 (∀B A s' z,z<=m+xS T rc c hs->vg QL W s0 s' C stk B A z->k B=some r->P (.normal A s')) ->
 (∀i V,cW U i=some V->∀B A s' z,z<=m+xS T rc c hs->vg QL W s0 s' C stk B A z->V B=some r->P (.exit i A s')) ->
 (∀B A s' z,z<=m+xS T rc c hs->vg QL W s0 s' C stk B A z->S B=some r->P (.ret A s'))->aI Tryz.prog I N c F s P:=by
 induction c with
 |skip=>
  intro C hs U S k e F s m P G h J hk hx E
  exact hk e F s m (Nat.le_add_right ..) G h
 |label i=>
  intro C hs U S k e F s m P G h J hk hx E
  unfold qS at h
  exact⟨.normal F s,hk e F s m (Nat.le_add_right ..) G h,1,λm hm=>by obtain⟨m,rfl⟩:∃k,m=k+1:=⟨m-1,by omega⟩;rfl⟩
 |exit i=>
  intro C hs U S k e F s m P G h J hk hx E
  unfold qS at h
  split at h
  .next V D=>exact hx i V D e F s m (Nat.le_add_right ..) G h
  .cases h
 |ret=>
  intro C hs U S k e F s m P G h J hk hx E
  exact E e F s m (Nat.le_add_right ..) G h
 |scope b ih=>
  intro C hs U S k e F s m P G h J hk hx E
  unfold qS at h
  exact ih (P:=P) G h J hk hx E
 |seq x y ihx ihy=>
  intro C hs U S k e F s m P G h J hk hx E
  unfold qS at h
  simp only[xS]at J hk hx E
  refine ihx (P:=mu (λF s=>aI Tryz.prog I N y F s P) P) G h Oz ?_ ?_ ?_
  .intro B A s' z hm G' M
   exact ihy G' M Oz (λu F'' w a d=>hk u F'' w a Oz) (λi V D u F'' w a d=>hx i V D u F'' w a Oz) (λu F'' w a d=>E u F'' w a Oz)
  .intro i V D B A s' z hm
   exact hx i V D B A s' z Oz
  .intro B A s' z hm
   exact E B A s' z Oz
 |cond c x y ihx ihy=>
  intro C hs U S k e F s m P G h J hk hx E
  unfold qS at h
  simp only[xS]at J hk hx E
  obtain⟨Q,O,L,Φ,G⟩:=G
  split at h
  .next b hb=>
   have hc:zd F c=.bool b:=(List.cons.inj (show [zd F c]=[Value.bool b]from G.ev hb)).1
   split at h
   .next hbt=>
    subst hbt
    exact yI hc (ihx (G.mark hb).good h Oz (λu F'' w a d=>hk u F'' w a Oz) (λi V D u F'' w a d=>hx i V D u F'' w a Oz) (λu F'' w a d=>E u F'' w a Oz))
   .next hbf=>
    obtain rfl:b=false:=by simpa using hbf
    exact yh hc (ihy (G.mark hb).good h Oz (λu F'' w a d=>hk u F'' w a Oz) (λi V D u F'' w a d=>hx i V D u F'' w a Oz) (λu F'' w a d=>E u F'' w a Oz))
  .cases h
 |block i b ih=>
  intro C hs U S k e F s m P G h J hk hx E
  unfold qS at h
  refine ih (P:=vq i P) G h J hk ?_ E
  intro j kj hkj B A s' z hm G' M
  simp only[cW]at hkj
  simp only[vq]
  rw[show Nat.beq i j=Nat.beq j i from Bool.eq_iff_iff.mpr (by simp only[Nat.beq_eq];exact eq_comm)]at hkj
  split at hkj
  .next hb=>cases hkj;rw[hb];exact hk B A s' z hm G' M
  .next hb=>rw[hb];exact hx j kj hkj B A s' z hm G' M
 |region id ops dr=>
  intro C hs U S k e F s m P G h J hk hx E
  cases dr with
  |false=>
   unfold qS at h
   simp only[xS]at J hk
   exact zW (zeK hI hT (hin W s0) G h J hk)
  |true=>
   unfold qS at h
   simp only[xS]at J hk
   split at h
   .next hp=>exact uz _ hp rfl (qq hI hT hin G h J hk)
   .cases h
 |loop b ih=>
  intro C hs U S k e F s m P G h J hk hx E
  unfold qS at h
  split at h
  .next hd hs=>
   simp only[xS]at J hx E
   split at h
   ·-- round by round
    have key:∀(n:Nat) (e:En) (F:FF) (s:St) (z:Nat),z+n*xS T rc b hs<=m+hd.fuel*xS T rc b hs->vg QL W s0 s C stk e F z->zk (λagain e=>qS Γ T inl rc N b C hs U S again e) n e=some r->aI Tryz.prog I N (.loop b) F s P:=by
     intro n
     induction n with
     |zero=>intro e F s z _ _ h;cases h
     |succ n ihn=>
      intro e F s z hm G h
      have hmul:(n+1)*xS T rc b hs=n*xS T rc b hs+xS T rc b hs:=by rw[dM,eG]
      rw[hmul]at hm
      refine XI (ih (P:=I9 Tryz.prog I N b.loop P) G h Oz ?_ ?_ ?_)
      .intro B A s' a d G' M;exact ihn B A s' a Oz G' M
      .intro i V D B A s' a d G' M;exact hx i V D B A s' a Oz G' M
      .intro B A s' a d G' M;exact E B A s' a Oz G' M
    exact key hd.fuel e F s m Oz G h
   unfold EZ at h
   split at h
   .next K he0=>
    obtain⟨Q,O,L,Φ,G⟩:=G
    obtain⟨O0,Φ0,G0⟩:=zhs G he0
    split at h
    .next R hsrcs=>
     simp only at h
     split at h
     .next x hx0=>
      have hn:yD K.objs 0=Q.length:=by rw[yf,bM,G0.len]
      have G1:=G0.inLoop (l:=hd.cst)
      have Y:∀(i:Nat) b,(Zq hd R K.objs 0)[i]? = some b->b=.dead\/(b=.const/\K8 i R=false):=λi b hb=>by
       have:=WO hb;rwa[cB]at this
      obtain⟨Q1,O1,G2⟩:=zgX (skel:=Zq hd R K.objs 0) G1 (C0:=C) (λt p hp=>G0.ev (x:=.tmp t) hp) (by simp only[Xn,yf,bM])
       (λi b hb=>(Y i b hb).imp_right λh=>⟨h.1,λb' q o h1 h2 h3=>by
        simp only at h1 |-
        rw[hn,bE]
        rcases gC h1 with⟨h4,h5⟩|h4
        .exact(G0.cob i b' q o h4 h5 h2 h3).mono cu.rfl cd.take
        .exact G0.obj i b' q o h4 h2 h3⟩)
       (λk j hk hc=>by
        rcases Y j _ hc with h|⟨_,h⟩
        .cases h
        .rw[jM hk]at h;cases h) hx0
      have hlen:(Zq hd R K.objs 0).length=yD K.objs 0:=by rw[Xn,yf,bM]
      generalize hsk:Zq hd R K.objs 0=skel at h Y G2 hlen
      rw[zF]at h
      -- the rounds
      have key:∀(n:Nat) (x:Tp hd.ts) (F:FF) (s:St) (z:Nat),z+n*xS T rc b hs<=m+hd.fuel*xS T rc b hs->vg QL W s0 s (Nd C K (XK C K hd.cst)) stk (Lm hd (yD K.objs 0) skel x) F z ->
       zk (λagain x=>qS Γ T inl rc N b (Nd C K (XK C K hd.cst)) hs (p8 (En.leave (XK C K hd.cst) K.objs) U) (λe=>S (En.leave (XK C K hd.cst) K.objs e)) (λB=>match nQ hd (Nd C K (XK C K hd.cst)) skel B with
        |some y=>again y
        |none=>none) (Lm hd (yD K.objs 0) skel x)) n x=some r->aI Tryz.prog I N (.loop b) F s P:=by
       intro n
       induction n with
       |zero=>intro x F s z _ _ h;cases h
       |succ n ihn=>
        intro x F s z hm G h
        have hmul:(n+1)*xS T rc b hs=n*xS T rc b hs+xS T rc b hs:=by rw[dM,eG]
        rw[hmul]at hm
        refine XI (ih (P:=I9 Tryz.prog I N b.loop P) G h Oz ?_ ?_ ?_)
        .intro B A s' a d G' M
         obtain⟨Q',O',L',Φ',G'⟩:=G'
         split at M
         .next y hy=>
          unfold nQ at hy
          split at hy
          .next e1 he1=>
           obtain⟨O'',Φ'',G'⟩:=zhs G' he1
           split at hy
           .next srcs' hsrcs'=>
            split at hy
            .next Z=>
             simp only[aF]at Z
             obtain⟨Q2,O2,G3⟩:=zgX (skel:=skel) G' (λt p hp=>G'.ev (x:=.tmp t) hp) hlen
              (λi b hb=>(Y i b hb).imp_right λh=>⟨h.1,λb' q o h1 h2 h3=>G'.cob i b' q o (Xp Z.1 (by rw[hb,h.1])) h1 h2 h3⟩)
              (λk j hk=>Ku Z.2 hk) hy
             exact ihn y A s' a Oz G3.good M
            .cases hy
           .cases hy
          .cases hy
         .cases M
        .intro i V D B A s' a d G' M
         obtain⟨Q',O',L',Φ',G'⟩:=G'
         obtain⟨k',hk',rfl⟩:=Ju D
         exact hx i k' hk' _ A s' a Oz (G0.leave G').good M
        .intro B A s' a d G' M
         obtain⟨Q',O',L',Φ',G'⟩:=G'
         exact E _ A s' a Oz (G0.leave G').good M
      exact key hd.fuel x F s m Oz G2.good h
     .cases h
    .cases h
   .cases h
  .cases h
 |rangeFunc f ps x y=>
  intro C hs U S k e F s m P G h J hk hx E
  unfold qS at h
  simp only[xS]at J hk E
  obtain⟨Q,O,L,Φ,G⟩:=G
  split at h
  .next g caps hf=>
   split at h
   .next Z=>
    rw[aF,aF,aF (Nat.ble N 65534&&Yv N f),aF (Nat.ble N 65534),aF (qX N x),aF (xE Tryz.prog g && !Nat.ble zy g),aF (xE Tryz.prog g)]at Z
    obtain⟨⟨⟨⟨hfun,X⟩,hw⟩,⟨⟨hN,htmp⟩,hnx,hny⟩⟩,hcode⟩:=Z
    have X:Nat.ble zy g=false:=by simpa using X
    obtain⟨cs,hff,hcs⟩:=G.ev hf
    have hm:=G.H.most
    have hol:yD e.objs 0=e.objs.length:=by rw[yf,bM]
    rw[hol]at h
    have hlen:=G.len
    refine n6 (aR hN) hff hfun rfl (G.H.room Oz) htmp (λfr ha=>?_) X
    have G1:=G.new (v:=undef) Oz (o:=.loop {fr:=fr,params:=ps.toList,assign:=x,body:=y,state:=.ready,pend:=none}) (b:=.loop N (e.slots++C.slots) ps.toList x y .ready none)
     ⟨⟨hcode,hnx,hny⟩,fr,F,rfl,ha,λp hp=>by
      rcases aW.mp hp with h|h
      .exact(G.slots p h).mono cu.rfl cd.app
      .exact(G.cslots p h).mono cu.rfl (cd.take.trans cd.app)⟩ (λh=>nomatch h)
    have hnth:=G.nth (q:=(undef,s.next))
    have G2:=(G1.enter F).push (f:=⟨[(0,.one (.yl e.objs.length))],λ_=>.func (.yield s.next) ⟨[]⟩ ⟨[]⟩,e.objs.length+1,[]⟩) Y8 (λp hp=>by
     rcases aJ.mp hp with rfl|hp
     .exact⟨_,by rw[List.getElem?_take,aG (Nat.lt_succ_self _)];exact hnth,rfl⟩
     .cases hp) (List.nil_subset _)
    rw[<-jH (Q:=Q++[(undef,s.next)]) X]
    refine hin W s0 h G2 rfl (vs:=_::cs) ⟨_,cs,rfl,⟨_,hnth,rfl⟩,er.caps (hcs.mono cu.rfl cd.app) hw⟩ Oz ?_
    intro p v o s' z Q' O' L' Φ' hm' G' hp hk'
    obtain⟨q',hq',hv'⟩:=(G'.stk _ (aO ..)).2.1 _ (aO ..)
    have hqn:q'.2=s.next:=by
     have:=(List.cons.inj hv').1
     simp only[Value.func.injEq,Fn.yield.injEq]at this
     exact this.1.symm
    have hq':Q'[e.objs.length]? = some q':=cd.take _ _ hq'
    have hlj:C.lent<=e.objs.length:=by have:=G.ln;have:=G.cn;omega
    have key:∀st pend N' sl' ps' x' y',zH o e.objs.length=some (.loop N' sl' ps' x' y' st pend)->wP (e.objs++[Ob.loop N (e.slots++C.slots) ps.toList x y .ready none]) o=true->∃lp,lp.state=st/\lp.pend=pend/\s'.may s.next=true/\s'.get s.next=some (.loop lp) /\
     vg QL W s0 (s'.put s.next (some (.loop {lp with state:=.exhausted}))) C stk {e with objs:=zM o e.objs.length .dead} F z:=by
     intro st pend N' sl' ps' x' y' hob hc
     have G3:=G1.exit (F'':=F) G'.pop hc
     rw[zN]at hob
     obtain⟨oo,hoo⟩:∃oo,O'[e.objs.length]? = some oo:=⟨_,aE (by rw[G'.oq];exact(aM.mp hq').1)⟩
     obtain⟨_,fr',F0,rfl,_,_⟩:=G3.obj _ _ q' oo hob hq' hoo
     have hown:=G3.H.own _ (G3.own _ q' _ hq' hoo hlj)
     have hm3:=G3.H.most
     obtain⟨L3,G4⟩:=G3.write Oz (o':=.loop {fr:=fr',params:=ps',assign:=x',body:=y',state:=.exhausted,pend:=pend}) (b:=.dead) hq' hoo hlj trivial (λh=>nomatch h)
     rw[<-hqn]
     exact⟨_,rfl,rfl,hown.2.2.1,hown.1,G4.good⟩
    split at hk'
    .next hob hc=>
     obtain⟨lp,h1,h2,h3,h4,G5⟩:=key _ _ _ _ _ _ _ hob hc
     refine⟨lp,h3,h4,by rw[h1];rfl,?_⟩
     rw[h2]at G5 |-
     exact hk _ F _ z Oz G5 hk'
    .next hob hc=>
     obtain⟨lp,h1,h2,h3,h4,G5⟩:=key _ _ _ _ _ _ _ hob hc
     refine⟨lp,h3,h4,by rw[h1];rfl,?_⟩
     rw[h2]at G5 |-
     exact E _ F _ z Oz G5 hk'
    .cases hk'
   .cases h
  .cases h
 |_=>
  intro C hs U S k e F s m P G h J hk hx E
  unfold qS at h
  cases h
end
section
variable{W:Wd}{Q:Qs}
theorem Jx:∀{l:List Value} {n t:Nat} {F:FF},t<n->Qh l n F t=F t
 | [],n,t,F,h=>rfl
 |v::l,n,t,F,h=>by
  simp only[Qh]
  rw[Jx Oz,vk,aD Oz]
theorem Qc:∀{ps:List Pv} {vs:List Value} {n:Nat} {F:FF},er W Q ps vs->ff W Q (AT n ps) (Qh vs n F)
 | [],vs,n,F,h,p,hp=>by cases hp
 |q::ps,vs,n,F,⟨v,r,e,h1,h2⟩,p,hp=>by
  subst e
  simp only[Qh]
  rcases aJ.mp hp with rfl|hp
  .rw[Jx Y8,vk,aG rfl];exact h1
  .exact Qc h2 p hp
theorem zgx:∀{ps:List Pv} {b:List (Bool×List Lf)} {vs:List Value},er W Q ps vs->BT ps=some b->fO W Q b vs
 | [],b,vs,h,a=>by cases a;exact h
 |p::ps,b,vs,⟨v,r,e,h1,h2⟩,a=>by
  simp only[BT]at a
  split at a
  .next q l c hl=>cases a;exact⟨v,r,e,zeo h1 c,zgx h2 hl⟩
  .cases a
end
section
variable{W:Wd}{s0 s:St}{C:Cx}{QL:Qs}{stk:List fy}{e:En}{F:FF}{m:Nat}{Q:Qs}{O:List (Option ak)}{L Φ:au}
theorem R5(G:GX QL W s0 s C stk e F m Q O L Φ):∀{rs:List ResultVar} {ps:List Pv},mi C e rs=some ps->∃vs,qP Tryz.prog F s rs=some vs/\er (W.x Φ) Q ps vs
 | [],ps,h=>by cases h;exact⟨[],rfl,rfl⟩
 | .tmp t::rs,ps,h=>by
  simp only[mi]at h
  split at h
  .next p l hp hl=>
   cases h
   obtain⟨vs,h1,h2⟩:=R5 G hl
   exact⟨F t::vs,by simp only[qP,h1],F t,vs,rfl,G.ev (x:=.tmp t) hp,h2⟩
  .cases h
 | .cell t ty::rs,ps,h=>by
  simp only[mi]at h
  split at h
  .next j off l hp hl=>
   split at h
   .next c ho=>
    split at h
    .next p hc=>
     cases h
     obtain⟨vs,h1,h2⟩:=R5 G hl
     obtain⟨q,f,hx⟩:=G.ev (x:=.tmp t) hp
     have hx:=(List.cons.inj hx).1
     obtain⟨q',cs,tt,b,_,hg,d⟩:=G.see.cel _ _ ho
     rw[f]at b;cases b
     obtain⟨v,g1,g2⟩:=VK d hc
     have a:wc Tryz.prog ty (F t) s=some v:=by
      have hx:F t=.pointer (some ⟨q.2,off,none⟩):=hx
      simp only[wc,hx,hg,g1]
     exact⟨v::vs,by simp only[qP,h1,a],v,vs,rfl,g2,h2⟩
    .cases h
   .cases h
  .cases h
end
theorem ff.putS{W:Wd}{Q:Qs}{l:List (Nat×Pv)}{F:FF}{t:Nat}{p:Pv}{v:Value}(h:ff W Q l F)(hp:cL W Q p v):ff W Q (putS l t p) (ba F (some t) v):=λx hx=>by
 rcases aJ.mp hx with rfl|hx
 .rw[vk,aG rfl];exact hp
 .obtain⟨h1,h2⟩:=XD hx
  rw[vk,aD h2];exact h _ h1
theorem ff.putPs{W:Wd}{Q:Qs}:∀{ts:List Nat} {ps:List Pv} {vs:List Value} {l:List (Nat×Pv)} {F:FF},ff W Q l F->er W Q ps vs->ps.length=ts.length->ff W Q (putPs ts ps l) (F3 F ts vs)
 | [],[],vs,l,F,h,hp,_=>by rw[show vs=[]from hp];exact h
 |t::ts,p::ps,vs,l,F,h,⟨v,r,e,h1,h2⟩,hl=>by
  subst e
  exact ff.putPs (ts:=ts) (h.putS h1) h2 (by simpa using hl)
section
variable{I:zZ}{Γ:TypeId->Option Ty}{T:FuncId->Option eQ}{Hs:FuncId->List Hi}{ρ:Type}{W:Wd}{s0:St}
theorem HE(hI:zx I)(hT:QE I T){inl:ir ρ}{rc rc1:Nat}(hin:∀W s0,Qr I W s0 inl rc1){j:Nat}{co:List Ob}{lent:Nat}{args:List Pv}{objs:List Ob}{k:Pv->List Ob->Option ρ}{r:ρ}(h:HD Γ T rc rc1 inl j co lent args objs k=some r)
 {QL:Qs} {s:St} {stk:List fy} {m:Nat} {Q:Qs} {O:List (Option ak)} {L Φ:au} {n:Nat} {F:FF} {vs:List Value} (G:GX QL W s0 s ⟨[],co,n,lent⟩ stk ⟨[],objs⟩ F m Q O L Φ) (hn:n=objs.length) (hps:er (W.x Φ) Q args vs) (hB:s0.next+(m+rc)<=zA)
 {Post:Value->St->Prop} (hP:∀p v o s' m' Q' O' L' Φ',m'<=m+rc->GX QL W s0 s' ⟨[],co,n,lent⟩ stk ⟨[],o⟩ F m' Q' O' L' Φ'->cL (W.x Φ') Q' p v->k p o=some r->Post v s'):∃v s',vr Tryz.prog I (FY Q (zy+j)) ⟨vs⟩ s v s'/\Post v s':=by
 unfold HD at h
 rw[yf,bM,<-hn]at h
 split at h
 .next N slots ps x y old d hold=>
  split at h
  .next hck=>
   simp only[aF]at hck
   obtain⟨⟨hlen,b⟩,E⟩:=hck
   have b:=aR b
   have E:=aR E
   have hlen:args.length=ps.length:=by
    have:=aK hlen
    rw[yf,yf]at this;omega
   obtain⟨q,o,Z,ho,c,fr,X,rfl,ha,hs⟩:=G.at d
   rw[zcf Z]
   have hnQ:Q.length=n:=by rw[hn];exact G.len.symm
   have hjn:j<n:=by rw[<-hnQ];exact(aM.mp Z).1
   have K:=G.own j q _ Z ho b
   have hown:=G.H.own _ K
   obtain⟨A,B,hL⟩:=eI K
   have z:∀f,f∈stk->∀p,p∈f.psi->p.1≠q.2:=λf hf p hp=>G.dis j q _ p b Z ho ((G.stk f hf).2.2 hp)
   have G1:=G.frzNew Z ho b hL (s':=s) (o':=.loop {fr:=fr,params:=ps,assign:=x,body:=y,state:=.ready,pend:=none}) (by rw[<-hL];exact G.H)
   have hw:cu (W.x Φ) (W.x ((q.2,.loop {fr:=fr,params:=ps,assign:=x,body:=y,state:=.ready,pend:=none})::Φ)):=vK λp hp=>aP _ hp
   have J:Q.take n=Q:=by rw[<-hnQ,bE]
   have G2:=(G1.push (f:=⟨slots,X,n,[(q.2,.loop {fr:=fr,params:=ps,assign:=x,body:=y,state:=.ready,pend:=none})]⟩) (aN _) (by rw[J];exact hs.mono hw cd.rfl) (λp hp=>by
    rcases aJ.mp hp with rfl|hp
    .exact aO ..
    .cases hp)).push (f:=⟨[(0,.one (.yl j))],λ_=>.func (.yield q.2) ⟨[]⟩ ⟨[]⟩,n,[]⟩) (aN _) (λp hp=>by
    rcases aJ.mp hp with rfl|hp
    .rw[J];exact⟨q,Z,rfl⟩
    .cases hp) (List.nil_subset _)
   have G3:GX QL W s0 s ⟨[],co,n,lent⟩ _ ⟨putPs ps args slots,zM objs j .dead⟩ (F3 X ps vs) m Q (zM O j none) (A++(q.2,.loop {fr:=fr,params:=ps,assign:=x,body:=y,state:=.ready,pend:=none})::B) ((q.2,.loop {fr:=fr,params:=ps,assign:=x,body:=y,state:=.ready,pend:=none})::Φ):={G2 with
    slots:=ff.putPs (hs.mono hw cd.rfl) (er.mono hw cd.rfl hps) hlen
    cslots:=λ_ h=>nomatch h}
   have P:Nat.beq (yD (⟨vs⟩:Array Value).toList 0) (yD ps 0)=true:=by
    have:=hps.len
    rw[yf,yf,show(⟨vs⟩:Array Value).toList=vs from rfl,this,hlen];exact eL _
   refine rF (N:=N) hown.1 ha (by rw[c.1];exact P) c.2.1 c.2.2 (zbf (N:=N) hI hT hin x G3.good h Oz ?_ (λi ki S=>by cases S) (λe' F' s' m' _ _ h=>by cases h))
   intro e1 F1 s1 m1 hm1 ⟨Q1,O1,L1,Φ1,G4⟩ h1
   -- the record,as it was
   have D:(q.2,ak.loop {fr:=fr,params:=ps,assign:=x,body:=y,state:=.ready,pend:=none})∈Φ1:=(G4.stk _ (aP _ (aO ..))).2.2 (aO ..)
   have u:=G4.H.own _ (G4.fro D)
   refine⟨_,u.2.2.1,u.1,rfl,?_⟩
   obtain⟨L2,G5⟩:=G4.reput Oz (lp':={fr:=fr,params:=ps,assign:=x,body:=y,state:=.busy,pend:=none}) D
    (stk':=⟨[(0,.one (.yl j))],λ_=>.func (.yield q.2) ⟨[]⟩ ⟨[]⟩,n,[]⟩::⟨slots,X,n,[(q.2,.loop {fr:=fr,params:=ps,assign:=x,body:=y,state:=.busy,pend:=none})]⟩::stk) (λf hf=>by
     rcases aJ.mp hf with rfl|hf
     .exact⟨_,aO ..,rfl,rfl,rfl,λp hp=>by cases hp⟩
     .rcases aJ.mp hf with rfl|hf
      .exact⟨_,aP _ (aO ..),rfl,rfl,rfl,λp hp=>by
        rcases aJ.mp hp with rfl|hp
        .exact .inl rfl
        .cases hp⟩
      .exact⟨f,aP _ (aP _ hf),rfl,rfl,rfl,λp hp=>.inr ⟨hp,z f hf p hp⟩⟩)
   -- behind the body
   have fin:∀(Y:FF) (e2:En) (s2:St) (m2:Nat) (a:Option Code) (st:LoopState) (ob:Ob),m2<=m+rc->vg QL W s0 s2 ⟨[],co,n,lent⟩ (⟨[(0,.one (.yl j))],λ_=>.func (.yield q.2) ⟨[]⟩ ⟨[]⟩,n,[]⟩::⟨slots,X,n,[(q.2,.loop {fr:=fr,params:=ps,assign:=x,body:=y,state:=.busy,pend:=none})]⟩::stk) e2 Y m2 ->
    (st=match a with|none=>.ready|some _=>.done)->k (.one (.bool a.isNone)) (zM e2.objs j ob)=some r->(ob=old/\a=none\/ob=.loop N [] ps x y st a)->∃v s',jS q.2 a s2=.ret v s'/\Post v s':=by
    intro Y e2 s2 m2 a st ob U ⟨Q2,O2,L2',Φ2,G6⟩ hst hk M
    have g:(q.2,ak.loop {fr:=fr,params:=ps,assign:=x,body:=y,state:=.busy,pend:=none})∈Φ2:=(G6.stk _ (aP _ (aO ..))).2.2 (aO ..)
    have w:=G6.H.own _ (G6.fro g)
    refine⟨_,_,by unfold jS;rw[w.2.2.1,w.1],?_⟩
    have hsl:=(G6.stk _ (aP _ (aO ..))).2.1
    obtain⟨q2,V,hv2⟩:=(G6.stk _ (aO ..)).2.1 _ (aO ..)
    have hqn:q2.2=q.2:=by
     have:=(List.cons.inj hv2).1
     simp only[Value.func.injEq,Fn.yield.injEq]at this
     exact this.1.symm
    have V:Q2[j]? = some q2:=cd.take _ _ V
    have hm6:=G6.H.most
    obtain⟨L3,G7⟩:=G6.pop.pop.reput Oz (lp':={fr:=fr,params:=ps,assign:=x,body:=y,state:=st,pend:=a}) g (stk':=stk) (λf hf=>⟨f,hf,rfl,rfl,rfl,λp hp=>.inr ⟨hp,z f hf p hp⟩⟩)
    have hw2:cu (W.x Φ2) (W.x ((q.2,ak.loop {fr:=fr,params:=ps,assign:=x,body:=y,state:=st,pend:=a})::Ge q.2 Φ2)):=J0 (G6.only g) λp hp=>aP _ hp
    have t:a=none->∀W' Q',cu (W.x Φ2) W'->(Q'=Q2\/Q'=Q2.take n)->cZ W' Q' (.loop N slots ps x y .ready none) q2 (some (.loop {fr:=fr,params:=ps,assign:=x,body:=y,state:=st,pend:=a})):=by
     intro hj W' Q' l hQ'
     subst hj
     subst hst
     refine⟨c,fr,X,rfl,ha,?_⟩
     rcases hQ' with rfl|rfl
     .exact ff.mono l cd.take hsl
     .exact ff.mono l cd.rfl hsl
    have G8:=G7.show (ob:=ob) (aO ..) V hqn b z (λW' l=>by
     rcases M with⟨rfl,hj⟩|rfl
     .unfold En.obj at d
      rw[hold]at d
      cases ob with
      |const=>trivial
      |dead=>cases d
      |_=>
       simp only[bH]at d
       rw[d]
       exact t hj W' Q2 (hw2.trans l) (.inl rfl)
     .exact⟨c,fr,X,rfl,ha,λ_ h=>nomatch h⟩) (λhc b' R W' l=>by
     rcases M with⟨rfl,hj⟩|rfl
     .subst hc
      unfold En.obj at d
      rw[hold]at d
      simp only at d R
      rw[zN]at d
      rw[d]at R
      cases R
      exact t hj W' _ (hw2.trans l) (.inr rfl)
     .cases hc)
    have G9:GX QL W s0 (s2.put q.2 (some (.loop {fr:=fr,params:=ps,assign:=x,body:=y,state:=st,pend:=a}))) ⟨[],co,n,lent⟩ stk ⟨[],zM e2.objs j ob⟩ F m2 Q2 _ L3 _:={G8 with slots:=(λ_ h=>nomatch h),cslots:=(λ_ h=>nomatch h)}
    have:=hP (.one (.bool a.isNone)) (.bool a.isNone) _ _ m2 _ _ _ _ U G9 rfl hk
    rw[hst]at this
    exact this
   refine zbf (N:=N) hI hT hin y G5.good h1 Oz ?_ (λi ki S=>by cases S) ?_
   .intro e2 Y s2 m2 U G6 h2
    exact fin Y e2 s2 m2 none .ready old Oz G6 rfl h2 (.inl ⟨rfl,rfl⟩)
   .intro e2 Y s2 m2 U G6 h2
    exact fin Y e2 s2 m2 (some .ret) .done _ Oz G6 rfl h2 (.inr rfl)
  .cases h
 .cases h
theorem zfj(P:zx I)(Z:QE I T):∀(rs:List Nat) (W:Wd) (s0:St),Qr I W s0 (Ga (ρ:=ρ) Γ T Hs rs) (fF rs):=by
 intro rs
 induction rs with
 |nil=>
  intro W s0 g co lent ps objs k r h
  cases h
 |cons rc rs ih=>
  intro W s0 g co lent ps objs k r h QL s stk m Q O L Φ n F vs G hn A N Post B
  replace h:GS Γ T Hs rc (fF rs) (Ga Γ T Hs rs) g co lent ps objs k=some r:=h
  have N:s0.next+(m+rc)<=zA:=N
  have B:∀p v o s' d Q' K J j,d<=m+rc->GX QL W s0 s' ⟨[],co,n,lent⟩ stk ⟨[],o⟩ F d Q' K J j->cL (W.x j) Q' p v->k p o=some r->Post v s':=B
  unfold GS at h
  cases f:Nat.ble zy g
  case true=>
   rw[f]at h
   simp only at h
   have:=HE (stk:=stk) P Z ih h G hn A N B
   rw[Nat.add_sub_cancel' (aR f)]at this
   exact this
  rw[f]at h
  simp only at h
  rw[jH f]
  split at h
  .next fn S=>
   split at h
   .next c hc=>
    split at h
    .next D=>
     simp only[aF,bB]at D
     obtain⟨⟨h1,_⟩,Y⟩:=D
     have h3:=f
     have Y:=aR Y
     have R:I g=none:=P g
     subst hn
     rw[yf,bM]at h h1
     refine qz ps.length R S hc h1 A.len ?_ h3
     have G1:GX QL W s0 s ⟨[],co,objs.length,lent⟩ stk ⟨AT 0 ps,objs⟩ (YQ ⟨vs⟩) m Q O L Φ:={G with slots:=Qc A,cslots:=(λ_ h=>nomatch h)}
     have w:∀t y s' d,d<=m+xS T (fF rs) c (Hs g)->vg QL W s0 s' ⟨[],co,objs.length,lent⟩ stk t y d->As ⟨[],co,objs.length,lent⟩ fn.results.toList t k=some r->fq Tryz.prog fn.results.toList Post y s':=by
      intro t y s' d hm ⟨Q',K,J,j,z⟩ h
      unfold As at h
      have X:GX QL W s0 s' ⟨[],co,objs.length,lent⟩ stk ⟨[],t.objs⟩ F d Q' K J j:={z with slots:=(λ_ h=>nomatch h),cslots:=(λ_ h=>nomatch h)}
      constructor
      split at h
      .next p hp=>
       obtain⟨us,g1,v,r1,rfl,g2,H⟩:=R5 z hp
       rw[show r1=[]from H]at g1
       rw[g1]
       exact B p v _ s' d _ _ _ _ Oz X g2 h
      .next l V hl=>
       split at h
       .next q hq=>
        obtain⟨us,g1,g2⟩:=R5 z hl
        rw[g1]
        have H:=B (.tup q) (.tuple ⟨us⟩) _ s' d _ _ _ _ Oz X ⟨us,rfl,zgx g2 hq⟩ h
        have E:=g2.len
        cases us with
        |nil=>exact H
        |cons u us=>cases us with
         |nil=>
          cases l with
          |nil=>simp at E
          |cons a l=>cases l with
           |nil=>exact(V a rfl).elim
           |cons b l=>simp at E
         |cons u2 us=>exact H
       .cases h
      .cases h
     refine zbf (rc:=fF rs) P Z ih c G1.good h Oz ?_ (λi ki U=>by cases U) ?_
     .intro t y s' d hm z M;exact nrm_end (w t y s' d hm z M)
     .intro t y s' d hm z M;exact xA (w t y s' d hm z M)
    .cases h
   .cases h
  .cases h
end
def Ws:List Ty->Bool
 | []=>true
 |a::l=>a.okT&&Ws l
theorem J6{W:Wd}{Q:Qs}:∀{ar:List Ty} {vs:List Value} {x:Tp ar},Ws ar=true->u5 W ar vs x->er W Q (sf ar x) vs
 | [],vs,x,c,h=>h
 | [a],vs,x,c,⟨v,e,h⟩=>by simp only[Ws,aF]at c;exact⟨v,[],e,J7 h c.1,rfl⟩
 |a::b::l,vs,x,c,⟨v,r,e,h,h2⟩=>by
  rw[Ws,aF]at c
  exact⟨v,r,e,J7 h c.1,J6 c.2 h2⟩
theorem u5.mono{W W':Wd}(hw:cu W W'):∀{ar:List Ty} {vs:List Value} {x:Tp ar},u5 W ar vs x->u5 W' ar vs x
 | [],vs,x,h=>h
 | [a],vs,x,⟨v,e,h⟩=>⟨v,e,h.mono hw⟩
 |a::b::l,vs,x,⟨v,r,e,h,h2⟩=>⟨v,r,e,h.mono hw,u5.mono (ar:=b::l) hw h2⟩
theorem IN{I:zZ}(n:zx I){Γ:TypeId->Option Ty}{T:FuncId->Option eQ}{Hs:FuncId->List Hi}(u:QE I T){rs:List Nat}{g:FuncId}{ar:List Ty}{τ:Ty}(y:Ws ar=true):tT I g (fF rs) ar τ (zK Γ T Hs rs g ar τ):=by
 intro s hf W w vs x hx r z hroom
 have G:GX [] W s s ⟨[],[],0,0⟩ [] ⟨[],[]⟩ (λ_=>undef) 0 [] [] [] []:=
  {K:=w,H:=hf.hl,oq:=rfl,len:=rfl,cn:=aN _,ln:=aN _,pre:=(λi h=>by cases h),fro:=List.nil_subset _
   own:=λi q o h=>by cases h
   lent:=λi q o h=>by cases h
   inj:=λi j q r o o' h=>by cases h
   dis:=λi q o p _ h=>by cases h
   obj:=λi b q o h=>by cases h
   cob:=λi b q o h=>by cases h
   slots:=λ_ h=>nomatch h
   cslots:=λ_ h=>nomatch h
   stk:=λ_ h=>nomatch h}
 rw[<-show FY [] g=g from by unfold FY;split<;>rfl]
 refine zfj (Γ:=Γ) (Hs:=Hs) n u rs W s z G rfl (J6 y (hx.mono xJ)) Oz ?_
 intro p v o s' A Q' l f d hm k hp a
 unfold Ow at a
 split at a
 .next t p' o' c=>
  have G1:GX [] W s s' ⟨[],[],0,0⟩ [] ⟨[(0,p)],o⟩ (λ_=>v) A Q' l f d:={k with slots:=(λx hx=>by rcases aJ.mp hx with rfl|hx;exact hp;cases hx),cslots:=(λ_ h=>nomatch h)}
  obtain⟨O1,Φ1,G2⟩:=G1.frzP c
  have hv:=YD (G2.slots _ (aO ..)) a
  exact⟨f,G2.H.up Oz,hv.mono (vK G2.fro)⟩
 .cases a
theorem Rf{Γ:TypeId->Option Ty}{T:FuncId->Option eQ}{Hs:FuncId->List Hi}(b:ad T){rs:List Nat}{g:FuncId}{ar:List Ty}{τ:Ty}(c:Ws ar=true):qt g (fF rs) ar τ (zK Γ T Hs rs g ar τ):=
 λ_ a=>IN a (b.i a) c
def zm(T:FuncId->Option eQ)(f:FuncId)(c:eQ):FuncId->Option eQ:=λg=>match Nat.beq f g with
 |true=>some c
 |false=>T g
theorem ad.add{T:FuncId->Option eQ}(b:ad T){f:FuncId}{c:eQ}(h:qt f c.room c.ar c.res c.fn):ad (zm T f c):=by
 intro g a hg
 unfold zm at hg
 split at hg
 .next hb=>cases hg;rw[<-aK hb];exact h
 .exact b g a hg
theorem ad.next{Γ:TypeId->Option Ty}{T:FuncId->Option eQ}{Hs:FuncId->List Hi}(a:ad T){rs:List Nat}{g:FuncId}{ar:List Ty}{τ:Ty}{z:Tp ar->Option τ.T}(b:Ws ar=true)(he:∀x,zK Γ T Hs rs g ar τ x=z x):ad (zm T g ⟨ar,τ,fF rs,z⟩):=
 a.add (by rw[<-show zK Γ T Hs rs g ar τ=z from funext he];exact Rf a b)
theorem ad.nil:ad λ_=>none:=λ_ _ h=>nomatch h
def fa(l:List (Nat×List Hi))(g:FuncId):List Hi:=match cW l g with
 |some h=>h
 |none=>[]
abbrev i6:Ty:=.int .i64
abbrev hi(a b:List Nat)(c:List (Nat×Bool×List LS))(d:List (Nat×List LS))(e:List iB)(f:List Ty)(g:Nat):Hi:={frz:=a,cst:=b,vars:=c,objs:=d,own:=e,ts:=f,fuel:=g}
end Go.Proofs.YtocnbjjmmgolfaaGreat
