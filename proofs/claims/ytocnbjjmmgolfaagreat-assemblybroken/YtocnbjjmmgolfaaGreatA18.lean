/- The evaluator: regions whose order is drawn. -/
import Derived.Test.YtocnbjjmmgolfaaGreatA17
set_option linter.unusedSimpArgs false
set_option linter.unusedVariables false
set_option linter.unusedSectionVars false
namespace Go.Proofs.YtocnbjjmmgolfaaGreat
open Go Go.M Go.Proofs.C14
section
variable{I:zZ}{Γ:TypeId->Option Ty}{T:FuncId->Option eQ}{ρ:Type}{inl:ir ρ}{rc:Nat}{W:Wd}{s0 s:St}{C:Cx}{QL:Qs}{stk:List fy}{e:En}{F:FF}{m:Nat}{Q:Qs}{O:List (Option ak)}{L Φ:au}
theorem nX(hI:zx I)(M:QE I T)(G:GX QL W s0 s C stk e F m Q O L Φ){bar:Nat}{prot:List Nat}(A:Fine {next:=s.next,bar:=bar,prot:=prot,heap:=s.heap})(hb1:s.bar<=bar)(q:∀p,p∈s.prot->p∈prot)
 {d:Option Nat} {o:Op} {k:En->Option ρ} {r:ρ} {P:FF->St->Prop} {ty:TypeId} {pos:String} {af:Array Edge} {gd:Option (Nat×Bool)} (hc:Sy T o=true)
 (h:wg Γ T inl rc C e d o k=some r) (K:s0.next+(m+qN T rc o)<=zA) (hk:∀n w s' J,J<=m+qN T rc o->vg QL W s0 s' C stk n w J->k n=some r->P w s') :
 br Tryz.prog I ⟨d,o,ty,pos,af,gd⟩ F {next:=s.next,bar:=bar,prot:=prot,heap:=s.heap} (λw s'=>P w (Fb s s')):=by
 unfold Sy at hc
 split at hc
 .next c=>
  split at hc
  .next g hg=>
   obtain⟨callee,ag,ts⟩:=c
   simp only at hg
   subst hg
   unfold wg at h
   simp only[En.ev]at h
   split at h
   .next hb=>
    simp only[aF,bB]at hb
    cases i:T g with
    |none=>rw[i]at hc;cases hc
    |some j=>
     unfold callK at h
     split at h
     .next ps hps=>
      rw[i]at h
      simp only at h
      split at h
      .next e1 hf u=>
       simp only[aF,dA]at u
       obtain⟨O1,Φ1,G1⟩:=G.frzP hf
       split at h
       .next ps1 t=>
        split at h
        .next x hx=>
         obtain⟨y,N,h⟩:=zT h
         have hm:=G.H.most
         have l:qN T rc (.call ⟨.value (.func g),ag,ts⟩)=j.room:=by simp only[qN,i]
         rw[l]at K hk
         obtain⟨v,s',E,D,B,hv⟩:=M g j i A (G1.see.kn.heap rfl (aN _)) (zeB (G1.evs t) hx) N (by show s.next+j.room<=zA;omega)
         split at h
         .obtain⟨p,hp,h⟩:=yN h
          obtain⟨n,G3,z⟩:=(G.call (HL.wider G.H.fine hb1 q B)).set (zhd hv hp) h
          refine yo (args:=⟨qv (zd F) ag.toList++[]⟩) (f:=.func g) (a:= #[]) (b:= #[]) rfl hb.1 rfl ⟨v,s',?_,hk n _ _ _ Oz G3.good z⟩ hb.2
          rw[bP];exact E
         .have G2:=G1.call (HL.wider G.H.fine hb1 q B)
          have hp:=J7 (Q:=Q) (cx.mono (uV (dK _ _) (List.subset_append_left _ _)) hv) u.2
          obtain⟨n,G3,z⟩:=G2.set hp h
          refine yo (args:=⟨qv (zd F) ag.toList++[]⟩) (f:=.func g) (a:= #[]) (b:= #[]) rfl hb.1 rfl ⟨v,s',?_,hk n _ _ _ Oz G3.good z⟩ hb.2
          rw[bP];exact E
        .cases h
       .cases h
      .cases h
     .cases h
   .cases h
  .cases hc
 .cases hc
theorem fj:∀{l:List Ob},(WD l).length=l.length
 | []=>rfl
 |o::l=>by cases o<;>simp only[WD,aU,fj]
theorem zdS:∀{l:List Ob} {i:Nat} {b:Ob},(WD l)[i]? = some b->b=.dead\/b=.const
 |o::l,0,b,h=>by cases o<;>cases h<;>first|exact .inl rfl|exact .inr rfl
 |o::l,i+1,b,h=>by
  have:(WD l)[i]? = some b:=by cases o<;>exact h
  exact zdS this
theorem VF:∀{n:Nat} {l:List Ob},uM n l=l.drop n
 |0,l=>rfl
 |n+1,[]=>rfl
 |n+1,_::l=>by simp only[uM,eX,VF]
theorem zgZ:∀{l:List Ob} {i:Nat},E9 l=true->l[i]? ≠ some .const
 | [],i,h,a=>by cases a
 |o::l,0,h,a=>by cases a;simp[E9,kK]at h
 |o::l,i+1,h,a=>by
  simp only[E9,aF]at h
  exact zgZ (l:=l) (i:=i) h.2 a
theorem GX.lend(G:GX QL W s0 s C stk e F m Q O L Φ){bar:Nat}{prot:List Nat}(d:Fine {next:=s.next,bar:=bar,prot:=prot,heap:=s.heap})(f:FF) :
 GX Q (W.x Φ) {next:=s.next,bar:=bar,prot:=prot,heap:=s.heap} {next:=s.next,bar:=bar,prot:=prot,heap:=s.heap} ⟨[],gD e.objs C.objs,e.objs.length,e.objs.length⟩ [] ⟨[],WD e.objs⟩ f 0 Q O [] [] where
 K:=G.see.kn.heap rfl (aN _)
 H:=d.hl
 oq:=G.oq
 len:=by simp only[fj];exact G.len
 cn:=by simp only[G.len];exact aN _
 ln:=aN _
 pre:=λi _=>rfl
 fro:=List.nil_subset _
 own:=λi q o h1 h2 hi=>by
  have:=(aM.mp h1).1
  simp only[G.len]at hi
  omega
 lent:=λi q o h1 h2 hi=>⟨G.get h1 h2,G.lt h1 h2⟩
 inj:=G.inj
 dis:=λi q o p hi h1 h2 hp=>by cases hp
 obj:=λi b q o h0 h1 h2=>by rcases zdS h0 with rfl|rfl<;>trivial
 cob:=λi b q o h0 a h1 h2=>by
  simp only[G.len,bE]
  rcases gC a with⟨c,g⟩|c
  .exact(G.cob i b q o c g h1 h2).mono xJ cd.take
  .exact(G.obj i b q o c h1 h2).mono xJ cd.rfl
 slots:=λ_ h=>nomatch h
 cslots:=λ_ h=>nomatch h
 stk:=λ_ h=>nomatch h
theorem GX.joinL(G:GX QL W s0 s C stk e F m Q O L Φ){bar:Nat}{prot:List Nat}{s':St}{co o:List Ob}{S:FF}{R:Nat}{Q':Qs}{O':List (Option ak)}{B u:au}(hb1:s.bar<=bar)(E:∀p,p∈s.prot->p∈prot)
 (G':GX Q (W.x Φ) {next:=s.next,bar:=bar,prot:=prot,heap:=s.heap} s' ⟨[],co,e.objs.length,e.objs.length⟩ [] ⟨[],o⟩ S R Q' O' B u) (hn:E9 (uM e.objs.length o)=true) :
 GX QL W s0 (Fb s s') C stk {e with objs:=e.objs++uM e.objs.length o} F (m+R) Q' (O++O'.drop O.length) (B++L) (u++Φ):=by
 have H':=HL.wider G.H.fine hb1 E G'.H
 have hlen:=G.len
 have hcn':e.objs.length<=Q'.length:=G'.cn
 have a:∀(i:Nat),i<Q.length->Q'[i]? = Q[i]? :=λi hi=>G'.pre i (by simp only[hlen];exact hi)
 have P:cd Q Q':=λi q h=>by rw[a i (aM.mp h).1];exact h
 have k:∀n,n<=Q.length->Q'.take n=Q.take n:=λn hn=>List.ext_getElem? λi=>by
  rw[List.getElem?_take,List.getElem?_take]
  split
  .exact a i Oz
  .rfl
 have hw:cu (W.x Φ) (W.x (u++Φ)):=vK (dK _ _)
 have J:cu ((W.x Φ).x u) (W.x (u++Φ)):=uV (dK _ _) (List.subset_append_left _ _)
 have A:=G'.oq
 have w:∀{i:Nat} {x},(O++O'.drop O.length)[i]? = some x->(i<Q.length/\O[i]? = some x)\/(Q.length<=i/\O'[i]? = some x):=λ{i x} h=>by
  by_cases hi:i<O.length
  .rw[cA hi]at h;exact .inl ⟨by rw[<-G.oq];exact hi,h⟩
  .rw[List.getElem?_append_right Oz,dV,show O.length+(i-O.length)=i by omega]at h
   exact .inr ⟨by rw[<-G.oq];omega,h⟩
 have N:∀{i:Nat} {x},(e.objs++uM e.objs.length o)[i]? = some x->(i<Q.length/\e.objs[i]? = some x)\/(Q.length<=i/\o[i]? = some x/\x≠.const):=λ{i x} h=>by
  by_cases hi:i<e.objs.length
  .rw[cA hi]at h;exact .inl ⟨by rw[<-hlen];exact hi,h⟩
  .rw[List.getElem?_append_right Oz]at h
   refine .inr ⟨by rw[<-hlen];omega,?_,λe1=>?_⟩
   .rw[VF,dV,show e.objs.length+(i-e.objs.length)=i by omega]at h;exact h
   .subst e1;exact zgZ hn h
 have t:∀(i:Nat) q d,Q'[i]? = some q->O'[i]? = some (some d)->Q.length<=i->(q.2,d)∈B/\s.next<=q.2:=λi q d h1 h2 hi=>by
  have c:=G'.own i q d h1 h2 (by simp only[hlen];exact hi)
  refine⟨c,?_⟩
  rcases(G'.H.own _ c).2.2.2 with h|h
  .exact h
  .cases h
 have hΦ':∀p,p∈u->s.next<=p.1:=λp hp=>by
  rcases(G'.H.own p (G'.fro hp)).2.2.2 with h|h
  .exact h
  .cases h
 exact{
  K:=G.K
  H:=G.H.call H'
  oq:=by rw[aQ,bZ,G.oq,A];omega
  len:=by
   have:=G'.len
   simp only at this
   simp only[aQ,VF,bZ,this];omega
  cn:=by have:=G.cn;omega
  ln:=G.ln
  pre:=λi hi=>by rw[a i (by have:=G.ln;have:=G.cn;omega)];exact G.pre i hi
  fro:=λp hp=>by
   rcases aW.mp hp with h|h
   .exact bJ _ (G'.fro h)
   .exact bA _ (G.fro h)
  own:=λi q d h1 h2 hi=>by
   rcases w h2 with⟨c,g⟩|⟨c,g⟩
   .rw[a i c]at h1;exact bA _ (G.own i q d h1 g hi)
   .exact bJ _ (t i q d h1 g c).1
  lent:=λi q d h1 h2 hi=>by
   rcases w h2 with⟨c,g⟩|⟨c,g⟩
   .rw[a i c]at h1
    obtain⟨g1,g2⟩:=G.lent i q d h1 g hi
    exact⟨by rw[H'.get (by have:=G.H.le;omega)];exact g1,g2⟩
   .have:=G.ln;have:=G.cn;omega
  inj:=λi j q r d M h1 h2 c g he=>by
   rcases w c with⟨l,v⟩|⟨l,v⟩<;>rcases w g with⟨y,z⟩|⟨y,z⟩
   .rw[a i l]at h1;rw[a j y]at h2;exact G.inj i j q r d M h1 h2 v z he
   .rw[a i l]at h1
    have:=G.lt h1 v;have:=(t j r M h2 z y).2;omega
   .rw[a j y]at h2
    have:=G.lt h2 z;have:=(t i q d h1 v l).2;omega
   .exact G'.inj i j q r d M h1 h2 v z he
  dis:=λi q d p hi h1 h2 hp=>by
   rcases w h2 with⟨c,g⟩|⟨c,g⟩<;>rcases aW.mp hp with l|l
   .rw[a i c]at h1
    have:=G.lt h1 g;have:=hΦ' p l;omega
   .rw[a i c]at h1;exact G.dis i q d p hi h1 g l
   .exact G'.dis i q d p (by simp only[hlen];exact c) h1 g l
   .have:=(G.H.own p (G.fro l)).2.1;have:=(t i q d h1 g c).2;omega
  obj:=λi b q d h0 h1 h2=>by
   rcases w h2 with⟨c,g⟩|⟨c,g⟩<;>rcases N h0 with⟨l,v⟩|⟨l,v,_⟩<;>try omega
   .rw[a i c]at h1;exact(G.obj i b q d v h1 g).mono hw P
   .exact(G'.obj i b q d v h1 g).mono J cd.rfl
  cob:=λi b q d h0 D h1 h2=>by
   rw[k _ G.cn]
   rcases N h0 with⟨l,v⟩|⟨l,v,y⟩
   .rcases w h2 with⟨c,g⟩|⟨c,g⟩
    .rw[a i c]at h1;exact(G.cob i b q d v D h1 g).mono hw cd.rfl
    .omega
   .exact(y rfl).elim
  slots:=G.slots.mono hw P
  cslots:=by rw[k _ G.cn];exact G.cslots.mono hw cd.rfl
  stk:=λf hf=>by
   obtain⟨h1,h2,c⟩:=G.stk f hf
   exact⟨h1,by rw[k _ (by have:=G.cn;omega)];exact h2.mono hw cd.rfl,λp hp=>bA _ (c hp)⟩}
theorem zhl(z:∀W s0,Qr I W s0 inl rc)(G:GX QL W s0 s C stk e F m Q O L Φ){bar:Nat}{prot:List Nat}(y:Fine {next:=s.next,bar:=bar,prot:=prot,heap:=s.heap})(hb1:s.bar<=bar)(D:∀p,p∈s.prot->p∈prot)
 {d:Option Nat} {o:Op} {k:En->Option ρ} {r:ρ} {P:FF->St->Prop} {ty:TypeId} {pos:String} {af:Array Edge} {gd:Option (Nat×Bool)}
 (h:AF T inl C e d o k=some r) (hB:s0.next+(m+qN T rc o)<=zA) (hk:∀u t s' E,E<=m+qN T rc o->vg QL W s0 s' C stk u t E->k u=some r->P t s') :
 br Tryz.prog I ⟨d,o,ty,pos,af,gd⟩ F {next:=s.next,bar:=bar,prot:=prot,heap:=s.heap} (λt s'=>P t (Fb s s')):=by
 have hm:=G.H.most
 have B:yD e.objs 0=e.objs.length:=by rw[yf,bM]
 unfold AF at h
 rw[B]at h
 split at h
 .next c=>
  obtain⟨callee,ag,ts⟩:=c
  simp only at h
  split at h
  .next f=>
   -- the call itself
   have key:∀(g:FuncId) (ps:List Pv) (vs:List Value),Nat.ble zy g=false->er (W.x Φ) Q ps vs->rc<=qN T rc (.call ⟨.value f,ag,ts⟩)->inl g (gD e.objs C.objs) e.objs.length ps (WD e.objs) (λv o=>match E9 (uM e.objs.length o)with
    |true=>En.set C {e with objs:=e.objs++uM e.objs.length o} d v k
    |false=>none)=some r->∃v s',vr Tryz.prog I g ⟨vs⟩ {next:=s.next,bar:=bar,prot:=prot,heap:=s.heap} v s'/\P (ba F d v) (Fb s s'):=by
    intro g ps vs n b i h
    rw[<-jH (Q:=Q) n]
    have q:er ((W.x Φ).x []) Q ps vs:=er.mono xJ cd.rfl b
    refine z (W.x Φ) _ h (G.lend y F) fj.symm q (by show s.next+(0+rc)<=zA;omega) ?_
    intro p v o' s' E Q' O' L' Φ' hm' J hp j
    split at j
    .next hn=>
     have G2:=G.joinL hb1 D J hn
     obtain⟨u,G3,K⟩:=G2.set (hp.mono (uV (dK _ _) (List.subset_append_left _ _)) cd.rfl) j
     exact hk u _ _ _ Oz G3.good K
    .cases j
   split at h
   .next g caps ps hf b=>
    split at h
    .next hb=>
     simp only[aF,bB]at hb
     obtain⟨cs,a,w⟩:=G.ev hf
     have A:∀g2,f≠.func g2:=λg2 e=>by
      subst e;simp only[En.ev,bH]at hf;cases hf
     have i:rc<=qN T rc (.call ⟨.value f,ag,ts⟩):=by
      cases f with
      |func g2=>exact(A g2 rfl).elim
      |_=>exact aN _
     exact yo a hb.1.1 (by rfl) (key g _ _ hb.1.2 ((G.evs b).app (er.caps w hb.2)) i h) hb.1.2
    .cases h
   .next g ps hf b=>
    split at h
    .next hb=>
     simp only[aF,bB]at hb
     have a:zd F f=.func (.func g) #[] #[]:=(List.cons.inj (show [zd F f]=_ from G.ev hf)).1
     have i:rc<=qN T rc (.call ⟨.value f,ag,ts⟩):=by
      cases f with
      |func g2=>
       have:g2=g:=by
        have:zd F (.func g2)=.func (.func g2) #[] #[]:=rfl
        rw[this]at a;cases a;rfl
       subst this
       have l:T g2=none:=by
        have:=hb.2
        cases M:T g2 with
        |none=>rfl
        |some=>rw[M]at this;cases this
       simp only[qN,l,aN]
      |_=>exact aN _
     refine yo (args:=⟨qv (zd F) ag.toList++[]⟩) a hb.1.1 rfl ?_ hb.1.2
     rw[bP]
     exact key g _ _ hb.1.2 (G.evs b) i h
    .cases h
   .cases h
  .cases h
 .cases h
theorem iL{e:TypeId}{inf:TypeInfo}{base:Option Addr}{len cap n:Nat}{new:List Value}{s s1:St}{q:Next}{X:List Nat}(h:qc e inf base len cap n new s=.ok q s1)(r:∀a,base=some a->a.block∉X) :
 (∃v,q=.value v)/\s1.bar=s.bar/\s1.prot=s.prot/\qc e inf base len cap n new {s with prot:=X++s.prot}=.ok q {s1 with prot:=X++s1.prot}:=by
 have g:∀a,base=some a->({s with prot:=X++s.prot}:St).may a.block=s.may a.block:=λa ha=>by
  have hx:=r a ha
  simp only[St.may,List.any_append]
  have:X.any (Nat.beq a.block)=false:=by
   rw[cM]
   intro h
   rw[dT]at h
   obtain⟨x,l,p⟩:=h
   rw[aK p]at hx
   exact hx l
  rw[this,Bool.false_or]
 unfold qc at h |-
 cases hb:Nat.ble (len+n) (cap / 2)with
 |true=>
  simp only[hb]at h |-
  split at h
  .next b off=>
   have hm:=g _ rfl
   simp only at hm
   unfold xu at h |-
   simp only[St.get]at h |-
   cases hg:s.heap.get b with
   |none=>simp only[hg]at h;cases h
   |some o=>
    simp only[hg]at h |-
    cases o with
    |cells c e'=>
     simp only[hm]at h |-
     cases hc:new.all Go.M.plainCell&&s.may b<;>cases hl:yK (off+len*inf.size) new c<;>simp only[hc,hl]at h |-
     .cases new<;>cases h
     .cases new with
      |nil=>cases h;exact⟨⟨_,rfl⟩,rfl,rfl,rfl⟩
      |cons=>cases h
     .cases new<;>cases h
     .cases h;exact⟨⟨_,rfl⟩,rfl,rfl,rfl⟩
    |_=>cases h
  .split at h
   .cases h;exact⟨⟨_,rfl⟩,rfl,rfl,rfl⟩
   .cases h
 |false=>
  simp only[hb]at h |-
  have j:wo e base cap {s with prot:=X++s.prot}=wo e base cap s:=rfl
  have f:∀sz m x,xM sz m x {s with prot:=X++s.prot}=xM sz m x s:=λ_ _ _=>rfl
  rw[j,f]
  split at h
  .next old k hold=>
   unfold Zv X8 at h |-
   split at h
   .next s2 hk=>
    unfold uP at h
    split at h
    .next d=>
     cases h
     split at hk
     .cases hk
      next hcap=>
      simp only[hcap]
      refine⟨⟨_,rfl⟩,rfl,rfl,?_⟩
      simp only[k,hold,uP,show({s with prot:=X++s.prot}:St).room=s.room from rfl,d]
      rfl
     .next hcap=>
      split at hk
      .next a=>
       split at hk
       .next hm=>
        cases hk
        refine⟨⟨_,rfl⟩,rfl,rfl,?_⟩
        have i:=g a rfl
        rw[hm]at i
        simp only[i,uP,show({s with prot:=X++s.prot}:St).put a.block none={s.put a.block none with prot:=X++s.prot}from rfl,show({s.put a.block none with prot:=X++s.prot}:St).room=(s.put a.block none).room from rfl,d]
        rfl
       .cases hk
      .cases hk
    .cases h
   .cases h
  .cases h
theorem iK{P:Program}{ts:List TypeId}{args:List Value}{s s1:St}{d:Next}{X:List Nat}(h:xe P ts args s=.ok d s1)(g:∀a n c x,args=[.slice (some a) n c,x]->a.block∉X) :
 (∃v,d=.value v)/\s1.bar=s.bar/\s1.prot=s.prot/\xe P ts args {s with prot:=X++s.prot}=.ok d {s1 with prot:=X++s1.prot}:=by
 unfold xe at h |-
 split at h
 .next st f tr base len cap x=>
  split at h
  .next e hu=>
   split at h
   .next inf hi=>
    have b:eC (P.underlying f) inf x {s with prot:=X++s.prot}=eC (P.underlying f) inf x s:=rfl
    rw[b]
    split at h
    .next n new hn=>
     exact iL h λa ha=>g a len cap x (by rw[ha])
    .cases h
   .cases h
  .cases h
 .cases h
theorem p7{P:Program}{ag:Array Operand}{ts:Array TypeId}{d:Option Nat}{ty:TypeId}{pos:String}{af:Array Edge}{gd:Option (Nat×Bool)}{s:St}{R:FF->St->Prop}{X:List Nat}(h:br P I ⟨d,.call ⟨.builtin .append,ag,ts⟩,ty,pos,af,gd⟩ F s R)
 (g:∀a n c x,qv (zd F) ag.toList=[.slice (some a) n c,x]->a.block∉X):br P I ⟨d,.call ⟨.builtin .append,ag,ts⟩,ty,pos,af,gd⟩ F {s with prot:=X++s.prot} (λf s'=>R f (Fb s s')):=by
 obtain⟨f,s',i,n,hn⟩:=h.ex
 have h1:=hn n (aN _)
 have b:∀s,zj P (zd F) (.call ⟨.builtin .append,ag,ts⟩) s=xe P ts.toList (qv (zd F) ag.toList) s:=λ_=>rfl
 unfold fJ at h1
 simp only[b]at h1
 cases ha:xe P ts.toList (qv (zd F) ag.toList) s with
 |ok nx s1=>
  obtain⟨⟨v,rfl⟩,hb,hp,h2⟩:=iK (X:=X) ha g
  rw[ha]at h1
  simp only[bk.normal.injEq]at h1
  obtain⟨rfl,rfl⟩:=h1
  refine zE (v:=v) (by rw[b];exact h2) ?_
  have:Fb s {s1 with prot:=X++s1.prot}=s1:=by
   cases s1
   simp only at hb hp
   subst hb hp
   rfl
  rw[this];exact i
 |_=>rw[ha]at h1;cases h1
theorem lu{P:Program}{ops:List Oper}{ix anc:Nat}{free:List Nat}{o:Oper}{ob:ak}{v:Value}{rest:List an}{R:FF->St->Prop}(hg:zH ops ix=some o)(hw:ym ops F o=true)(a:s.room=true)
 (hv:zj P (zd F) o.op {next:=s.next,bar:=s.next,prot:=[],heap:=.nil}=.ok (.value v) (({next:=s.next,bar:=s.next,prot:=[],heap:=.nil}:St).new ob)) (hb:yA (ba F o.dst v) o=some s.next)
 (h:yX P I ops rest (ba F o.dst v) (s.new ob) R):yX P I ops (⟨ix,anc,.new,free⟩::rest) F s R:=by
 obtain⟨b,d,g,c,h2⟩:=h
 refine⟨b,d,g,c,λm hm=>?_⟩
 have hn:(({next:=s.next,bar:=s.next,prot:=[],heap:=.nil}:St).new ob).next=s.next+1:=rfl
 have hr:=wp a
 have f:(({next:=s.next,bar:=s.next,prot:=[],heap:=.nil}:St).new ob).get s.next=some ob:=by
  rw[St.get_new (by show s.next+1<_;omega)]
  exact aG rfl
 simp only[gn,hg,vV,hw,fJ,hv,hb,hn,f,a,eL,Bool.and_self]
 exact h2 m hm
theorem Vs(G:GX QL W s0 s C stk e F m Q O L Φ){ops:List Oper}{j:Nat}{q:Value×Nat}{oj:ak}(U:Q[j]? = some q)(ho:O[j]? = some (some oj))(hj:C.lent<=j) :
 ∀{fr:List Nat},Vt C ops e fr=true->fi C ops e fr->Rq C ops e j fr=true->∀p,p∈yi ops F fr->p≠q.2
 | [],_,_,_,p,hp=>by cases hp
 |i::r,h,hI,h',p,hp=>by
  have hge:s0.next<=q.2:=by
   rcases(G.H.own _ (G.own j q oj U ho hj)).2.2.2 with h|h
   .exact h
   .cases h
  -- an address of something that is there,but not of object j
  have key:∀{pv:Option Pv} {v:Value} {b:Nat},(∀x,pv=some x->cL (W.x Φ) Q x v)->KN C e pv=true->(∀i off,pv=some (.one (.ptr i off))->i≠j)->(∀i,pv=some (.one (.own i))->i≠j) ->
   ((∃a,v=.pointer (some a)/\a.block=b)\/(∃a n c,v=.slice (some a) n c/\a.block=b))->b≠q.2:=by
   intro pv v b k g hn1 hn2 hv he
   subst he
   have N:∀t w a n c Z,(W.x Φ).S t w (.slice (some a) n c) Z->a.block≠q.2:=λt w a n c Z N he=>by
    rcases N with N|N
    .have:=G.K.s _ _ _ _ N
     cases this with
     |nil c hv hl=>cases hv
     |block b' off' M c hv hgc hbn hcap hc=>
      simp only[Value.slice.injEq,bH]at hv
      rw[hv.1]at he
      simp only at he
      omega
    .cases N with
     |nil c hv hl=>cases hv
     |block b' off' M c hv hg hcap hc=>
      simp only[Value.slice.injEq,bH]at hv
      rw[hv.1]at he
      exact G.dis j q oj _ hj U ho hg he
   unfold KN at g
   split at g
   .next i off=>
    obtain⟨q',B,f⟩:=k _ rfl
    have f:=(List.cons.inj f).1
    split at g
    .next l E=>
     obtain⟨q'',o,h1,h2,c,t,rfl,_⟩:=G.at E
     rw[B]at h1;cases h1
     rcases hv with⟨a,ha,hb⟩|⟨a,n,c,ha,hb⟩
     .rw[f]at ha;cases ha
      exact hn1 i off rfl (G.inj i j q' q _ _ B U h2 ho hb)
     .rw[f]at ha;cases ha
    .cases g
   .next i=>
    obtain⟨q',B,f,_⟩:=k _ rfl
    have f:=(List.cons.inj f).1
    split at g
    .next t w τ l E=>
     obtain⟨q'',o,h1,h2,a',cap,X,_,_,_,Y,_,A,_⟩:=G.at E
     rw[B]at h1;cases h1
     rcases hv with⟨a,ha,hb⟩|⟨a,n,c,ha,hb⟩
     .rw[f,X]at ha;cases ha
     .rw[f,X]at ha
      cases ha
      generalize hD:wx q'.2 o=D at A
      generalize R:(Value.slice (some a) l.length cap)=sl at A
      generalize Y.flatten=c at A
      generalize l.length=n at A R
      cases A with
      |nil=>cases R
      |block b' M _ _ hl hcap=>
       cases R
       cases o with
       |none=>cases hD
       |some o=>cases hD;exact hn2 i rfl (G.inj i j q' q _ _ B U h2 ho hb)
    .cases g
   .next pv' g1 g2=>
    have k:=k _ rfl
    cases pv' with
    |one x=>
     cases x with
     |ep t w τ x off=>
      obtain⟨b,o,n,cap,Z,kk,P,hk,hR,f⟩:=k
      have f:=(List.cons.inj f).1
      rcases hv with⟨a,ha,hb⟩|⟨a,n,c,ha,hb⟩
      .rw[f]at ha;cases ha;exact N _ _ _ _ _ _ P hb
      .rw[f]at ha;cases ha
     |sl t w τ l=>
      obtain⟨a',cap,Z,e1,P,_⟩:=k
      have f:=(List.cons.inj e1).1
      rcases hv with⟨a,ha,hb⟩|⟨a,n,c,ha,hb⟩
      .rw[f]at ha;cases ha
      .rw[f]at ha;cases ha;exact N _ _ _ _ _ _ P hb
     |own i=>exact g2 _ rfl
     |ptr i off=>exact g1 _ _ rfl
     |op i w y off=>cases g
     |sp=>cases g
     |asl=>cases g
     |cl=>
      obtain⟨cs,e1,_⟩:=k
      have f:=(List.cons.inj e1).1
      rcases hv with⟨a,ha,hb⟩|⟨a,n,c,ha,hb⟩<;>(rw[f]at ha;cases ha)
     |yl=>
      obtain⟨q,_,e1⟩:=k
      have f:=(List.cons.inj e1).1
      rcases hv with⟨a,ha,hb⟩|⟨a,n,c,ha,hb⟩<;>(rw[f]at ha;cases ha)
     |unk=>cases g
     |rat=>have e1:=eZ.len k;cases e1
     |_=>
      have f:=(List.cons.inj (show [v]=_ from k)).1
      rcases hv with⟨a,ha,hb⟩|⟨a,n,c,ha,hb⟩<;>(rw[f]at ha;cases ha)
    |any=>cases g
    |undef=>
     rcases hv with⟨a,ha,hb⟩|⟨a,n,c,ha,hb⟩<;>(rw[show v=undef from k]at ha;cases ha)
    |_=>
     obtain⟨c',f,_⟩:=k
     rcases hv with⟨a,ha,hb⟩|⟨a,n,c,ha,hb⟩<;>(rw[f]at ha;cases ha)
   .cases g
  simp only[Vt,aF]at h
  simp only[Rq,aF]at h'
  obtain⟨h1,h2⟩:=h
  obtain⟨u,h4⟩:=h'
  have ih:=Vs G (ops:=ops) U ho hj h2 hI.tail h4
  simp only[yi]at hp
  split at hp
  .next o V=>
   simp only[V]at h1 u
   split at hp
   .next b hb=>
    rcases aJ.mp hp with rfl|hp
    .unfold yA at hb
     split at hb
     .next t x z=>
      simp only[z]at h1 u
      split at hb
      .next a ha=>
       cases hb
       rw[dA]at h1
       rcases h1 with h1|h1
       .unfold Tw at h1
        split at h1
        .next i2 w n off hx=>
         obtain⟨t',w',τ,l,y,E,hi⟩:=hI i o t x i2 w n off (aO ..) V z hx
         obtain⟨q2,o2,hq2,ho2,hv2⟩:=pV G (G.ev hx) E hi
         rw[hv2]at ha;cases ha
         simp only[hx]at u
         intro e1
         have:=G.inj i2 j q2 q _ _ hq2 U ho2 ho e1
         subst this;simp at u
        .cases h1
       refine key (pv:=e.ev C x) (λy J=>G.ev J) h1 (λi off he=>?_) (λi he=>?_) (.inl ⟨a,ha,rfl⟩)
       .simp only[he]at u
        intro e1;subst e1;simp at u
       .obtain⟨q',B,f,_,_,_,hs⟩:=G.ev he
        have f:=(List.cons.inj f).1
        rw[f,hs]at ha;cases ha
      .cases hb
     .next t x lo hi z=>
      simp only[z]at h1 u
      have n1:∀i off,e.ev C x=some (.one (.ptr i off))->i≠j:=λi off he=>by
       simp only[he]at u
       intro e1;subst e1;simp at u
      have n2:∀i,e.ev C x=some (.one (.own i))->i≠j:=λi he=>by
       simp only[he]at u
       intro e1;subst e1;simp at u
      split at hb
      .next a n' c' ha=>
       cases hb
       exact key (pv:=e.ev C x) (λy J=>G.ev J) h1 n1 n2 (.inr ⟨a,_,_,ha,rfl⟩)
      .next a ha=>
       cases hb
       exact key (pv:=e.ev C x) (λy J=>G.ev J) h1 n1 n2 (.inl ⟨a,ha,rfl⟩)
      .cases hb
     .next t z=>
      simp only[z]at h1 u
      split at hb
      .next d hd=>
       simp only[hd]at h1 u
       split at hb
       .next a ha=>
        cases hb
        refine key (pv:=e.get C d) (λy J=>G.ev (x:=.tmp d) J) h1 (λi off he=>?_) (λi he=>?_) (.inl ⟨a,ha,rfl⟩)
        .simp only[he]at u
         intro e1;subst e1;simp at u
        .simp only[he]at u
         intro e1;subst e1;simp at u
       .cases hb
      .cases hb
     .next t n ps z=>
      simp only[z]at h1 u
      split at hb
      .next d hd=>
       simp only[hd]at h1 u
       split at hb
       .next a n' c' ha=>
        cases hb
        refine key (pv:=e.get C d) (λy J=>G.ev (x:=.tmp d) J) h1 (λi off he=>?_) (λi he=>?_) (.inr ⟨a,_,_,ha,rfl⟩)
        .simp only[he]at u
         intro e1;subst e1;simp at u
        .simp only[he]at u
         intro e1;subst e1;simp at u
       .cases hb
      .cases hb
     .cases hb
    .exact ih p hp
   .exact ih p hp
  .exact ih p hp
end
theorem zgQ:∀{l xs:List Value},xs.length<=l.length->∃r,xI xs l=some (xs++r)
 |l,[],_=>⟨l,rfl⟩
 | [],x::xs,h=>by simp at h
 |y::l,x::xs,h=>by
  obtain⟨r,a⟩:=zgQ (l:=l) (xs:=xs) (by simpa using h)
  exact⟨r,by simp only[xI,a,bY]⟩
theorem zhz:∀{l xs:List Value} {i:Nat},i+xs.length<=l.length->∃r,yK i xs l=some (l.take i++xs++r)
 |l,xs,0,h=>by
  obtain⟨r,a⟩:=zgQ (l:=l) (xs:=xs) Oz
  exact⟨r,by simp only[yK,a,List.take_zero,cJ]⟩
 | [],xs,i+1,h=>by simp at h
 |y::l,xs,i+1,h=>by
  obtain⟨r,a⟩:=zhz (l:=l) (xs:=xs) (i:=i) (by simp only[aU]at h;omega)
  exact⟨r,by simp only[yK,a,List.take_succ_cons,bY]⟩
theorem zht{w:Nat}:∀{Y:List (List Value)} {R:List Value},(∀x∈Y,x.length=w)->∀k,k<Y.length->y8 w (xr (k*w) (Y.flatten++R))=some (Y.getD k [])
 | [],R,_,k,hk=>by simp at hk
 |y::Y,R,h,0,hk=>by
  have a:=h y (aO ..)
  rw[eF,yR,List.drop_zero,y7,cT,bF,aG (by rw[aQ];omega)]
  rw[<-a,List.take_append_of_le_length (aN _),bE]
  rfl
 |y::Y,R,h,k+1,hk=>by
  have a:=h y (aO ..)
  have b:=zht (R:=R) (λx hx=>h x (aP _ hx)) k (by simpa using hk)
  rw[yR]at b |-
  rw[cT,bF,show(k+1)*w=y.length+k*w by rw[a,dM,eG,Nat.add_comm],List.drop_append,List.drop_eq_nil_of_le Oz,cJ,eO]
  exact b
theorem Js{w:Nat}:∀{Y:List (List Value)} {i:Nat},(∀x∈Y,x.length=w)->Y.flatten.take (i*w)=(Y.take i).flatten
 |Y,0,h=>by simp
 | [],i+1,h=>by simp
 |y::Y,i+1,h=>by
  have a:=h y (aO ..)
  rw[cT,List.take_succ_cons,cT,show(i+1)*w=y.length+i*w by rw[a,dM,eG,Nat.add_comm],List.take_length_add_append,Js λx hx=>h x (aP _ hx)]
theorem zgG{ρ:Type}{C:Cx}{e:En}{d:Option Nat}{p:Pv}{k:En->Option ρ}{r:ρ}(h:e.set C d p k=some r):∃a,e.set C d p some=some a/\k a=some r:=by
 unfold En.set at h |-
 split at h
 .exact⟨_,rfl,h⟩
 .next d=>
  cases hf:cW C.slots d with
  |some y=>rw[hf]at h;cases h
  |none=>rw[hf]at h;exact⟨_,rfl,h⟩
theorem iJ{ops:List Oper}{o:Oper}{r:List an}{p:Rz}(h:v5 ops o r=some p):∃(i f j g:Nat) (c:List Nat) (r2:List an) (k l:Oper) (ag:Array Operand) (ts:Array TypeId) (tr:List TypeId),
 r=⟨i,f,.fresh,c⟩::⟨j,g,.whole,[]⟩::r2/\o.op=.slice p.t p.x none (some p.hi) none/\o.dst=some p.a/\zH ops i=some k/\zH ops j=some l/\k.op=.slice p.t p.x2 (some p.lo) none none/\k.dst=some p.b/\k.guard=none /\
  l.op=.call ⟨.builtin .append,ag,ts⟩/\l.dst=p.d/\l.guard=none/\ag.toList=[.tmp p.a,.tmp p.b]/\ts.toList=p.t::p.t::tr/\p.a≠p.b:=by
 unfold v5 at h
 split at h
 .next d2 d3 r2=>
  split at h
  .next t x hi a H n=>
   split at h
   .next k l E G=>
    split at h
    .next t2 x2 lo b q w z B=>
     split at h
     .next ag ts u A D y=>
      split at h
      .next a' b' t' K tr v J=>
       split at h
       .next hb=>
        cases h
        simp only[aF,bB]at hb
        obtain⟨⟨⟨⟨⟨h1,h2⟩,M⟩,N⟩,P⟩,R⟩:=hb
        have e1:=aK h1
        have e2:=aK h2
        have e4:=aK N
        have e5:=aK P
        have e6:=aK R
        subst a' b' t' t2 K
        obtain⟨i,f,how2,c⟩:=d2
        obtain⟨j,g,how3,free3⟩:=d3
        cases B;cases D;cases y
        exact⟨i,f,j,g,c,r2,k,l,ag,ts,tr,rfl,H,n,E,G,q,w,z,u,rfl,A,v,J,Nat.ne_of_beq_eq_false M⟩
       .cases h
      .cases h
     .cases h
    .cases h
   .cases h
  .cases h
 .cases h
section
variable{I:zZ}{Γ:TypeId->Option Ty}{ρ:Type}{W:Wd}{s0 s:St}{C:Cx}{QL:Qs}{stk:List fy}{e:En}{F:FF}{m:Nat}{Q:Qs}{O:List (Option ak)}{L Φ:au}
theorem Gs(G:GX QL W s0 s C stk e F m Q O L Φ){ops:List Oper}{o:Oper}{ix anc:Nat}{free:List Nat}(ho:zH ops ix=some o)(hw:ym ops F o=true){r:List an}{p:Rz}(hp:v5 ops o r=some p){K:En->Option ρ}{res:ρ}(h:Gr Γ C e p K=some res)(hB:s0.next+m<=zA)
 {P:FF->St->Prop} (hk:∀e' V s',vg QL W s0 s' C stk e' V m->K e'=some res->yX Tryz.prog I ops (r.drop 2) V s' P):yX Tryz.prog I ops (⟨ix,anc,.fresh,free⟩::r) F s P:=by
 obtain⟨ix2,anc2,ix3,anc3,free2,r2,o2,o3,ag,ts,tr,rfl,hop,hdst,ho2,ho3,hop2,hd2,hg2,X,hd3,hg3,hag,hts,hab⟩:=iJ hp
 simp only[eX,List.drop_zero]at hk
 unfold Gr at h
 split at h
 .next el sz τ z j i hel hx hhi=>
  split at h
  .next t' w' S l hoj T=>
   split at h
   .next hb=>
    simp only[aF]at hb
    obtain rfl:=aK hb.1
    obtain rfl:=aK hb.2
    obtain⟨e1,hs1,h⟩:=zgG h
    split at h
    .next j2 n hx2 hlo=>
     split at h
     .next hj=>
      obtain rfl:=aK hj
      obtain⟨e2,hs2,h⟩:=zgG h
      obtain⟨rr,U,h⟩:=zT h
      unfold GD at U
      split at U
      .next hc=>
       cases U
       obtain⟨h0,h1,h2⟩:=hc
       obtain⟨i,rfl⟩:=Int.eq_ofNat_of_zero_le h0
       obtain⟨n,rfl⟩:=Int.eq_ofNat_of_zero_le (show 0<=n by omega)
       obtain⟨by_,zc,hs,hby,hsz0,_⟩:=XC hel
       obtain⟨hu,inf,z',hin,hsz,-,-,-,-⟩:=yV hs
       have T:=aR T
       rw[zN]at hoj
       have hjq:j<Q.length:=by rw[<-G.len];exact(aM.mp hoj).1
       obtain⟨q,hq⟩:∃q,Q[j]? = some q:=⟨_,aE hjq⟩
       obtain⟨ob,hob⟩:∃o,O[j]? = some o:=⟨_,aE (by rw[G.oq];exact hjq)⟩
       obtain⟨a',cap,hv,_,hn,hsz2,Y,hY1,w,y,hY4⟩:=G.obj j _ q ob hoj hq hob
       have E:Y.flatten.length=l.length*w':=by rw[qQ y,hY1]
       have hex:zd F p.x=.slice a' l.length cap:=by
        obtain⟨q',h1,h2,_⟩:=G.ev hx
        rw[hq]at h1;cases h1
        rw[(List.cons.inj h2).1,hv]
       have hehi:zd F p.hi=.int .i64 (i:Int):=(List.cons.inj (show [zd F p.hi]=_ from G.ev hhi)).1
       have hYp:∀k x,l[k]? = some x->ax (W.x Φ) S (Y.getD k []) x:=hY4
       have Z:Y.flatten.all Go.M.plainCell=true:=by
        rw[List.all_eq_true]
        intro v hv
        obtain⟨c,hc,hv⟩:=List.mem_flatten.mp hv
        obtain⟨i,hi,rfl⟩:=List.getElem_of_mem hc
        have hi':i<l.length:=by omega
        have:=(hY4 i l[i] (aE hi')).plain
        rw[aB,aE hi]at this
        exact(List.all_eq_true.mp this) v hv
       generalize hD:wx q.2 ob=D at w
       generalize hsl:(Value.slice a' l.length cap)=sl at w hex
       generalize hc:Y.flatten=c at w E Z
       generalize hn':l.length=n' at w
       cases w with
       |nil=>omega
       |block b' d _ _ hl2 hcap2=>
        cases hsl
        cases ob with
        |none=>cases hD
        |some ob=>
         cases hD
         have hmem:=G.own j q _ hq hob T
         obtain⟨A,B,hL⟩:=eI hmem
         have hH:=G.H
         rw[hL]at hH
         have hg:=hH.ownA
         simp only[List.all_eq_true]at Z
         have hle:i<=l.length:=by omega
         obtain⟨off2,d,g1,g2,g3,s1⟩:=q8 (s:={s with bar:=s.next}) (t:=p.t) (lo:=none) (hi:=some (.int .i64 (i:Int))) (len:=l.length) (cap:=cap) hu hin (b:=q.2) hg rfl vY (cH _) Oz
         obtain rfl:=g3 rfl
         rw[Nat.sub_zero]at s1
         refine vo ho hw (zE (v:=.slice (some ⟨q.2,0,none⟩) i d) (s':={s with bar:=s.next}) (by rw[hop];simp only[zj,Option.map,hex,hehi];exact s1) ?_)
         rw[hdst]
         obtain⟨_,G1,hee⟩:=G.set (v:=.slice (some ⟨q.2,0,none⟩) i d) (p:=.any) trivial hs1
         cases hee
         have hex2:zd (ba F (some p.a) (.slice (some ⟨q.2,0,none⟩) i d)) p.x2=.slice (some ⟨q.2,0,none⟩) l.length cap:=by
          obtain⟨q',h1,h2,_⟩:=G1.ev hx2
          rw[hq]at h1;cases h1
          rw[(List.cons.inj h2).1,hv]
         have helo:zd (ba F (some p.a) (.slice (some ⟨q.2,0,none⟩) i d)) p.lo=.int .i64 (n:Int):=(List.cons.inj (show [zd _ p.lo]=_ from G1.ev hlo)).1
         obtain⟨u,g,g4,g5,g6,s2⟩:=q8 (s:={s with bar:=s.next}) (t:=p.t) (lo:=some (.int .i64 (n:Int))) (hi:=none) (len:=l.length) (cap:=cap) hu hin (b:=q.2) hg vY rfl Oz Oz
         have hw2:∀V,ym ops V o2=true:=λV=>by unfold ym;rw[hg2]
         have hw3:∀V,ym ops V o3=true:=λV=>by unfold ym;rw[hg3]
         refine vo ho2 (hw2 _) (zE (v:=.slice (some ⟨q.2,u,none⟩) (l.length-n) g) (s':={s with bar:=s.next}) (by rw[hop2];simp only[zj,Option.map,hex2,helo];exact s2) ?_)
         rw[hd2]
         obtain⟨_,G2,hee⟩:=G1.set (v:=.slice (some ⟨q.2,u,none⟩) (l.length-n) g) (p:=.any) trivial hs2
         cases hee
         generalize hF2:ba (ba F (some p.a) (.slice (some ⟨q.2,0,none⟩) i d)) (some p.b) (.slice (some ⟨q.2,u,none⟩) (l.length-n) g)=F2 at G2 |-
         have ha2:F2 p.a=.slice (some ⟨q.2,0,none⟩) i d:=by rw[<-hF2,vk,aD hab,vk,aG rfl]
         have hb2:F2 p.b=.slice (some ⟨q.2,u,none⟩) (l.length-n) g:=by rw[<-hF2,vk,aG rfl]
         have hnl:n<=l.length:=by omega
         have hmul:n*w'<=l.length*w':=bQ _ hnl
         have hdl:(c.drop (n*w')).length=(l.length-n)*w':=by rw[bZ,E,Nat.sub_mul]
         have hel:kQ s w' (zd F2 (.tmp p.b)) (l.length-n) (c.drop (n*w')):=by
          show kQ s w' (F2 p.b) _ _
          rw[hb2]
          rcases g5 with rfl|h
          .rw[hsz]
           refine ji hg ?_ (by rw[E,<-dM,Nat.add_sub_cancel' hnl];exact aN _)
           rw[dJ (by rw[hdl];exact aN _)]
          .rw[show l.length-n=0 by omega,List.drop_eq_nil_of_le (by rw[E,h];exact aN _)]
           exact⟨⟨_,_,rfl⟩,by simp only[xM,hg,eF];rfl⟩
         obtain⟨R,hput⟩:=zhz (l:=c) (xs:=c.drop (n*w')) (i:=i*w') (by
          rw[hdl,E,<-dM]
          exact bQ _ Oz)
         obtain⟨d3,op3,ty3,pos3,af3,gd3⟩:=o3
         simp only at X hd3 hg3
         subst X hd3
         refine yw ho3 (hw3 _) (jq (A:=A) (L:=B) (len:=i) (m:=l.length-n) (cap:=d) (c:=c) (l:=c.drop (n*w')) hH hs hu hts hag ha2 hel Oz ?_ hput hB (λs3 H3=>?_))
         .rw[List.all_eq_true]
          exact λx hx=>Z x (List.mem_of_mem_drop hx)
         have H3:=HL.same hH H3
         have G3:=G2.frzNew hq hob T hL H3
         have hlen:(l.take i++l.drop n).length=i+(l.length-n):=by rw[aQ,bX,bZ];omega
         have f:(Y.take i++Y.drop n).length=i+(l.length-n):=by rw[aQ,bX,bZ];omega
         have hrep:ax (W.x ((q.2,.cells (c.take (i*w')++c.drop (n*w')++R) t')::Φ)) (.sl t' w' S) [.slice (some ⟨q.2,0,none⟩) (i+(l.length-n)) d] (l.take i++l.drop n):=by
          refine⟨_,d,Y.take i++Y.drop n,by rw[hlen],.inr (.block q.2 0 d _ (by rw[hlen,f]) (aO ..) (by rw[f];omega) λk hk=>?_),by rw[hlen,f],λk x hx=>?_⟩
          .rw[cB,<-hc,Js y,Xy n y,<-List.flatten_append]
           exact zht (λx hx=>by
            rcases aW.mp hx with h|h
            .exact y x (List.mem_of_mem_take h)
            .exact y x (List.mem_of_mem_drop h)) k hk
          .have hk:=(aM.mp hx).1
           rw[hlen]at hk
           have N:∀{c x},ax (W.x Φ) S c x->ax (W.x ((q.2,.cells (Y.flatten.take (i*w')++Y.flatten.drop (n*w')++R) t')::Φ)) S c x:=λh=>ax.mono (vK λp hp=>aP _ hp) h
           rw[<-hc]
           rw[List.getElem?_append,bX,Nat.min_eq_left hle]at hx
           rw[aB,List.getElem?_append,bX,Nat.min_eq_left Oz]
           split at hx
           .next J=>
            rw[aG J,List.getElem?_take,aG J]
            rw[List.getElem?_take,aG J]at hx
            have:=N (hYp k x hx)
            rw[aB]at this
            exact this
           .next J=>
            rw[aD J,dV]
            rw[dV]at hx
            have:=N (hYp _ x hx)
            rw[aB]at this
            exact this
         obtain⟨e',G4,h4⟩:=G3.set (p:=.one (.sl t' w' S (l.take i++l.drop n))) (v:=.slice (some ⟨q.2,0,none⟩) (i+(l.length-n)) d) hrep h
         exact hk e' _ _ G4.good h4
      .cases U
     .cases h
    .cases h
   .cases h
  .cases h
 .cases h
end
section
variable{I:zZ}{Γ:TypeId->Option Ty}{T:FuncId->Option eQ}{ρ:Type}{inl:ir ρ}{rc:Nat}{W:Wd}{s0:St}{C:Cx}{QL:Qs}{stk:List fy}
theorem K4{o:Op}(hn:newOp o=true):qN T rc o=1:=by cases o<;>first|rfl|(cases hn;done)
theorem Al{e:En}{o:Op}(a:nZ C e o=true):qN T rc o=1:=by
 unfold nZ at a
 split at a
 .next c=>
  obtain⟨callee,ag,ts⟩:=c
  simp only at a
  split at a
  .rfl
  .cases a
 .cases a
theorem Nc{s:St}{e:En}{F:FF}{m:Nat}{Q:Qs}{O:List (Option ak)}{L Φ:au}(G:GX QL W s0 s C stk e F m Q O L Φ){d:Option Nat}{o:Op}{k:En->Option ρ}{r:ρ}(a:nZ C e o=true)(h:wg Γ T inl rc C e d o k=some r)(u:s0.next+(m+1)<=zA) :
 ∃v S1,zj Tryz.prog (zd F) o {next:=s.next,bar:=s.next,prot:=s.prot,heap:=s.heap}=.ok (.value v) S1/\∃b,vg QL W s0 (Fb s S1) C stk b (ba F d v) (m+1)/\k b=some r:=by
 unfold nZ at a
 split at a
 .next c=>
  obtain⟨callee,ag,ts⟩:=c
  simp only at a
  split at a
  .next x y has=>
   split at a
   .next j t' w' τ' xs hx p=>
    unfold wg at h
    simp only[has]at h
    split at h
    .next t t2 tr x' y' l he=>
     cases he
     rw[hx,p]at h
     split at h
     .next el2 px py n g i=>
      cases g;cases i
      obtain⟨v,f⟩:=wa G l has n hx p h u (by
       revert a
       split
       .next hl=>exact λ_=>⟨_,_,_,hl⟩
       .exact λh=>nomatch h)
      obtain⟨S1,h1,b,q,h2⟩:=f s.next s.prot (aN _)
      exact⟨v,S1,h1,b,q,h2⟩
     .cases h
    .cases h
   .cases a
  .cases a
 .cases a
set_option maxRecDepth 100000 in
theorem qq(Z:zx I)(hT:QE I T)(f:∀W s0,Qr I W s0 inl rc){ops:List Oper}{k:En->Option ρ}{r:ρ}{P:FF->St->Prop}:∀{l:List an} {s:St} {e:En} {F:FF} {m:Nat},vg QL W s0 s C stk e F m->wO Γ T inl rc C ops l e k=some r->s0.next+(m+XX T rc ops l)<=zA ->
 (∀M N s' U,U<=m+XX T rc ops l->vg QL W s0 s' C stk M N U->k M=some r->P N s')->yX Tryz.prog I ops l F s P
 | [],s,e,F,m,G,h,hB,hk=>yS (hk e F s m (Nat.le_add_right ..) G h)
 |⟨ix,anc,how,free⟩::l,s,e,F,m,⟨Q,O,L,Φ,G⟩,h,hB,hk=>by
  simp only[XX]at hB hk
  unfold wO at h
  simp only at h
  split at h
  .next o ho=>
   simp only[ho]at hB hk
   obtain⟨e1,G1,hh⟩:=zgs G h
   rcases hh with⟨hw,h⟩|⟨hw,h⟩
   .have hm:=G.H.most
    have hnew:∀(h:wg Γ T inl rc C e1 o.dst o.op (λe=>wO Γ T inl rc C ops l e k)=some r),newOp o.op=true->∃ob v,(∀s1:St,s1.next=s.next->zj Tryz.prog (zd F) o.op s1=.ok (.value v) (s1.new ob))/\((v=.pointer (some ⟨s.next,0,none⟩)/\iT o.op=false)\/(iT o.op=true/\∃n c,v=.slice (some ⟨s.next,0,none⟩) n c))/\yX Tryz.prog I ops l (ba F o.dst v) (s.new ob) P:=λh hn=>by
     rw[K4 hn]at hB hk
     obtain⟨ob,v,h1,h2,e2,G2,V⟩:=pK G1 hn Oz h
     exact⟨ob,v,h1,h2,qq Z hT f G2 V Oz λM N s' U E G3 B=>hk M N s' U Oz G3 B⟩
    cases how with
    |light=>
     simp only at h
     refine za ho hw ?_
     cases S:I8 o.op
     case true=>
      rw[S]at h
      simp only at h
      obtain⟨v,h1,e2,G2,V⟩:=QK G1 S h
      refine zE (h1 _ λt x lo hi R a n c ha hlt=>?_) ⟨rfl,qq Z hT f G2 V Oz λM N s' U E G3 B=>hk M N s' U Oz G3 B⟩
      have e1:yA F o=some a.block:=by unfold yA;rw[R];simp only[ha]
      rw[e1]
      exact YI (by have:=G1.H.most;omega)
     rw[S]at h
     simp only at h
     obtain⟨p,v,h1,h2,V⟩:=zah (s':={next:=s.next,bar:=s.next,prot:=[],heap:=only s (yA F o)}) G1.see (λt x R a ha hlt=>by
      have e1:yA F o=some a.block:=by unfold yA;rw[R];simp only[ha]
      rw[e1]
      exact YI Oz) h
     obtain⟨e2,G2,B⟩:=G1.set h2 V
     exact zE h1 ⟨rfl,qq Z hT f G2.good B Oz λM N s' U E G3 X=>hk M N s' U Oz G3 X⟩
    |whole=>
     simp only at h
     rcases hfr:free with _|⟨f0,fr⟩
     .rw[hfr]at h
      simp only at h
      refine yw ho hw (zfu (d:=o.dst) (o:=o.op) (ty:=o.type) (pos:=o.pos) (af:=o.after) (g:=o.guard) Z hT (f W s0) G1 h Oz λM N s' U E G3 B=>?_)
      have hre:({next:=s'.next,bar:=s.bar,prot:=s.prot,heap:=s'.heap}:St)=s':=by
       obtain⟨_,_,_,_,G3⟩:=G3
       have h1:=G3.H.bar
       have h2:=G3.H.prot
       have V:=G1.H.bar
       have B:=G1.H.prot
       rw[V,B,<-h1,<-h2]
      rw[hre]
      exact qq Z hT f G3 B Oz λu F'' A z K G4 X=>hk u F'' A z Oz G4 X
     rw[hfr]at h
     simp only at h
     rw[<-hfr]at h |-
     split at h
     .next hb=>
      simp only[aF,dA]at hb
      obtain⟨hfree,hb⟩:=hb
      obtain⟨h,hfi⟩:=YN h
      have hlt:=zaM G1 hfree hfi
      refine yw ho hw ?_
      rcases hb with(((hn|S)|hc)|hst)|J
      .obtain⟨ob,v,h1,_,V⟩:=hnew h hn
       exact zE (h1 _ rfl) V
      .obtain⟨v,h1,e2,G2,V⟩:=QK G1 S h
       exact zE (h1 _ λ_ _ _ _ _ _ _ _ _ _=>rfl) (qq Z hT f G2 V Oz λM N s' U E G3 B=>hk M N s' U Oz G3 B)
      .have:=nX (o:=o.op) (d:=o.dst) (ty:=o.type) (pos:=o.pos) (af:=o.after) (gd:=o.guard) Z hT G1 (Fine.pr G.H.fine hlt) (aN _) (λ_ h=>bA _ h) hc h Oz
        (P:=λF s=>yX Tryz.prog I ops l F s P) λM N s' U E G3 B=>qq Z hT f G3 B Oz λu F'' A z K G4 X=>hk u F'' A z Oz G4 X
       exact this
      .unfold O7 at hst
       split at hst
       .next t x v R=>
        split at hst
        .next j off hx=>
         rw[R]at h
         obtain⟨j',off',q,c,c2,tt,n,hx',hq,⟨oj,hoj⟩,hj,hsz,hxx,hlen,hp,hg,hm2,hcc,e2,G2,V⟩:=zbR G1 Oz h
         obtain rfl:=hx' _ _ hx
         have hne:=Vs G1 hq hoj hj hfree hfi hst
         have E:({s with prot:=yi ops F free++s.prot}:St).may q.2=true:=by
          simp only[St.may,aF,bB,cM,ne_eq,dT,not_exists,not_and]at hm2 |-
          refine⟨hm2.1,λp hp2 he=>?_⟩
          rcases aW.mp hp2 with h|h
          .exact hne p h (aK he).symm
          .exact hm2.2 p h he
         have hstep:zj Tryz.prog (zd F) o.op {s with prot:=yi ops F free++s.prot}=.ok .skip (({s with prot:=yi ops F free++s.prot}:St).put q.2 (some (.cells c2 tt))):=by
          rw[R];exact q7 hsz hxx rfl hlen hp hg E hcc
         exact jd hstep (qq Z hT f G2 V Oz λu F'' A z K G4 X=>hk u F'' A z Oz G4 X)
        .cases hst
       .cases hst
      .have hO:=zfu (d:=o.dst) (o:=o.op) (ty:=o.type) (pos:=o.pos) (af:=o.after) (g:=o.guard) Z hT (f W s0) G1 h Oz (P:=λF s=>yX Tryz.prog I ops l F s P) λM N s' U E G3 B=>qq Z hT f G3 B Oz λu F'' A z K G4 X=>hk u F'' A z Oz G4 X
       obtain⟨dst,op,ty,pos,af,gd⟩:=o
       cases op with
       |call c=>
        obtain⟨callee,ag,ts⟩:=c
        unfold M4 at J
        simp only at J
        generalize hargs:ag.toList=al at J
        split at J
        .next x y _=>
         refine p7 (ag:=ag) (ts:=ts) hO λa n c x' hmap=>?_
         rw[hargs]at hmap
         simp only[qv,List.cons.injEq,fA]at hmap
         split at J
         .next j hx=>
          split at J
          .next t w τ l' hoj=>
           simp only[aF]at J
           have hj:=aR J.2
           rw[zN]at hoj
           have hjq:j<Q.length:=by have:=(aM.mp hoj).1;rw[G1.len]at this;exact this
           have hq:=aE hjq
           have hoo:=aE (l:=O) (i:=j) (by rw[G1.oq];exact hjq)
           obtain⟨a',cap,hv',_,_,_,Y,_,hown,_⟩:=G1.obj j _ _ _ hoj hq hoo
           obtain⟨q',hq',hvv,_⟩:=G1.ev hx
           rw[hq]at hq';cases hq'
           have hvv:=(List.cons.inj hvv).1
           rw[hvv,hv']at hmap
           generalize hD:wx _ _=D at hown
           have ha:=hmap.1
           simp only[Value.slice.injEq]at ha
           obtain⟨ha,_⟩:=ha
           subst ha
           generalize S:(Value.slice (some a) l'.length cap)=sl at hown
           generalize Y.flatten=c2 at hown
           generalize l'.length=n2 at hown S
           cases hown with
           |nil=>cases S
           |block b cap' _ _ hl hcap=>
            cases S
            cases hO1:O[j]'(by rw[G1.oq];exact hjq)with
            |none=>rw[hO1]at hD;cases hD
            |some o1=>
             rw[hO1]at hD hoo
             cases hD
             intro hin'
             exact Vs G1 hq hoo hj hfree hfi J.1 _ hin' rfl
          .cases J
         .next hx=>
          have:=(List.cons.inj (show [zd F _]=_ from G1.ev hx)).1
          rw[this]at hmap
          cases hmap.1
         .cases J
        .cases J
       |_=>cases J
     .split at h
      .next hb=>
       simp only[aF]at hb
       obtain⟨h,hfi⟩:=YN h
       have hlt:=zaM G1 hb.1 hfi
       refine yw ho hw ?_
       have:=zhl (o:=o.op) (d:=o.dst) (ty:=o.type) (pos:=o.pos) (af:=o.after) (gd:=o.guard) f G1 (Fine.pr G.H.fine hlt) (aN _) (λ_ h=>bA _ h) h Oz
        (P:=λF s=>yX Tryz.prog I ops l F s P) λM N s' U E G3 B=>qq Z hT f G3 B Oz λu F'' A z K G4 X=>hk u F'' A z Oz G4 X
       exact this
      .cases h
    |fresh=>
     simp only at h
     split at h
     .next p hp=>
      split at h
      .next d2 d3 r2 _=>
       have hrd:XX T rc ops r2<=XX T rc ops (d2::d3::r2):=by simp only[XX];omega
       exact Gs G1 ho hw hp h Oz λM N s' G3 B=>qq Z hT f (l:=r2) G3 B Oz λu F'' A z K G4 X=>hk u F'' A z Oz G4 X
      .cases h
     .split at h
      .next hb=>
       simp only[dA]at hb
       refine vo ho hw ?_
       rcases hb with((hn|S)|hc)|hcp
       .obtain⟨ob,v,h1,_,V⟩:=hnew h hn
        exact zE (h1 _ rfl) V
       .obtain⟨v,h1,e2,G2,V⟩:=QK G1 S h
        exact zE (h1 _ λ_ _ _ _ _ _ _ _ _ _=>rfl) (qq Z hT f G2 V Oz λM N s' U E G3 B=>hk M N s' U Oz G3 B)
       rotate_left
       .rw[Al hcp]at hB hk
        obtain⟨v,S1,h1,M,G2,h2⟩:=Nc G1 hcp h Oz
        exact zE h1 (qq Z hT f G2 h2 Oz λu F'' A z K G4 X=>hk u F'' A z Oz G4 X)
       .have:=nX (o:=o.op) (d:=o.dst) (ty:=o.type) (pos:=o.pos) (af:=o.after) (gd:=o.guard) Z hT G1 (Fine.fresh G.H.fine) G.H.fine.wfb (λ_ h=>h) hc h Oz
         (P:=λF s=>yX Tryz.prog I ops l F s P) λM N s' U E G3 B=>qq Z hT f G3 B Oz λu F'' A z K G4 X=>hk u F'' A z Oz G4 X
        exact this
      .split at h
       .refine vo ho hw ?_
        have:=zhl (o:=o.op) (d:=o.dst) (ty:=o.type) (pos:=o.pos) (af:=o.after) (gd:=o.guard) f G1 (Fine.fresh G.H.fine) G.H.fine.wfb (λ_ h=>h) h Oz
         (P:=λF s=>yX Tryz.prog I ops l F s P) λM N s' U E G3 B=>qq Z hT f G3 B Oz λu F'' A z K G4 X=>hk u F'' A z Oz G4 X
        exact this
       .split at h
        .refine vo ho hw ?_
         obtain⟨p,v,h1,h2,V⟩:=zah (s':={s with bar:=s.next}) G1.see (λt x R a ha hlt=>rfl) h
         obtain⟨e2,G2,B⟩:=G1.set h2 V
         exact zE h1 (qq Z hT f G2.good B Oz λM N s' U E G3 X=>hk M N s' U Oz G3 X)
        .cases h
    |new=>
     simp only at h
     split at h
     .next hb=>
      simp only[aF,dA]at hb
      have hn:newOp o.op=true:=by
       rcases hb.1 with h|h<;>(revert h;cases o.op<;>intro h<;>first|rfl|(cases h;done))
      obtain⟨ob,v,h1,h2,V⟩:=hnew h hn
      refine lu ho hw (G.H.room (by rw[K4 hn]at hB;omega)) (h1 _ rfl) ?_ V
      obtain⟨t,hd⟩:=Option.isSome_iff_exists.mp hb.2
      rcases h2 with⟨rfl,h2⟩|⟨h2,n,c,rfl⟩
      .rcases hb.1 with hbs|hal
       .rw[h2]at hbs;cases hbs
       .unfold M3 at hal
        split at hal
        .next R=>
         unfold yA
         rw[R]
         simp only[hd,vk,aG]
        .cases hal
      .unfold iT at h2
       split at h2
       .next R=>
        unfold yA
        rw[R]
        simp only[hd,vk,aG]
       .cases h2
     .cases h
   .refine kD ho hw ?_
    obtain⟨e2,G2,h2⟩:=G1.set (p:=.undef) (v:=undef) rfl h
    exact qq Z hT f G2.good h2 Oz λM N s' U E G3 B=>hk M N s' U Oz G3 B
  .cases h
end
inductive Rt:Lf->Lf->Prop
 |int (k:IntKind) (x:Int):Rt (.int k x) (.int k x)
 |bool (b:Bool):Rt (.bool b) (.bool b)
 |rat (q:Rat):Rt (.rat q) (.rat q)
 |sl (t w:Nat) (e:Ty) (l:List e.T):Rt (.sl t w e l) (.sl t w e l)
 |nil (t w:Nat) (e:Ty):Rt .nil (.sl t w e [])
inductive hJ:List Lf->List Lf->Prop
 |nil:hJ [] []
 |cons {x y:Lf} {l l':List Lf}:Rt x y->hJ l l'->hJ (x::l) (y::l')
theorem hJ.split{a:List Lf}:∀{c d:List Lf},hJ (a++c) d->∃x y,d=x++y/\hJ a x/\hJ c y:=by
 induction a with
 |nil=>intro c d h;exact⟨[],d,rfl,.nil,h⟩
 |cons x a f=>
  intro c d h
  cases h with
  |cons h1 h2=>obtain⟨p,q,rfl,b,e⟩:=f h2;exact⟨_::p,q,rfl,.cons h1 b,e⟩
theorem Rt.ok{W:Wd}{D:au}{Q Q':Qs}{x y:Lf}(h:Rt x y){c:List Value}(hx:eg (W.x D) Q x c):eg (W.x D) Q' y c:=by
 cases h with
 |nil t w e=>rw[show c=_ from hx];exact pM
 |_=>exact hx
theorem zcj(τ:Ty):∀{l r:List Lf} {x:τ.T},qd τ l=some (x,r)->r.length<l.length:=by
 induction τ with
 |one a e=>intro l r x h;simp only[qd]at h;exact e h
 |pair a b c d=>
  intro l r x h
  simp only[qd]at h
  split at h
  .next y r1 f=>
   split at h
   .next z r2 g=>cases h;have:=c f;have:=d g;omega
   .cases h
  .cases h
 |sl t w τ e=>
  intro l r x h
  cases l with
  |nil=>simp only[qd]at h;cases h
  |cons y l=>
   cases y<;>simp only[qd]at h<;>first|(cases h;done)|(cases h;simp)|(split at h<;>first|(cases h;done)|(cases h;simp))
 |int k=>
  intro l r x h
  cases l with
  |nil=>simp only[qd]at h;cases h
  |cons y l=>
   cases y<;>simp only[qd]at h<;>first|(cases h;done)|(cases h;simp)|(split at h<;>first|(cases h;done)|(cases h;simp))
 |_=>
  intro l r x h
  cases l with
  |nil=>simp only[qd]at h;cases h
  |cons y l=>cases y<;>simp only[qd]at h<;>first|(cases h;done)|(cases h;simp)
theorem NW(τ:Ty):∀{y:Lf} {x:τ.T},qd τ [y]=some (x,[])->∃f,Zo τ x=[f]/\Rt y f:=by
 induction τ with
 |one a e=>intro y x h;simp only[qd]at h;exact e h
 |pair a b iha ihb=>
  intro y x h
  simp only[qd]at h
  split at h
  .next z r1 g=>
   have:=zcj _ g
   obtain rfl:r1=[]:=by cases r1 with|nil=>rfl|cons=>simp at this
   split at h
   .next z' r2 d=>have:=zcj _ d;simp at this
   .cases h
  .cases h
 |sl t w τ e=>
  intro y x h
  cases y with
  |sl t' w' τ' l=>
   simp only[qd]at h
   split at h
   .next c=>
    obtain⟨rfl,rfl,rfl⟩:=c
    cases h
    exact⟨_,rfl,.sl ..⟩
   .cases h
  |nil=>simp only[qd]at h;cases h;exact⟨_,rfl,.nil ..⟩
  |_=>simp only[qd]at h;cases h
 |int k=>
  intro y x h
  cases y with
  |int k' x'=>
   simp only[qd]at h
   split at h
   .next c=>subst c;cases h;exact⟨_,rfl,.int ..⟩
   .cases h
  |_=>simp only[qd]at h;cases h
 |bool=>intro y x h;cases y<;>simp only[qd]at h<;>first|(cases h;done)|(cases h;exact⟨_,rfl,.bool ..⟩)
 |rat=>intro y x h;cases y<;>simp only[qd]at h<;>first|(cases h;done)|(cases h;exact⟨_,rfl,.rat ..⟩)
 |_=>intro y x h;cases y<;>simp only[qd]at h<;>cases h
theorem zck{τ:Ty}{y:Lf}{x:τ.T}(h:vh τ [y]=some x):∃a,Zo τ x=[a]/\Rt y a:=by
 unfold vh at h
 split at h
 .next z b=>cases h;exact NW τ b
 .cases h
theorem ry:∀{ts:List Ty} {l:List Lf} {x:Tp ts},RH ts l=some x->hJ l (Oh ts x)
 | [],[],x,h=>.nil
 | [a],[y],x,h=>by
  obtain⟨c,e,h⟩:=zck (show vh a [y]=some x from h)
  simp only[Oh]
  rw[e];exact .cons h .nil
 |a::b::ts,y::l,x,h=>by
  simp only[RH]at h
  split at h
  .next v w hv hw=>
   cases h
   obtain⟨c,e,h⟩:=zck hv
   simp only[Oh]
   rw[e];exact .cons h (ry hw)
  .cases h
section
variable{W:Wd}{Φ:au}{Q Q':Qs}{n0:Nat}{srcs:List (Option Nat)}
def iD(Q Q':Qs)(n0:Nat)(srcs:List (Option Nat)):Prop:=∀(k:Nat) j,srcs[k]? = some j->∃q,Q'[n0+k]? = some q/\(∃a n c,q.1=.slice a n c)/\match j with
 |some j=>∃q',Q[j]? = some q'/\q.1=q'.1
 |none=>q.1=.slice none 0 0
theorem Og(g:∀(i:Nat) q,i<n0->Q[i]? = some q->Q'[i]? = some q)(e:iD Q Q' n0 srcs){x:LS}{y:Lf}{a a' rest:List Lf}{c:List Value}(b:eg (W.x Φ) Q y c)(h:Lk n0 srcs x y=some a)(ha:hJ a a') :
 (XA n0 x (a'++rest)).2=rest/\eg (W.x Φ) Q' (XA n0 x (a'++rest)).1 c:=by
 unfold Lk at h
 split at h
 .next l=>
  cases h
  cases ha with
  |cons h1 h2=>cases h2;exact⟨rfl,h1.ok b⟩
 .next k j=>
  split at h
  .next i hi=>
   split at h
   .next hb=>
    cases h;cases ha
    obtain rfl:=aK hb
    rw[zN]at hi
    obtain⟨q,h1,h2,q',d,f⟩:=e k _ hi
    obtain⟨q'',g1,g2,g3⟩:=b
    rw[d]at g1;cases g1
    exact⟨rfl,q,h1,by rw[f];exact g2,h2⟩
   .cases h
  .cases h
 .next k=>
  split at h
  .next hi=>
   cases h;cases ha
   rw[zN]at hi
   obtain⟨q,h1,h2,d⟩:=e k _ hi
   exact⟨rfl,q,h1,by rw[d];exact b,h2⟩
  .cases h
 .next j off j' off'=>
  split at h
  .next hb=>
   cases h;cases ha
   simp only[aF]at hb
   obtain rfl:=aK hb.1.1
   obtain rfl:=aK hb.1.2
   obtain⟨q,g1,g2⟩:=b
   exact⟨rfl,q,g _ _ (by simpa using hb.2) g1,g2⟩
  .cases h
 .cases h;cases ha;exact⟨rfl,b⟩
 .cases h
theorem RW(d:∀(i:Nat) q,i<n0->Q[i]? = some q->Q'[i]? = some q)(f:iD Q Q' n0 srcs):∀{ls:List LS} {l a a' rest:List Lf} {c:List Value},bu (W.x Φ) Q l c->ZN n0 srcs ls l=some a->hJ a a' ->
 (kT n0 ls (a'++rest)).2=rest/\bu (W.x Φ) Q' (kT n0 ls (a'++rest)).1 c
 | [],[],a,a',rest,c,hl,h,ha=>by cases h;cases ha;exact⟨rfl,hl⟩
 | [],_::_,a,a',rest,c,hl,h,ha=>by simp only[ZN]at h;cases h
 |_::_,[],a,a',rest,c,hl,h,ha=>by simp only[ZN]at h;cases h
 |x::ls,y::l,a,a',rest,c,⟨c1,g,e,m,hl⟩,h,ha=>by
  simp only[ZN]at h
  split at h
  .next b b2 hb hb2=>
   cases h
   obtain⟨p,q,rfl,h1,h2⟩:=ha.split
   rw[bF]
   obtain⟨g1,g2⟩:=Og (rest:=q++rest) d f m hb h1
   obtain⟨j,k⟩:=RW (rest:=rest) d f hl hb2 h2
   simp only[kT]
   rw[g1]
   exact⟨j,c1,g,e,g2,k⟩
  .cases h
theorem zgu{C:Cx}{e:En}{F:FF}(k:∀(i:Nat) q,i<n0->Q[i]? = some q->Q'[i]? = some q)(m:iD Q Q' n0 srcs)(d:∀t p,e.get C t=some p->cL (W.x Φ) Q p (F t)):∀{vs:List (Nat×Bool×List LS)} {a a' rest:List Lf},Sv n0 C e srcs vs=some a->hJ a a' ->
 (Vx n0 vs (a'++rest)).2=rest/\ff (W.x Φ) Q' (Vx n0 vs (a'++rest)).1 F
 | [],a,a',rest,h,ha=>by cases h;cases ha;exact⟨rfl,λ_ h=>nomatch h⟩
 |(t,g,ls)::vs,a,a',rest,h,ha=>by
  simp only[Sv]at h
  split at h
  .next p hp=>
   split at h
   .next n l j=>
    split at h
    .next b b2 hg hb hb2=>
     cases h
     obtain⟨p1,p2,rfl,h1,h2⟩:=ha.split
     rw[bF]
     have f:=zeo (d t p hp) j
     simp only[beq_iff_eq]at hg
     subst hg
     obtain⟨o,r⟩:(kT n0 ls (p1++(p2++rest))).2=p2++rest/\QR (W.x Φ) Q' (n,(kT n0 ls (p1++(p2++rest))).1) (F t):=by
      cases n with
      |true=>
       obtain⟨c,e1,hl⟩:=f
       obtain⟨g1,g2⟩:=RW (rest:=p2++rest) k m hl hb h1
       exact⟨g1,c,e1,g2⟩
      |false=>
       obtain⟨y,e1,hl⟩:=f
       simp only at e1;subst e1
       obtain⟨g1,g2⟩:=RW (rest:=p2++rest) k m (bu.one hl) hb h1
       refine⟨g1,?_⟩
       cases ls with
       |nil=>simp only[ZN]at hb;cases hb
       |cons x ls=>
        cases ls with
        |nil=>exact⟨_,rfl,bu.one' g2⟩
        |cons x2 ls=>
         simp only[ZN]at hb
         split at hb
         .next h9=>cases h9
         .cases hb
     obtain⟨s,u⟩:=zgu (rest:=rest) k m d hb2 h2
     simp only[Vx]
     rw[o]
     refine⟨s,λq j=>?_⟩
     rcases aJ.mp j with rfl|j
     .exact rn r
     .exact u q j
    .cases h
   .cases h
  .cases h
theorem zfn{x:LS}{y:Lf}{a a' rest:List Lf}(h:Lk n0 srcs x y=some a)(ha:hJ a a'):(XA n0 x (a'++rest)).2=rest:=by
 unfold Lk at h
 split at h
 .cases h;cases ha with|cons h1 h2=>cases h2;rfl
 .split at h
  .split at h
   .cases h;cases ha;rfl
   .cases h
  .cases h
 .split at h
  .cases h;cases ha;rfl
  .cases h
 .split at h
  .cases h;cases ha;rfl
  .cases h
 .cases h;cases ha;rfl
 .cases h
theorem Vy:∀{ls:List LS} {l a a' rest:List Lf},ZN n0 srcs ls l=some a->hJ a a'->(kT n0 ls (a'++rest)).2=rest
 | [],[],a,a',rest,h,ha=>by cases h;cases ha;rfl
 | [],_::_,a,a',rest,h,ha=>by simp only[ZN]at h;cases h
 |_::_,[],a,a',rest,h,ha=>by simp only[ZN]at h;cases h
 |x::ls,y::l,a,a',rest,h,ha=>by
  simp only[ZN]at h
  split at h
  .next b b2 hb hb2=>
   cases h
   obtain⟨p,q,rfl,h1,h2⟩:=ha.split
   rw[bF]
   simp only[kT]
   rw[zfn hb h1]
   exact Vy hb2 h2
  .cases h
theorem pS(f:∀(i:Nat) q,i<n0->Q[i]? = some q->Q'[i]? = some q)(g:iD Q Q' n0 srcs){ls:List LS}{o:Ob}{a a' rest:List Lf}(h:pR n0 srcs ls o=some a)(ha:hJ a a') :
 (uu n0 ls (a'++rest)).2=rest/\(uu n0 ls (a'++rest)).1≠.const/\(uu n0 ls (a'++rest)).1≠.dead/\∀q b,cZ (W.x Φ) Q o q b->cZ (W.x Φ) Q' (uu n0 ls (a'++rest)).1 q b:=by
 unfold pR at h
 split at h
 .next l=>
  have d:ls≠[.lst]:=λe=>by
   subst e
   cases l with
   |nil=>simp only[ZN]at h;cases h
   |cons y l=>simp only[ZN,Lk]at h;cases h
  have hf:uu n0 ls (a'++rest)=(.cells (kT n0 ls (a'++rest)).1,(kT n0 ls (a'++rest)).2):=by
   unfold uu
   split
   .exact(d rfl).elim
   .rfl
  rw[hf]
  exact⟨Vy h ha,(λh=>nomatch h),(λh=>nomatch h),λq b ⟨c,t,e1,hc⟩=>⟨c,t,e1,(RW (rest:=rest) f g hc h ha).2⟩⟩
 .next t w τ l=>
  split at h
  .cases h
   cases ha with
   |cons h1 h2=>
    cases h1;cases h2
    exact⟨rfl,(λh=>nomatch h),(λh=>nomatch h),λq b h=>h⟩
  .cases h
 .cases h
theorem zgV{e:En}{O:List (Option ak)}(n:∀(i:Nat) q,i<n0->Q[i]? = some q->Q'[i]? = some q)(p:iD Q Q' n0 srcs)(c:∀(i:Nat) b q o,e.objs[i]? = some b->Q[i]? = some q->O[i]? = some o->cZ (W.x Φ) Q b q o) :
 ∀{vs:List (Nat×List LS)} {sk:List Ob} {a a' rest:List Lf},Sq n0 e srcs vs=some a->hJ a a' ->
 (Qg n0 vs sk (a'++rest)).2=rest/\(Qg n0 vs sk (a'++rest)).1.length=sk.length/\∀(i:Nat) b,(Qg n0 vs sk (a'++rest)).1[i]? = some b->sk[i]? = some b\/(FV i vs=true/\b≠.const/\b≠.dead/\∀q o,Q[i]? = some q->O[i]? = some o->cZ (W.x Φ) Q' b q o)
 | [],sk,a,a',rest,h,ha=>by cases h;cases ha;exact⟨rfl,rfl,λi b hb=>.inl hb⟩
 |(j,ls)::vs,sk,a,a',rest,h,ha=>by
  simp only[Sq]at h
  split at h
  .next ob hl=>
   split at h
   .next b b2 hb hb2=>
    cases h
    rw[zN]at hl
    obtain⟨p1,p2,rfl,h1,h2⟩:=ha.split
    rw[bF]
    obtain⟨f,k,l,m⟩:=pS (W:=W) (Φ:=Φ) (rest:=p2++rest) n p hb h1
    simp only[Qg]
    rw[f]
    obtain⟨g1,g2,r⟩:=zgV (sk:=zM sk j (uu n0 ls (p1++(p2++rest))).1) (rest:=rest) n p c hb2 h2
    refine⟨g1,by rw[g2,y9],λi b g=>?_⟩
    have d:FV i vs=true->FV i ((j,ls)::vs)=true:=λhk=>by
     simp only[FV,cW]at hk |-
     cases Nat.beq j i with
     |true=>rfl
     |false=>exact hk
    rcases r i b g with h|⟨h,s⟩
    .rw[xV]at h
     split at h
     .next t=>
      cases h
      obtain⟨rfl,_⟩:=t
      exact .inr ⟨by simp[FV,cW],k,l,λq o u ho=>m q o (c i ob q o hl u ho)⟩
     .exact .inl h
    .exact .inr ⟨d h,s⟩
   .cases h
  .cases h
end
end Go.Proofs.YtocnbjjmmgolfaaGreat
