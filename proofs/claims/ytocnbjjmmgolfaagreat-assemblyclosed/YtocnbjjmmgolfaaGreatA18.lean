/- The evaluator: regions whose order is drawn. -/
import Derived.Test.YtocnbjjmmgolfaaGreatA17
set_option linter.unusedSimpArgs false
set_option linter.unusedVariables false
set_option linter.unusedSectionVars false
namespace Go.Proofs.YtocnbjjmmgolfaaGreat
open Go Go.M Go.Proofs.C14
section
variable{I:zU}{Γ:TypeId→Option Ty}{T:FuncId→Option Con}{ρ:Type}{inl:Inl ρ}{rc:Nat}{W:Wd}{s0 s:St}{C:Cx}{QL:Qs}{stk:List Fra}{e:En}{F:FF}{m:Nat}{Q:Qs}{O:List (Option MObj)}{L Φ:Hp'}
theorem con_ok(hI:zH I)(K:Qz I T)(G:GX QL W s0 s C stk e F m Q O L Φ){bar:Nat}{prot:List Nat}(z:Fine {next:=s.next,bar:=bar,prot:=prot,heap:=s.heap})(hb1:s.bar≤bar)(n:∀p,p∈s.prot→p∈prot)
 {d:Option Nat} {o:Op} {k:En→Option ρ} {r:ρ} {P:FF→St→Prop} {ty:TypeId} {pos:String} {af:Array Edge} {gd:Option (Nat×Bool)} (hc:zgU T o=true)
 (h:v5 Γ T inl rc C e d o k=some r) (J:s0.next+(m+qQ T rc o)≤zw) (hk:∀l u s' E,E≤m+qQ T rc o→k8 QL W s0 s' C stk l u E→k l=some r→P u s') :
 OpW Tryz.prog I ⟨d,o,ty,pos,af,gd⟩ F {next:=s.next,bar:=bar,prot:=prot,heap:=s.heap} (fun u s'=>P u (reS s s')):=by
 unfold zgU at hc
 split at hc
 ·next c=>
  split at hc
  ·next g hg=>
   obtain⟨callee,ag,ts⟩:=c
   simp only at hg
   subst hg
   unfold v5 at h
   simp only[En.ev]at h
   split at h
   ·next hb=>
    simp only[aG,bC]at hb
    cases i:T g with
    |none=>rw[i]at hc;cases hc
    |some con=>
     unfold callK at h
     split at h
     ·next ps hps=>
      rw[i]at h
      simp only at h
      split at h
      ·next e1 hf t=>
       simp only[aG,dA]at t
       obtain⟨O1,Φ1,G1⟩:=G.frzP hf
       split at h
       ·next ps1 q=>
        split at h
        ·next x hx=>
         obtain⟨y,M,h⟩:=zP h
         have hm:=G.H.most
         have j:qQ T rc (.call ⟨.value (.func g),ag,ts⟩)=con.room:=by simp only[qQ,i]
         rw[j]at J hk
         obtain⟨v,s',B,D,A,hv⟩:=K g con i z (G1.see.kn.heap rfl (aO _)) (zef (G1.evs q) hx) M (by show s.next+con.room≤zw;omega)
         split at h
         ·obtain⟨p,hp,h⟩:=yR h
          obtain⟨l,G3,w⟩:=(G.call (HL.wider G.H.fine hb1 n A)).set (zgx hv hp) h
          refine ym (args:=⟨qB (zd F) ag.toList++[]⟩) (f:=.func g) (a:= #[]) (b:= #[]) rfl hb.1 rfl ⟨v,s',?_,hk l _ _ _ Oz G3.good w⟩ hb.2
          rw[bM];exact B
         ·have G2:=G1.call (HL.wider G.H.fine hb1 n A)
          have hp:=JP (Q:=Q) (RepV.mono (uT (dJ _ _) (List.subset_append_left _ _)) hv) t.2
          obtain⟨l,G3,w⟩:=G2.set hp h
          refine ym (args:=⟨qB (zd F) ag.toList++[]⟩) (f:=.func g) (a:= #[]) (b:= #[]) rfl hb.1 rfl ⟨v,s',?_,hk l _ _ _ Oz G3.good w⟩ hb.2
          rw[bM];exact B
        ·cases h
       ·cases h
      ·cases h
     ·cases h
   ·cases h
  ·cases hc
 ·cases hc
theorem allC_len:∀{l:List Ob},(Wm l).length=l.length
 | []=>rfl
 |o::l=>by cases o<;>simp only[Wm,aW,allC_len]
theorem zdw:∀{l:List Ob} {i:Nat} {b:Ob},(Wm l)[i]? = some b→b=.dead∨b=.const
 |o::l,0,b,h=>by cases o<;>cases h<;>first|exact .inl rfl|exact .inr rfl
 |o::l,i+1,b,h=>by
  have:(Wm l)[i]? = some b:=by cases o<;>exact h
  exact zdw this
theorem Vw:∀{n:Nat} {l:List Ob},uI n l=l.drop n
 |0,l=>rfl
 |n+1,[]=>rfl
 |n+1,_::l=>by simp only[uI,fA,Vw]
theorem zgs:∀{l:List Ob} {i:Nat},noC l=true→l[i]? ≠ some .const
 | [],i,h,a=>by cases a
 |o::l,0,h,a=>by cases a;simp[noC,kM]at h
 |o::l,i+1,h,a=>by
  simp only[noC,aG]at h
  exact zgs (l:=l) (i:=i) h.2 a
theorem GX.lend(G:GX QL W s0 s C stk e F m Q O L Φ){bar:Nat}{prot:List Nat}(d:Fine {next:=s.next,bar:=bar,prot:=prot,heap:=s.heap})(f:FF) :
 GX Q (W.x Φ) {next:=s.next,bar:=bar,prot:=prot,heap:=s.heap} {next:=s.next,bar:=bar,prot:=prot,heap:=s.heap} ⟨[],gG e.objs C.objs,e.objs.length,e.objs.length⟩ [] ⟨[],Wm e.objs⟩ f 0 Q O [] [] where
 K:=G.see.kn.heap rfl (aO _)
 H:=d.hl
 oq:=G.oq
 len:=by simp only[allC_len];exact G.len
 cn:=by simp only[G.len];exact aO _
 ln:=aO _
 pre:=fun i _=>rfl
 fro:=List.nil_subset _
 own:=fun i q o h1 h2 hi=>by
  have:=(aM.mp h1).1
  simp only[G.len]at hi
  omega
 lent:=fun i q o h1 h2 hi=>⟨G.get h1 h2,G.lt h1 h2⟩
 inj:=G.inj
 dis:=fun i q o p hi h1 h2 hp=>by cases hp
 obj:=fun i b q o h0 h1 h2=>by rcases zdw h0 with rfl|rfl<;>trivial
 cob:=fun i b q o h0 a h1 h2=>by
  simp only[G.len,aY]
  rcases gE a with⟨c,g⟩|c
  ·exact(G.cob i b q o c g h1 h2).mono xP QLe.take
  ·exact(G.obj i b q o c h1 h2).mono xP QLe.rfl
 slots:=fun _ h=>nomatch h
 cslots:=fun _ h=>nomatch h
 stk:=fun _ h=>nomatch h
theorem GX.joinL(G:GX QL W s0 s C stk e F m Q O L Φ){bar:Nat}{prot:List Nat}{s':St}{U o:List Ob}{S:FF}{R:Nat}{Q':Qs}{O':List (Option MObj)}{B Φ':Hp'}(hb1:s.bar≤bar)(E:∀p,p∈s.prot→p∈prot)
 (G':GX Q (W.x Φ) {next:=s.next,bar:=bar,prot:=prot,heap:=s.heap} s' ⟨[],U,e.objs.length,e.objs.length⟩ [] ⟨[],o⟩ S R Q' O' B Φ') (hn:noC (uI e.objs.length o)=true) :
 GX QL W s0 (reS s s') C stk {e with objs:=e.objs++uI e.objs.length o} F (m+R) Q' (O++O'.drop O.length) (B++L) (Φ'++Φ):=by
 have H':=HL.wider G.H.fine hb1 E G'.H
 have hlen:=G.len
 have hcn':e.objs.length≤Q'.length:=G'.cn
 have a:∀(i:Nat),i<Q.length→Q'[i]? = Q[i]? :=fun i hi=>G'.pre i (by simp only[hlen];exact hi)
 have P:QLe Q Q':=fun i q h=>by rw[a i (aM.mp h).1];exact h
 have k:∀n,n≤Q.length→Q'.take n=Q.take n:=fun n hn=>List.ext_getElem? fun i=>by
  rw[List.getElem?_take,List.getElem?_take]
  split
  ·exact a i Oz
  ·rfl
 have A:WLe (W.x Φ) (W.x (Φ'++Φ)):=vF (dJ _ _)
 have J:WLe ((W.x Φ).x Φ') (W.x (Φ'++Φ)):=uT (dJ _ _) (List.subset_append_left _ _)
 have z:=G'.oq
 have v:∀{i:Nat} {x},(O++O'.drop O.length)[i]? = some x→(i<Q.length∧O[i]? = some x)∨(Q.length≤i∧O'[i]? = some x):=fun{i x} h=>by
  by_cases hi:i<O.length
  ·rw[bY hi]at h;exact .inl ⟨by rw[←G.oq];exact hi,h⟩
  ·rw[List.getElem?_append_right Oz,dX,show O.length+(i-O.length)=i by omega]at h
   exact .inr ⟨by rw[←G.oq];omega,h⟩
 have N:∀{i:Nat} {x},(e.objs++uI e.objs.length o)[i]? = some x→(i<Q.length∧e.objs[i]? = some x)∨(Q.length≤i∧o[i]? = some x∧x≠.const):=fun{i x} h=>by
  by_cases hi:i<e.objs.length
  ·rw[bY hi]at h;exact .inl ⟨by rw[←hlen];exact hi,h⟩
  ·rw[List.getElem?_append_right Oz]at h
   refine .inr ⟨by rw[←hlen];omega,?_,fun e1=>?_⟩
   ·rw[Vw,dX,show e.objs.length+(i-e.objs.length)=i by omega]at h;exact h
   ·subst e1;exact zgs hn h
 have t:∀(i:Nat) q d,Q'[i]? = some q→O'[i]? = some (some d)→Q.length≤i→(q.2,d)∈B∧s.next≤q.2:=fun i q d h1 h2 hi=>by
  have c:=G'.own i q d h1 h2 (by simp only[hlen];exact hi)
  refine⟨c,?_⟩
  rcases(G'.H.own _ c).2.2.2 with h|h
  ·exact h
  ·cases h
 have hΦ':∀p,p∈Φ'→s.next≤p.1:=fun p hp=>by
  rcases(G'.H.own p (G'.fro hp)).2.2.2 with h|h
  ·exact h
  ·cases h
 exact{
  K:=G.K
  H:=G.H.call H'
  oq:=by rw[aQ,bZ,G.oq,z];omega
  len:=by
   have:=G'.len
   simp only at this
   simp only[aQ,Vw,bZ,this];omega
  cn:=by have:=G.cn;omega
  ln:=G.ln
  pre:=fun i hi=>by rw[a i (by have:=G.ln;have:=G.cn;omega)];exact G.pre i hi
  fro:=fun p hp=>by
   rcases aU.mp hp with h|h
   ·exact cE _ (G'.fro h)
   ·exact bE _ (G.fro h)
  own:=fun i q d h1 h2 hi=>by
   rcases v h2 with⟨c,g⟩|⟨c,g⟩
   ·rw[a i c]at h1;exact bE _ (G.own i q d h1 g hi)
   ·exact cE _ (t i q d h1 g c).1
  lent:=fun i q d h1 h2 hi=>by
   rcases v h2 with⟨c,g⟩|⟨c,g⟩
   ·rw[a i c]at h1
    obtain⟨g1,g2⟩:=G.lent i q d h1 g hi
    exact⟨by rw[H'.get (by have:=G.H.le;omega)];exact g1,g2⟩
   ·have:=G.ln;have:=G.cn;omega
  inj:=fun i j q r d M h1 h2 c g he=>by
   rcases v c with⟨l,u⟩|⟨l,u⟩<;>rcases v g with⟨w,y⟩|⟨w,y⟩
   ·rw[a i l]at h1;rw[a j w]at h2;exact G.inj i j q r d M h1 h2 u y he
   ·rw[a i l]at h1
    have:=G.lt h1 u;have:=(t j r M h2 y w).2;omega
   ·rw[a j w]at h2
    have:=G.lt h2 y;have:=(t i q d h1 u l).2;omega
   ·exact G'.inj i j q r d M h1 h2 u y he
  dis:=fun i q d p hi h1 h2 hp=>by
   rcases v h2 with⟨c,g⟩|⟨c,g⟩<;>rcases aU.mp hp with l|l
   ·rw[a i c]at h1
    have:=G.lt h1 g;have:=hΦ' p l;omega
   ·rw[a i c]at h1;exact G.dis i q d p hi h1 g l
   ·exact G'.dis i q d p (by simp only[hlen];exact c) h1 g l
   ·have:=(G.H.own p (G.fro l)).2.1;have:=(t i q d h1 g c).2;omega
  obj:=fun i b q d h0 h1 h2=>by
   rcases v h2 with⟨c,g⟩|⟨c,g⟩<;>rcases N h0 with⟨l,u⟩|⟨l,u,_⟩<;>try omega
   ·rw[a i c]at h1;exact(G.obj i b q d u h1 g).mono A P
   ·exact(G'.obj i b q d u h1 g).mono J QLe.rfl
  cob:=fun i b q d h0 D h1 h2=>by
   rw[k _ G.cn]
   rcases N h0 with⟨l,u⟩|⟨l,u,w⟩
   ·rcases v h2 with⟨c,g⟩|⟨c,g⟩
    ·rw[a i c]at h1;exact(G.cob i b q d u D h1 g).mono A QLe.rfl
    ·omega
   ·exact(w rfl).elim
  slots:=G.slots.mono A P
  cslots:=by rw[k _ G.cn];exact G.cslots.mono A QLe.rfl
  stk:=fun f hf=>by
   obtain⟨h1,h2,c⟩:=G.stk f hf
   exact⟨h1,by rw[k _ (by have:=G.cn;omega)];exact h2.mono A QLe.rfl,fun p hp=>bE _ (c hp)⟩}
theorem zgF(z:∀W s0,Qi I W s0 inl rc)(G:GX QL W s0 s C stk e F m Q O L Φ){bar:Nat}{prot:List Nat}(y:Fine {next:=s.next,bar:=bar,prot:=prot,heap:=s.heap})(hb1:s.bar≤bar)(D:∀p,p∈s.prot→p∈prot)
 {d:Option Nat} {o:Op} {k:En→Option ρ} {r:ρ} {P:FF→St→Prop} {ty:TypeId} {pos:String} {af:Array Edge} {gd:Option (Nat×Bool)}
 (h:inlD T inl C e d o k=some r) (hB:s0.next+(m+qQ T rc o)≤zw) (hk:∀u t s' E,E≤m+qQ T rc o→k8 QL W s0 s' C stk u t E→k u=some r→P t s') :
 OpW Tryz.prog I ⟨d,o,ty,pos,af,gd⟩ F {next:=s.next,bar:=bar,prot:=prot,heap:=s.heap} (fun t s'=>P t (reS s s')):=by
 have hm:=G.H.most
 have B:yD e.objs 0=e.objs.length:=by rw[yd,bK]
 unfold inlD at h
 rw[B]at h
 split at h
 ·next c=>
  obtain⟨callee,ag,ts⟩:=c
  simp only at h
  split at h
  ·next f=>
   -- the call itself
   have key:∀(g:FuncId) (ps:List Pv) (vs:List Value),Nat.ble zu g=false→PsR (W.x Φ) Q ps vs→rc≤qQ T rc (.call ⟨.value f,ag,ts⟩)→inl g (gG e.objs C.objs) e.objs.length ps (Wm e.objs) (fun v o=>match noC (uI e.objs.length o)with
    |true=>En.set C {e with objs:=e.objs++uI e.objs.length o} d v k
    |false=>none)=some r→∃v s',vo Tryz.prog I g ⟨vs⟩ {next:=s.next,bar:=bar,prot:=prot,heap:=s.heap} v s'∧P (upd F d v) (reS s s'):=by
    intro g ps vs n b i h
    rw[←jx (Q:=Q) n]
    have q:PsR ((W.x Φ).x []) Q ps vs:=PsR.mono xP QLe.rfl b
    refine z (W.x Φ) _ h (G.lend y F) allC_len.symm q (by show s.next+(0+rc)≤zw;omega) ?_
    intro p v o' s' E Q' O' L' Φ' hm' J hp j
    split at j
    ·next hn=>
     have G2:=G.joinL hb1 D J hn
     obtain⟨u,G3,K⟩:=G2.set (hp.mono (uT (dJ _ _) (List.subset_append_left _ _)) QLe.rfl) j
     exact hk u _ _ _ Oz G3.good K
    ·cases j
   split at h
   ·next g caps ps hf b=>
    split at h
    ·next hb=>
     simp only[aG,bC]at hb
     obtain⟨cs,a,w⟩:=G.ev hf
     have A:∀g2,f≠.func g2:=fun g2 e=>by
      subst e;simp only[En.ev,bF]at hf;cases hf
     have i:rc≤qQ T rc (.call ⟨.value f,ag,ts⟩):=by
      cases f with
      |func g2=>exact(A g2 rfl).elim
      |_=>exact aO _
     exact ym a hb.1.1 (by rfl) (key g _ _ hb.1.2 ((G.evs b).app (PsR.caps w hb.2)) i h) hb.1.2
    ·cases h
   ·next g ps hf b=>
    split at h
    ·next hb=>
     simp only[aG,bC]at hb
     have a:zd F f=.func (.func g) #[] #[]:=(List.cons.inj (show [zd F f]=_ from G.ev hf)).1
     have i:rc≤qQ T rc (.call ⟨.value f,ag,ts⟩):=by
      cases f with
      |func g2=>
       have:g2=g:=by
        have:zd F (.func g2)=.func (.func g2) #[] #[]:=rfl
        rw[this]at a;cases a;rfl
       subst this
       have l:T g2=none:=by
        have:=hb.2
        cases M:T g2 with
        |none=>rfl
        |some=>rw[M]at this;cases this
       simp only[qQ,l,aO]
      |_=>exact aO _
     refine ym (args:=⟨qB (zd F) ag.toList++[]⟩) a hb.1.1 rfl ?_ hb.1.2
     rw[bM]
     exact key g _ _ hb.1.2 (G.evs b) i h
    ·cases h
   ·cases h
  ·cases h
 ·cases h
theorem appS_prot{e:TypeId}{inf:TypeInfo}{base:Option Addr}{len cap n:Nat}{new:List Value}{s s1:St}{t:Next}{X:List Nat}(h:qg e inf base len cap n new s=.ok t s1)(u:∀a,base=some a→a.block∉X) :
 (∃v,t=.value v)∧s1.bar=s.bar∧s1.prot=s.prot∧qg e inf base len cap n new {s with prot:=X++s.prot}=.ok t {s1 with prot:=X++s1.prot}:=by
 have g:∀a,base=some a→({s with prot:=X++s.prot}:St).may a.block=s.may a.block:=fun a ha=>by
  have hx:=u a ha
  simp only[St.may,List.any_append]
  have:X.any (Nat.beq a.block)=false:=by
   rw[cL]
   intro h
   rw[eU]at h
   obtain⟨x,q,r⟩:=h
   rw[aJ r]at hx
   exact hx q
  rw[this,Bool.false_or]
 unfold qg at h ⊢
 cases hb:Nat.ble (len+n) (cap / 2)with
 |true=>
  simp only[hb]at h ⊢
  split at h
  ·next b off=>
   have l:=g _ rfl
   simp only at l
   unfold xy at h ⊢
   simp only[St.get]at h ⊢
   cases hg:s.heap.get b with
   |none=>simp only[hg]at h;cases h
   |some o=>
    simp only[hg]at h ⊢
    cases o with
    |cells c e'=>
     simp only[l]at h ⊢
     cases hc:new.all Go.M.plainCell&&s.may b<;>cases hl:yO (off+len*inf.size) new c<;>simp only[hc,hl]at h ⊢
     ·cases new<;>cases h
     ·cases new with
      |nil=>cases h;exact⟨⟨_,rfl⟩,rfl,rfl,rfl⟩
      |cons=>cases h
     ·cases new<;>cases h
     ·cases h;exact⟨⟨_,rfl⟩,rfl,rfl,rfl⟩
    |_=>cases h
  ·split at h
   ·cases h;exact⟨⟨_,rfl⟩,rfl,rfl,rfl⟩
   ·cases h
 |false=>
  simp only[hb]at h ⊢
  have k:wg e base cap {s with prot:=X++s.prot}=wg e base cap s:=rfl
  have f:∀sz m x,xQ sz m x {s with prot:=X++s.prot}=xQ sz m x s:=fun _ _ _=>rfl
  rw[k,f]
  split at h
  ·next old p j=>
   unfold Zv X0 at h ⊢
   split at h
   ·next s2 hk=>
    unfold uK at h
    split at h
    ·next d=>
     cases h
     split at hk
     ·cases hk
      next hcap=>
      simp only[hcap]
      refine⟨⟨_,rfl⟩,rfl,rfl,?_⟩
      simp only[p,j,uK,show({s with prot:=X++s.prot}:St).room=s.room from rfl,d]
      rfl
     ·next hcap=>
      split at hk
      ·next a=>
       split at hk
       ·next l=>
        cases hk
        refine⟨⟨_,rfl⟩,rfl,rfl,?_⟩
        have i:=g a rfl
        rw[l]at i
        simp only[i,uK,show({s with prot:=X++s.prot}:St).put a.block none={s.put a.block none with prot:=X++s.prot}from rfl,show({s.put a.block none with prot:=X++s.prot}:St).room=(s.put a.block none).room from rfl,d]
        rfl
       ·cases hk
      ·cases hk
    ·cases h
   ·cases h
  ·cases h
theorem appM_prot{P:Program}{ts:List TypeId}{args:List Value}{s s1:St}{d:Next}{X:List Nat}(h:xd P ts args s=.ok d s1)(g:∀a n c x,args=[.slice (some a) n c,x]→a.block∉X) :
 (∃v,d=.value v)∧s1.bar=s.bar∧s1.prot=s.prot∧xd P ts args {s with prot:=X++s.prot}=.ok d {s1 with prot:=X++s1.prot}:=by
 unfold xd at h ⊢
 split at h
 ·next st f tr base len cap x=>
  split at h
  ·next e hu=>
   split at h
   ·next inf hi=>
    have b:newL (P.underlying f) inf x {s with prot:=X++s.prot}=newL (P.underlying f) inf x s:=rfl
    rw[b]
    split at h
    ·next n new hn=>
     exact appS_prot h fun a ha=>g a len cap x (by rw[ha])
    ·cases h
   ·cases h
  ·cases h
 ·cases h
theorem opw_prot{P:Program}{ag:Array Operand}{ts:Array TypeId}{d:Option Nat}{ty:TypeId}{pos:String}{af:Array Edge}{gd:Option (Nat×Bool)}{s:St}{R:FF→St→Prop}{X:List Nat}(h:OpW P I ⟨d,.call ⟨.builtin .append,ag,ts⟩,ty,pos,af,gd⟩ F s R)
 (g:∀a n c x,qB (zd F) ag.toList=[.slice (some a) n c,x]→a.block∉X):OpW P I ⟨d,.call ⟨.builtin .append,ag,ts⟩,ty,pos,af,gd⟩ F {s with prot:=X++s.prot} (fun f s'=>R f (reS s s')):=by
 obtain⟨f,s',i,n,hn⟩:=h.ex
 have h1:=hn n (aO _)
 have b:∀s,zh P (zd F) (.call ⟨.builtin .append,ag,ts⟩) s=xd P ts.toList (qB (zd F) ag.toList) s:=fun _=>rfl
 unfold opF at h1
 simp only[b]at h1
 cases ha:xd P ts.toList (qB (zd F) ag.toList) s with
 |ok nx s1=>
  obtain⟨⟨v,rfl⟩,hb,hp,h2⟩:=appM_prot (X:=X) ha g
  rw[ha]at h1
  simp only[FOut.normal.injEq]at h1
  obtain⟨rfl,rfl⟩:=h1
  refine zA (v:=v) (by rw[b];exact h2) ?_
  have:reS s {s1 with prot:=X++s1.prot}=s1:=by
   cases s1
   simp only at hb hp
   subst hb hp
   rfl
  rw[this];exact i
 |_=>rw[ha]at h1;cases h1
theorem draw_newK{P:Program}{ops:List Oper}{ix anc:Nat}{free:List Nat}{o:Oper}{ob:MObj}{v:Value}{rest:List Drawn}{R:FF→St→Prop}(hg:zF ops ix=some o)(f:yi ops F o=true)(a:s.room=true)
 (hv:zh P (zd F) o.op {next:=s.next,bar:=s.next,prot:=[],heap:=.nil}=.ok (.value v) (({next:=s.next,bar:=s.next,prot:=[],heap:=.nil}:St).new ob)) (hb:yx (upd F o.dst v) o=some s.next)
 (h:yZ P I ops rest (upd F o.dst v) (s.new ob) R):yZ P I ops (⟨ix,anc,.new,free⟩::rest) F s R:=by
 obtain⟨F₂,s₂,d,n₂,h2⟩:=h
 refine⟨F₂,s₂,d,n₂,fun m c=>?_⟩
 have hn:(({next:=s.next,bar:=s.next,prot:=[],heap:=.nil}:St).new ob).next=s.next+1:=rfl
 have hr:=wh a
 have b:(({next:=s.next,bar:=s.next,prot:=[],heap:=.nil}:St).new ob).get s.next=some ob:=by
  rw[St.get_new (by show s.next+1<_;omega)]
  exact aF rfl
 simp only[gz,hg,vP,f,opF,hv,hb,hn,b,a,eM,Bool.and_self]
 exact h2 m c
theorem Vj(G:GX QL W s0 s C stk e F m Q O L Φ){ops:List Oper}{j:Nat}{q:Value×Nat}{oj:MObj}(R:Q[j]? = some q)(ho:O[j]? = some (some oj))(hj:C.lent≤j) :
 ∀{fr:List Nat},Vk C ops e fr=true→FreeI C ops e fr→zcJ C ops e j fr=true→∀p,p∈yf ops F fr→p≠q.2
 | [],_,_,_,p,hp=>by cases hp
 |i::r,h,hI,h',p,hp=>by
  have hge:s0.next≤q.2:=by
   rcases(G.H.own _ (G.own j q oj R ho hj)).2.2.2 with h|h
   ·exact h
   ·cases h
  -- an address of something that is there,but not of object j
  have key:∀{pv:Option Pv} {v:Value} {b:Nat},(∀x,pv=some x→PvR (W.x Φ) Q x v)→KH C e pv=true→(∀i off,pv=some (.one (.ptr i off))→i≠j)→(∀i,pv=some (.one (.own i))→i≠j) →
   ((∃a,v=.pointer (some a)∧a.block=b)∨(∃a n c,v=.slice (some a) n c∧a.block=b))→b≠q.2:=by
   intro pv v b k g hn1 hn2 hv he
   subst he
   have M:∀t w a n c Z,(W.x Φ).S t w (.slice (some a) n c) Z→a.block≠q.2:=fun t w a n c Z M he=>by
    rcases M with M|M
    ·have:=G.K.s _ _ _ _ M
     cases this with
     |nil c hv hl=>cases hv
     |block b' off' cap' c hv hgc hbn hcap hc=>
      simp only[Value.slice.injEq,bF]at hv
      rw[hv.1]at he
      simp only at he
      omega
    ·cases M with
     |nil c hv hl=>cases hv
     |block b' off' cap' c hv hg hcap hc=>
      simp only[Value.slice.injEq,bF]at hv
      rw[hv.1]at he
      exact G.dis j q oj _ hj R ho hg he
   unfold KH at g
   split at g
   ·next i off=>
    obtain⟨X,B,f⟩:=k _ rfl
    have f:=(List.cons.inj f).1
    split at g
    ·next l E=>
     obtain⟨q'',o,h1,h2,c,t,rfl,_⟩:=G.at E
     rw[B]at h1;cases h1
     rcases hv with⟨a,ha,hb⟩|⟨a,n,c,ha,hb⟩
     ·rw[f]at ha;cases ha
      exact hn1 i off rfl (G.inj i j X q _ _ B R h2 ho hb)
     ·rw[f]at ha;cases ha
    ·cases g
   ·next i=>
    obtain⟨X,B,f,_⟩:=k _ rfl
    have f:=(List.cons.inj f).1
    split at g
    ·next t w τ l E=>
     obtain⟨q'',o,h1,h2,a',cap,V,_,_,_,Y,_,A,_⟩:=G.at E
     rw[B]at h1;cases h1
     rcases hv with⟨a,ha,hb⟩|⟨a,n,c,ha,hb⟩
     ·rw[f,V]at ha;cases ha
     ·rw[f,V]at ha
      cases ha
      generalize hD:wl X.2 o=D at A
      generalize P:(Value.slice (some a) l.length cap)=sl at A
      generalize Y.flatten=c at A
      generalize l.length=n at A P
      cases A with
      |nil=>cases P
      |block b' cap' _ _ hl hcap=>
       cases P
       cases o with
       |none=>cases hD
       |some o=>cases hD;exact hn2 i rfl (G.inj i j X q _ _ B R h2 ho hb)
    ·cases g
   ·next pv' g1 g2=>
    have k:=k _ rfl
    cases pv' with
    |one x=>
     cases x with
     |ep t w τ x off=>
      obtain⟨b,o,n,cap,Z,kk,N,hk,hR,f⟩:=k
      have f:=(List.cons.inj f).1
      rcases hv with⟨a,ha,hb⟩|⟨a,n,c,ha,hb⟩
      ·rw[f]at ha;cases ha;exact M _ _ _ _ _ _ N hb
      ·rw[f]at ha;cases ha
     |sl t w τ l=>
      obtain⟨a',cap,Z,e1,N,_⟩:=k
      have f:=(List.cons.inj e1).1
      rcases hv with⟨a,ha,hb⟩|⟨a,n,c,ha,hb⟩
      ·rw[f]at ha;cases ha
      ·rw[f]at ha;cases ha;exact M _ _ _ _ _ _ N hb
     |own i=>exact g2 _ rfl
     |ptr i off=>exact g1 _ _ rfl
     |op i w y off=>cases g
     |sp=>cases g
     |asl=>cases g
     |cl=>
      obtain⟨cs,e1,_⟩:=k
      have f:=(List.cons.inj e1).1
      rcases hv with⟨a,ha,hb⟩|⟨a,n,c,ha,hb⟩<;>(rw[f]at ha;cases ha)
     |yl=>
      obtain⟨q,_,e1⟩:=k
      have f:=(List.cons.inj e1).1
      rcases hv with⟨a,ha,hb⟩|⟨a,n,c,ha,hb⟩<;>(rw[f]at ha;cases ha)
     |unk=>cases g
     |rat=>have e1:=RatC.len k;cases e1
     |_=>
      have f:=(List.cons.inj (show [v]=_ from k)).1
      rcases hv with⟨a,ha,hb⟩|⟨a,n,c,ha,hb⟩<;>(rw[f]at ha;cases ha)
    |any=>cases g
    |undef=>
     rcases hv with⟨a,ha,hb⟩|⟨a,n,c,ha,hb⟩<;>(rw[show v=undef from k]at ha;cases ha)
    |_=>
     obtain⟨c',f,_⟩:=k
     rcases hv with⟨a,ha,hb⟩|⟨a,n,c,ha,hb⟩<;>(rw[f]at ha;cases ha)
   ·cases g
  simp only[Vk,aG]at h
  simp only[zcJ,aG]at h'
  obtain⟨h1,h2⟩:=h
  obtain⟨u,h4⟩:=h'
  have ih:=Vj G (ops:=ops) R ho hj h2 hI.tail h4
  simp only[yf]at hp
  split at hp
  ·next o U=>
   simp only[U]at h1 u
   split at hp
   ·next b hb=>
    rcases aL.mp hp with rfl|hp
    ·unfold yx at hb
     split at hb
     ·next t x z=>
      simp only[z]at h1 u
      split at hb
      ·next a ha=>
       cases hb
       rw[dA]at h1
       rcases h1 with h1|h1
       ·unfold opB at h1
        split at h1
        ·next i2 w n off hx=>
         obtain⟨t',w',τ,l,y,E,hi⟩:=hI i o t x i2 w n off (aP ..) U z hx
         obtain⟨q2,o2,hq2,ho2,hv2⟩:=op_blk G (G.ev hx) E hi
         rw[hv2]at ha;cases ha
         simp only[hx]at u
         intro e1
         have:=G.inj i2 j q2 q _ _ hq2 R ho2 ho e1
         subst this;simp at u
        ·cases h1
       refine key (pv:=e.ev C x) (fun y J=>G.ev J) h1 (fun i off he=>?_) (fun i he=>?_) (.inl ⟨a,ha,rfl⟩)
       ·simp only[he]at u
        intro e1;subst e1;simp at u
       ·obtain⟨X,B,f,_,_,_,hs⟩:=G.ev he
        have f:=(List.cons.inj f).1
        rw[f,hs]at ha;cases ha
      ·cases hb
     ·next t x lo hi z=>
      simp only[z]at h1 u
      have n1:∀i off,e.ev C x=some (.one (.ptr i off))→i≠j:=fun i off he=>by
       simp only[he]at u
       intro e1;subst e1;simp at u
      have n2:∀i,e.ev C x=some (.one (.own i))→i≠j:=fun i he=>by
       simp only[he]at u
       intro e1;subst e1;simp at u
      split at hb
      ·next a n' c' ha=>
       cases hb
       exact key (pv:=e.ev C x) (fun y J=>G.ev J) h1 n1 n2 (.inr ⟨a,_,_,ha,rfl⟩)
      ·next a ha=>
       cases hb
       exact key (pv:=e.ev C x) (fun y J=>G.ev J) h1 n1 n2 (.inl ⟨a,ha,rfl⟩)
      ·cases hb
     ·next t z=>
      simp only[z]at h1 u
      split at hb
      ·next d hd=>
       simp only[hd]at h1 u
       split at hb
       ·next a ha=>
        cases hb
        refine key (pv:=e.get C d) (fun y J=>G.ev (x:=.tmp d) J) h1 (fun i off he=>?_) (fun i he=>?_) (.inl ⟨a,ha,rfl⟩)
        ·simp only[he]at u
         intro e1;subst e1;simp at u
        ·simp only[he]at u
         intro e1;subst e1;simp at u
       ·cases hb
      ·cases hb
     ·next t n ps z=>
      simp only[z]at h1 u
      split at hb
      ·next d hd=>
       simp only[hd]at h1 u
       split at hb
       ·next a n' c' ha=>
        cases hb
        refine key (pv:=e.get C d) (fun y J=>G.ev (x:=.tmp d) J) h1 (fun i off he=>?_) (fun i he=>?_) (.inr ⟨a,_,_,ha,rfl⟩)
        ·simp only[he]at u
         intro e1;subst e1;simp at u
        ·simp only[he]at u
         intro e1;subst e1;simp at u
       ·cases hb
      ·cases hb
     ·cases hb
    ·exact ih p hp
   ·exact ih p hp
  ·exact ih p hp
end
theorem zgl:∀{l xs:List Value},xs.length≤l.length→∃r,xO xs l=some (xs++r)
 |l,[],_=>⟨l,rfl⟩
 | [],x::xs,h=>by simp at h
 |y::l,x::xs,h=>by
  obtain⟨r,a⟩:=zgl (l:=l) (xs:=xs) (by simpa using h)
  exact⟨r,by simp only[xO,a,bV]⟩
theorem zgS:∀{l xs:List Value} {i:Nat},i+xs.length≤l.length→∃r,yO i xs l=some (l.take i++xs++r)
 |l,xs,0,h=>by
  obtain⟨r,a⟩:=zgl (l:=l) (xs:=xs) Oz
  exact⟨r,by simp only[yO,a,List.take_zero,cI]⟩
 | [],xs,i+1,h=>by simp at h
 |y::l,xs,i+1,h=>by
  obtain⟨r,a⟩:=zgS (l:=l) (xs:=xs) (i:=i) (by simp only[aW]at h;omega)
  exact⟨r,by simp only[yO,a,List.take_succ_cons,bV]⟩
theorem zgM{w:Nat}:∀{Y:List (List Value)} {R:List Value},(∀x∈Y,x.length=w)→∀k,k<Y.length→y8 w (xw (k*w) (Y.flatten++R))=some (Y.getD k [])
 | [],R,_,k,hk=>by simp at hk
 |y::Y,R,h,0,hk=>by
  have a:=h y (aP ..)
  rw[eF,yU,List.drop_zero,y7,cU,bD,aF (by rw[aQ];omega)]
  rw[←a,List.take_append_of_le_length (aO _),aY]
  rfl
 |y::Y,R,h,k+1,hk=>by
  have a:=h y (aP ..)
  have b:=zgM (R:=R) (fun x hx=>h x (aN _ hx)) k (by simpa using hk)
  rw[yU]at b ⊢
  rw[cU,bD,show(k+1)*w=y.length+k*w by rw[a,dM,dQ,Nat.add_comm],List.drop_append,List.drop_eq_nil_of_le Oz,cI,eS]
  exact b
theorem Ja{w:Nat}:∀{Y:List (List Value)} {i:Nat},(∀x∈Y,x.length=w)→Y.flatten.take (i*w)=(Y.take i).flatten
 |Y,0,h=>by simp
 | [],i+1,h=>by simp
 |y::Y,i+1,h=>by
  have a:=h y (aP ..)
  rw[cU,List.take_succ_cons,cU,show(i+1)*w=y.length+i*w by rw[a,dM,dQ,Nat.add_comm],List.take_length_add_append,Ja fun x hx=>h x (aN _ hx)]
theorem zgb{ρ:Type}{C:Cx}{e:En}{d:Option Nat}{p:Pv}{k:En→Option ρ}{r:ρ}(h:e.set C d p k=some r):∃a,e.set C d p some=some a∧k a=some r:=by
 unfold En.set at h ⊢
 split at h
 ·exact⟨_,rfl,h⟩
 ·next d=>
  cases hf:find C.slots d with
  |some y=>rw[hf]at h;cases h
  |none=>rw[hf]at h;exact⟨_,rfl,h⟩
theorem apdP_some{ops:List Oper}{o:Oper}{r:List Drawn}{p:Apd}(h:apdP ops o r=some p):∃(ix2 anc2 ix3 anc3:Nat) (free2:List Nat) (r2:List Drawn) (c f:Oper) (ag:Array Operand) (ts:Array TypeId) (tr:List TypeId),
 r=⟨ix2,anc2,.fresh,free2⟩::⟨ix3,anc3,.whole,[]⟩::r2∧o.op=.slice p.t p.x none (some p.hi) none∧o.dst=some p.a∧zF ops ix2=some c∧zF ops ix3=some f∧c.op=.slice p.t p.x2 (some p.lo) none none∧c.dst=some p.b∧c.guard=none ∧
  f.op=.call ⟨.builtin .append,ag,ts⟩∧f.dst=p.d∧f.guard=none∧ag.toList=[.tmp p.a,.tmp p.b]∧ts.toList=p.t::p.t::tr∧p.a≠p.b:=by
 unfold apdP at h
 split at h
 ·next E G r2=>
  split at h
  ·next t x hi a A g=>
   split at h
   ·next c f y z=>
    split at h
    ·next t2 x2 lo b i l q v=>
     split at h
     ·next ag ts j u w n=>
      split at h
      ·next a' b' t' D tr k B=>
       split at h
       ·next hb=>
        cases h
        simp only[aG,bC]at hb
        obtain⟨⟨⟨⟨⟨h1,h2⟩,H⟩,J⟩,K⟩,M⟩:=hb
        have e1:=aJ h1
        have e2:=aJ h2
        have e4:=aJ J
        have e5:=aJ K
        have e6:=aJ M
        subst a' b' t' t2 D
        obtain⟨ix2,anc2,how2,free2⟩:=E
        obtain⟨ix3,anc3,how3,free3⟩:=G
        cases v;cases w;cases n
        exact⟨ix2,anc2,ix3,anc3,free2,r2,c,f,ag,ts,tr,rfl,A,g,y,z,i,l,q,j,rfl,u,k,B,Nat.ne_of_beq_eq_false H⟩
       ·cases h
      ·cases h
     ·cases h
    ·cases h
   ·cases h
  ·cases h
 ·cases h
section
variable{I:zU}{Γ:TypeId→Option Ty}{ρ:Type}{W:Wd}{s0 s:St}{C:Cx}{QL:Qs}{stk:List Fra}{e:En}{F:FF}{m:Nat}{Q:Qs}{O:List (Option MObj)}{L Φ:Hp'}
theorem apd_ok(G:GX QL W s0 s C stk e F m Q O L Φ){ops:List Oper}{o:Oper}{ix anc:Nat}{free:List Nat}(ho:zF ops ix=some o)(hw:yi ops F o=true){r:List Drawn}{p:Apd}(hp:apdP ops o r=some p){K:En→Option ρ}{res:ρ}(h:apdK Γ C e p K=some res)(hB:s0.next+m≤zw)
 {P:FF→St→Prop} (hk:∀e' N s',k8 QL W s0 s' C stk e' N m→K e'=some res→yZ Tryz.prog I ops (r.drop 2) N s' P):yZ Tryz.prog I ops (⟨ix,anc,.fresh,free⟩::r) F s P:=by
 obtain⟨ix2,anc2,ix3,anc3,free2,r2,o2,o3,ag,ts,tr,rfl,hop,hdst,ho2,ho3,hop2,hd2,hg2,S,hd3,hg3,hag,hts,hab⟩:=apdP_some hp
 simp only[fA,List.drop_zero]at hk
 unfold apdK at h
 split at h
 ·next el sz τ z j i V hx hhi=>
  split at h
  ·next t' w' τ' l Z E=>
   split at h
   ·next hb=>
    simp only[aG]at hb
    obtain rfl:=aJ hb.1
    obtain rfl:=aJ hb.2
    obtain⟨e1,hs1,h⟩:=zgb h
    split at h
    ·next j2 n hx2 hlo=>
     split at h
     ·next hj=>
      obtain rfl:=aJ hj
      obtain⟨e2,hs2,h⟩:=zgb h
      obtain⟨rr,J,h⟩:=zP h
      unfold cutZ at J
      split at J
      ·next hc=>
       cases J
       obtain⟨h0,h1,h2⟩:=hc
       obtain⟨i,rfl⟩:=Int.eq_ofNat_of_zero_le h0
       obtain⟨n,rfl⟩:=Int.eq_ofNat_of_zero_le (show 0≤n by omega)
       obtain⟨by_,zc,hs,hby,hsz0,_⟩:=Xu V
       obtain⟨hu,inf,z',hin,hsz,-,-,-,-⟩:=yY hs
       have E:=aR E
       rw[zJ]at Z
       have hjq:j<Q.length:=by rw[←G.len];exact(aM.mp Z).1
       obtain⟨q,hq⟩:∃q,Q[j]? = some q:=⟨_,aE hjq⟩
       obtain⟨ob,X⟩:∃o,O[j]? = some o:=⟨_,aE (by rw[G.oq];exact hjq)⟩
       obtain⟨a',cap,hv,_,hn,hsz2,Y,hY1,f,g,hY4⟩:=G.obj j _ q ob Z hq X
       have u:Y.flatten.length=l.length*w':=by rw[qU g,hY1]
       have hex:zd F p.x=.slice a' l.length cap:=by
        obtain⟨q',h1,h2,_⟩:=G.ev hx
        rw[hq]at h1;cases h1
        rw[(List.cons.inj h2).1,hv]
       have hehi:zd F p.hi=.int .i64 (i:Int):=(List.cons.inj (show [zd F p.hi]=_ from G.ev hhi)).1
       have hYp:∀k x,l[k]? = some x→Rep (W.x Φ) τ' (Y.getD k []) x:=hY4
       have T:Y.flatten.all Go.M.plainCell=true:=by
        rw[List.all_eq_true]
        intro v hv
        obtain⟨c,hc,hv⟩:=List.mem_flatten.mp hv
        obtain⟨i,hi,rfl⟩:=List.getElem_of_mem hc
        have hi':i<l.length:=by omega
        have:=(hY4 i l[i] (aE hi')).plain
        rw[aC,aE hi]at this
        exact(List.all_eq_true.mp this) v hv
       generalize hD:wl q.2 ob=D at f
       generalize hsl:(Value.slice a' l.length cap)=sl at f hex
       generalize hc:Y.flatten=c at f u T
       generalize hn':l.length=n' at f
       cases f with
       |nil=>omega
       |block b' cap2 _ _ hl2 hcap2=>
        cases hsl
        cases ob with
        |none=>cases hD
        |some ob=>
         cases hD
         have hmem:=G.own j q _ hq X E
         obtain⟨A,B,hL⟩:=dZ hmem
         have hH:=G.H
         rw[hL]at hH
         have hg:=hH.ownA
         simp only[List.all_eq_true]at T
         have hle:i≤l.length:=by omega
         obtain⟨off2,cap2,g1,g2,g3,s1⟩:=ko (s:={s with bar:=s.next}) (t:=p.t) (lo:=none) (hi:=some (.int .i64 (i:Int))) (len:=l.length) (cap:=cap) hu hin (b:=q.2) hg rfl vS (cJ _) Oz
         obtain rfl:=g3 rfl
         rw[Nat.sub_zero]at s1
         refine vk ho hw (zA (v:=.slice (some ⟨q.2,0,none⟩) i cap2) (s':={s with bar:=s.next}) (by rw[hop];simp only[zh,Option.map,hex,hehi];exact s1) ?_)
         rw[hdst]
         obtain⟨_,G1,U⟩:=G.set (v:=.slice (some ⟨q.2,0,none⟩) i cap2) (p:=.any) trivial hs1
         cases U
         have hex2:zd (upd F (some p.a) (.slice (some ⟨q.2,0,none⟩) i cap2)) p.x2=.slice (some ⟨q.2,0,none⟩) l.length cap:=by
          obtain⟨q',h1,h2,_⟩:=G1.ev hx2
          rw[hq]at h1;cases h1
          rw[(List.cons.inj h2).1,hv]
         have helo:zd (upd F (some p.a) (.slice (some ⟨q.2,0,none⟩) i cap2)) p.lo=.int .i64 (n:Int):=(List.cons.inj (show [zd _ p.lo]=_ from G1.ev hlo)).1
         obtain⟨off3,cap3,g4,g5,g6,s2⟩:=ko (s:={s with bar:=s.next}) (t:=p.t) (lo:=some (.int .i64 (n:Int))) (hi:=none) (len:=l.length) (cap:=cap) hu hin (b:=q.2) hg vS rfl Oz Oz
         have hw2:∀N,yi ops N o2=true:=fun N=>by unfold yi;rw[hg2]
         have hw3:∀N,yi ops N o3=true:=fun N=>by unfold yi;rw[hg3]
         refine vk ho2 (hw2 _) (zA (v:=.slice (some ⟨q.2,off3,none⟩) (l.length-n) cap3) (s':={s with bar:=s.next}) (by rw[hop2];simp only[zh,Option.map,hex2,helo];exact s2) ?_)
         rw[hd2]
         obtain⟨_,G2,U⟩:=G1.set (v:=.slice (some ⟨q.2,off3,none⟩) (l.length-n) cap3) (p:=.any) trivial hs2
         cases U
         generalize hF2:upd (upd F (some p.a) (.slice (some ⟨q.2,0,none⟩) i cap2)) (some p.b) (.slice (some ⟨q.2,off3,none⟩) (l.length-n) cap3)=F2 at G2 ⊢
         have ha2:F2 p.a=.slice (some ⟨q.2,0,none⟩) i cap2:=by rw[←hF2,vh,aD hab,vh,aF rfl]
         have hb2:F2 p.b=.slice (some ⟨q.2,off3,none⟩) (l.length-n) cap3:=by rw[←hF2,vh,aF rfl]
         have hnl:n≤l.length:=by omega
         have hmul:n*w'≤l.length*w':=bN _ hnl
         have hdl:(c.drop (n*w')).length=(l.length-n)*w':=by rw[bZ,u,Nat.sub_mul]
         have V:kS s w' (zd F2 (.tmp p.b)) (l.length-n) (c.drop (n*w')):=by
          show kS s w' (F2 p.b) _ _
          rw[hb2]
          rcases g5 with rfl|h
          ·rw[hsz]
           refine wX hg ?_ (by rw[u,←dM,Nat.add_sub_cancel' hnl];exact aO _)
           rw[dC (by rw[hdl];exact aO _)]
          ·rw[show l.length-n=0 by omega,List.drop_eq_nil_of_le (by rw[u,h];exact aO _)]
           exact⟨⟨_,_,rfl⟩,by simp only[xQ,hg,eF];rfl⟩
         obtain⟨R,hput⟩:=zgS (l:=c) (xs:=c.drop (n*w')) (i:=i*w') (by
          rw[hdl,u,←dM]
          exact bN _ Oz)
         obtain⟨d3,op3,ty3,pos3,af3,gd3⟩:=o3
         simp only at S hd3 hg3
         subst S hd3
         refine yr ho3 (hw3 _) (jf (A:=A) (L:=B) (len:=i) (m:=l.length-n) (cap:=cap2) (c:=c) (l:=c.drop (n*w')) hH hs hu hts hag ha2 V Oz ?_ hput hB (fun s3 H3=>?_))
         ·rw[List.all_eq_true]
          exact fun x hx=>T x (List.mem_of_mem_drop hx)
         have H3:=HL.same hH H3
         have G3:=G2.frzNew hq X E hL H3
         have hlen:(l.take i++l.drop n).length=i+(l.length-n):=by rw[aQ,bU,bZ];omega
         have d:(Y.take i++Y.drop n).length=i+(l.length-n):=by rw[aQ,bU,bZ];omega
         have hrep:Rep (W.x ((q.2,.cells (c.take (i*w')++c.drop (n*w')++R) t')::Φ)) (.sl t' w' τ') [.slice (some ⟨q.2,0,none⟩) (i+(l.length-n)) cap2] (l.take i++l.drop n):=by
          refine⟨_,cap2,Y.take i++Y.drop n,by rw[hlen],.inr (.block q.2 0 cap2 _ (by rw[hlen,d]) (aP ..) (by rw[d];omega) fun k hk=>?_),by rw[hlen,d],fun k x hx=>?_⟩
          ·rw[cA,←hc,Ja g,Xq n g,←List.flatten_append]
           exact zgM (fun x hx=>by
            rcases aU.mp hx with h|h
            ·exact g x (eI h)
            ·exact g x (List.mem_of_mem_drop h)) k hk
          ·have hk:=(aM.mp hx).1
           rw[hlen]at hk
           have y:∀{c x},Rep (W.x Φ) τ' c x→Rep (W.x ((q.2,.cells (Y.flatten.take (i*w')++Y.flatten.drop (n*w')++R) t')::Φ)) τ' c x:=fun h=>Rep.mono (vF fun p hp=>aN _ hp) h
           rw[←hc]
           rw[List.getElem?_append,bU,Nat.min_eq_left hle]at hx
           rw[aC,List.getElem?_append,bU,Nat.min_eq_left Oz]
           split at hx
           ·next w=>
            rw[aF w,List.getElem?_take,aF w]
            rw[List.getElem?_take,aF w]at hx
            have:=y (hYp k x hx)
            rw[aC]at this
            exact this
           ·next w=>
            rw[aD w,dX]
            rw[dX]at hx
            have:=y (hYp _ x hx)
            rw[aC]at this
            exact this
         obtain⟨e',G4,h4⟩:=G3.set (p:=.one (.sl t' w' τ' (l.take i++l.drop n))) (v:=.slice (some ⟨q.2,0,none⟩) (i+(l.length-n)) cap2) hrep h
         exact hk e' _ _ G4.good h4
      ·cases J
     ·cases h
    ·cases h
   ·cases h
  ·cases h
 ·cases h
end
section
variable{I:zU}{Γ:TypeId→Option Ty}{T:FuncId→Option Con}{ρ:Type}{inl:Inl ρ}{rc:Nat}{W:Wd}{s0:St}{C:Cx}{QL:Qs}{stk:List Fra}
theorem KY{o:Op}(hn:newOp o=true):qQ T rc o=1:=by cases o<;>first|rfl|(cases hn;done)
theorem cp_room{e:En}{o:Op}(a:cpOp C e o=true):qQ T rc o=1:=by
 unfold cpOp at a
 split at a
 ·next c=>
  obtain⟨callee,ag,ts⟩:=c
  simp only at a
  split at a
  ·rfl
  ·cases a
 ·cases a
theorem cp_ok{s:St}{e:En}{F:FF}{m:Nat}{Q:Qs}{O:List (Option MObj)}{L Φ:Hp'}(G:GX QL W s0 s C stk e F m Q O L Φ){d:Option Nat}{o:Op}{k:En→Option ρ}{r:ρ}(a:cpOp C e o=true)(h:v5 Γ T inl rc C e d o k=some r)(w:s0.next+(m+1)≤zw) :
 ∃v S1,zh Tryz.prog (zd F) o {next:=s.next,bar:=s.next,prot:=s.prot,heap:=s.heap}=.ok (.value v) S1∧∃f,k8 QL W s0 (reS s S1) C stk f (upd F d v) (m+1)∧k f=some r:=by
 unfold cpOp at a
 split at a
 ·next c=>
  obtain⟨callee,ag,ts⟩:=c
  simp only at a
  split at a
  ·next x y b=>
   split at a
   ·next j t' w' τ' xs hx q=>
    unfold v5 at h
    simp only[b]at h
    split at h
    ·next t t2 tr x' y' n he=>
     cases he
     rw[hx,q]at h
     split at h
     ·next el2 px py p i l=>
      cases i;cases l
      obtain⟨v,g⟩:=appD_ok G n b p hx q h w (by
       revert a
       split
       ·next hl=>exact fun _=>⟨_,_,_,hl⟩
       ·exact fun h=>nomatch h)
      obtain⟨S1,h1,f,u,h2⟩:=g s.next s.prot (aO _)
      exact⟨v,S1,h1,f,u,h2⟩
     ·cases h
    ·cases h
   ·cases a
  ·cases a
 ·cases a
set_option maxRecDepth 100000 in
theorem qv(Z:zH I)(hT:Qz I T)(f:∀W s0,Qi I W s0 inl rc){ops:List Oper}{k:En→Option ρ}{r:ρ}{P:FF→St→Prop}:∀{l:List Drawn} {s:St} {e:En} {F:FF} {m:Nat},k8 QL W s0 s C stk e F m→wG Γ T inl rc C ops l e k=some r→s0.next+(m+XQ T rc ops l)≤zw →
 (∀M N s' U,U≤m+XQ T rc ops l→k8 QL W s0 s' C stk M N U→k M=some r→P N s')→yZ Tryz.prog I ops l F s P
 | [],s,e,F,m,G,h,hB,hk=>yV (hk e F s m (Nat.le_add_right ..) G h)
 |⟨ix,anc,how,free⟩::l,s,e,F,m,⟨Q,O,L,Φ,G⟩,h,hB,hk=>by
  simp only[XQ]at hB hk
  unfold wG at h
  simp only at h
  split at h
  ·next o ho=>
   simp only[ho]at hB hk
   obtain⟨e1,G1,hh⟩:=zfP G h
   rcases hh with⟨hw,h⟩|⟨hw,h⟩
   ·have hm:=G.H.most
    have hnew:∀(h:v5 Γ T inl rc C e1 o.dst o.op (fun e=>wG Γ T inl rc C ops l e k)=some r),newOp o.op=true→∃ob v,(∀s1:St,s1.next=s.next→zh Tryz.prog (zd F) o.op s1=.ok (.value v) (s1.new ob))∧((v=.pointer (some ⟨s.next,0,none⟩)∧bsOp o.op=false)∨(bsOp o.op=true∧∃n c,v=.slice (some ⟨s.next,0,none⟩) n c))∧yZ Tryz.prog I ops l (upd F o.dst v) (s.new ob) P:=fun h hn=>by
     rw[KY hn]at hB hk
     obtain⟨ob,v,h1,h2,e2,G2,V⟩:=new_ok G1 hn Oz h
     exact⟨ob,v,h1,h2,qv Z hT f G2 V Oz fun M N s' U E G3 B=>hk M N s' U Oz G3 B⟩
    cases how with
    |light=>
     simp only at h
     refine za ho hw ?_
     cases S:zec o.op
     case true=>
      rw[S]at h
      simp only at h
      obtain⟨v,h1,e2,G2,V⟩:=QF G1 S h
      refine zA (h1 _ fun t x lo hi R a n c ha hlt=>?_) ⟨rfl,qv Z hT f G2 V Oz fun M N s' U E G3 B=>hk M N s' U Oz G3 B⟩
      have e1:yx F o=some a.block:=by unfold yx;rw[R];simp only[ha]
      rw[e1]
      exact YD (by have:=G1.H.most;omega)
     rw[S]at h
     simp only at h
     obtain⟨p,v,h1,h2,V⟩:=J0 (s':={next:=s.next,bar:=s.next,prot:=[],heap:=only s (yx F o)}) G1.see (fun t x R a ha hlt=>by
      have e1:yx F o=some a.block:=by unfold yx;rw[R];simp only[ha]
      rw[e1]
      exact YD Oz) h
     obtain⟨e2,G2,B⟩:=G1.set h2 V
     exact zA h1 ⟨rfl,qv Z hT f G2.good B Oz fun M N s' U E G3 X=>hk M N s' U Oz G3 X⟩
    |whole=>
     simp only at h
     rcases hfr:free with _|⟨f0,fr⟩
     ·rw[hfr]at h
      simp only at h
      refine yr ho hw (zeV (d:=o.dst) (o:=o.op) (ty:=o.type) (pos:=o.pos) (af:=o.after) (g:=o.guard) Z hT (f W s0) G1 h Oz fun M N s' U E G3 B=>?_)
      have hre:({next:=s'.next,bar:=s.bar,prot:=s.prot,heap:=s'.heap}:St)=s':=by
       obtain⟨_,_,_,_,G3⟩:=G3
       have h1:=G3.H.bar
       have h2:=G3.H.prot
       have V:=G1.H.bar
       have B:=G1.H.prot
       rw[V,B,←h1,←h2]
      rw[hre]
      exact qv Z hT f G3 B Oz fun u F'' A z K G4 X=>hk u F'' A z Oz G4 X
     rw[hfr]at h
     simp only at h
     rw[←hfr]at h ⊢
     split at h
     ·next hb=>
      simp only[aG,dA]at hb
      obtain⟨hfree,hb⟩:=hb
      obtain⟨h,hfi⟩:=YJ h
      have hlt:=zaw G1 hfree hfi
      refine yr ho hw ?_
      rcases hb with(((hn|S)|hc)|hst)|J
      ·obtain⟨ob,v,h1,_,V⟩:=hnew h hn
       exact zA (h1 _ rfl) V
      ·obtain⟨v,h1,e2,G2,V⟩:=QF G1 S h
       exact zA (h1 _ fun _ _ _ _ _ _ _ _ _ _=>rfl) (qv Z hT f G2 V Oz fun M N s' U E G3 B=>hk M N s' U Oz G3 B)
      ·have:=con_ok (o:=o.op) (d:=o.dst) (ty:=o.type) (pos:=o.pos) (af:=o.after) (gd:=o.guard) Z hT G1 (Fine.pr G.H.fine hlt) (aO _) (fun _ h=>bE _ h) hc h Oz
        (P:=fun F s=>yZ Tryz.prog I ops l F s P) fun M N s' U E G3 B=>qv Z hT f G3 B Oz fun u F'' A z K G4 X=>hk u F'' A z Oz G4 X
       exact this
      ·unfold stOK at hst
       split at hst
       ·next t x v R=>
        split at hst
        ·next j off hx=>
         rw[R]at h
         obtain⟨j',off',q,c,c2,tt,n,hx',hq,⟨oj,hoj⟩,hj,hsz,hxx,hlen,hp,hg,hm2,hcc,e2,G2,V⟩:=zbu G1 Oz h
         obtain rfl:=hx' _ _ hx
         have hne:=Vj G1 hq hoj hj hfree hfi hst
         have E:({s with prot:=yf ops F free++s.prot}:St).may q.2=true:=by
          simp only[St.may,aG,bC,cL,ne_eq,eU,not_exists,not_and]at hm2 ⊢
          refine⟨hm2.1,fun p hp2 he=>?_⟩
          rcases aU.mp hp2 with h|h
          ·exact hne p h (aJ he).symm
          ·exact hm2.2 p h he
         have hstep:zh Tryz.prog (zd F) o.op {s with prot:=yf ops F free++s.prot}=.ok .skip (({s with prot:=yf ops F free++s.prot}:St).put q.2 (some (.cells c2 tt))):=by
          rw[R];exact kg hsz hxx rfl hlen hp hg E hcc
         exact wT hstep (qv Z hT f G2 V Oz fun u F'' A z K G4 X=>hk u F'' A z Oz G4 X)
        ·cases hst
       ·cases hst
      ·have hO:=zeV (d:=o.dst) (o:=o.op) (ty:=o.type) (pos:=o.pos) (af:=o.after) (g:=o.guard) Z hT (f W s0) G1 h Oz (P:=fun F s=>yZ Tryz.prog I ops l F s P) fun M N s' U E G3 B=>qv Z hT f G3 B Oz fun u F'' A z K G4 X=>hk u F'' A z Oz G4 X
       obtain⟨dst,op,ty,pos,af,gd⟩:=o
       cases op with
       |call c=>
        obtain⟨callee,ag,ts⟩:=c
        unfold apOK at J
        simp only at J
        generalize hargs:ag.toList=al at J
        split at J
        ·next x y _=>
         refine opw_prot (ag:=ag) (ts:=ts) hO fun a n c x' hmap=>?_
         rw[hargs]at hmap
         simp only[qB,List.cons.injEq,fB]at hmap
         split at J
         ·next j hx=>
          split at J
          ·next t w τ l' hoj=>
           simp only[aG]at J
           have hj:=aR J.2
           rw[zJ]at hoj
           have hjq:j<Q.length:=by have:=(aM.mp hoj).1;rw[G1.len]at this;exact this
           have hq:=aE hjq
           have hoo:=aE (l:=O) (i:=j) (by rw[G1.oq];exact hjq)
           obtain⟨a',cap,hv',_,_,_,Y,_,hown,_⟩:=G1.obj j _ _ _ hoj hq hoo
           obtain⟨q',hq',hvv,_⟩:=G1.ev hx
           rw[hq]at hq';cases hq'
           have hvv:=(List.cons.inj hvv).1
           rw[hvv,hv']at hmap
           generalize hD:wl _ _=D at hown
           have ha:=hmap.1
           simp only[Value.slice.injEq]at ha
           obtain⟨ha,_⟩:=ha
           subst ha
           generalize S:(Value.slice (some a) l'.length cap)=sl at hown
           generalize Y.flatten=c2 at hown
           generalize l'.length=n2 at hown S
           cases hown with
           |nil=>cases S
           |block b cap' _ _ hl hcap=>
            cases S
            cases hO1:O[j]'(by rw[G1.oq];exact hjq)with
            |none=>rw[hO1]at hD;cases hD
            |some o1=>
             rw[hO1]at hD hoo
             cases hD
             intro hin'
             exact Vj G1 hq hoo hj hfree hfi J.1 _ hin' rfl
          ·cases J
         ·next hx=>
          have:=(List.cons.inj (show [zd F _]=_ from G1.ev hx)).1
          rw[this]at hmap
          cases hmap.1
         ·cases J
        ·cases J
       |_=>cases J
     ·split at h
      ·next hb=>
       simp only[aG]at hb
       obtain⟨h,hfi⟩:=YJ h
       have hlt:=zaw G1 hb.1 hfi
       refine yr ho hw ?_
       have:=zgF (o:=o.op) (d:=o.dst) (ty:=o.type) (pos:=o.pos) (af:=o.after) (gd:=o.guard) f G1 (Fine.pr G.H.fine hlt) (aO _) (fun _ h=>bE _ h) h Oz
        (P:=fun F s=>yZ Tryz.prog I ops l F s P) fun M N s' U E G3 B=>qv Z hT f G3 B Oz fun u F'' A z K G4 X=>hk u F'' A z Oz G4 X
       exact this
      ·cases h
    |fresh=>
     simp only at h
     split at h
     ·next p hp=>
      split at h
      ·next d2 d3 r2 _=>
       have hrd:XQ T rc ops r2≤XQ T rc ops (d2::d3::r2):=by simp only[XQ];omega
       exact apd_ok G1 ho hw hp h Oz fun M N s' G3 B=>qv Z hT f (l:=r2) G3 B Oz fun u F'' A z K G4 X=>hk u F'' A z Oz G4 X
      ·cases h
     ·split at h
      ·next hb=>
       simp only[dA]at hb
       refine vk ho hw ?_
       rcases hb with((hn|S)|hc)|hcp
       ·obtain⟨ob,v,h1,_,V⟩:=hnew h hn
        exact zA (h1 _ rfl) V
       ·obtain⟨v,h1,e2,G2,V⟩:=QF G1 S h
        exact zA (h1 _ fun _ _ _ _ _ _ _ _ _ _=>rfl) (qv Z hT f G2 V Oz fun M N s' U E G3 B=>hk M N s' U Oz G3 B)
       rotate_left
       ·rw[cp_room hcp]at hB hk
        obtain⟨v,S1,h1,M,G2,h2⟩:=cp_ok G1 hcp h Oz
        exact zA h1 (qv Z hT f G2 h2 Oz fun u F'' A z K G4 X=>hk u F'' A z Oz G4 X)
       ·have:=con_ok (o:=o.op) (d:=o.dst) (ty:=o.type) (pos:=o.pos) (af:=o.after) (gd:=o.guard) Z hT G1 (Fine.fresh G.H.fine) G.H.fine.wfb (fun _ h=>h) hc h Oz
         (P:=fun F s=>yZ Tryz.prog I ops l F s P) fun M N s' U E G3 B=>qv Z hT f G3 B Oz fun u F'' A z K G4 X=>hk u F'' A z Oz G4 X
        exact this
      ·split at h
       ·refine vk ho hw ?_
        have:=zgF (o:=o.op) (d:=o.dst) (ty:=o.type) (pos:=o.pos) (af:=o.after) (gd:=o.guard) f G1 (Fine.fresh G.H.fine) G.H.fine.wfb (fun _ h=>h) h Oz
         (P:=fun F s=>yZ Tryz.prog I ops l F s P) fun M N s' U E G3 B=>qv Z hT f G3 B Oz fun u F'' A z K G4 X=>hk u F'' A z Oz G4 X
        exact this
       ·split at h
        ·refine vk ho hw ?_
         obtain⟨p,v,h1,h2,V⟩:=J0 (s':={s with bar:=s.next}) G1.see (fun t x R a ha hlt=>rfl) h
         obtain⟨e2,G2,B⟩:=G1.set h2 V
         exact zA h1 (qv Z hT f G2.good B Oz fun M N s' U E G3 X=>hk M N s' U Oz G3 X)
        ·cases h
    |new=>
     simp only at h
     split at h
     ·next hb=>
      simp only[aG,dA]at hb
      have hn:newOp o.op=true:=by
       rcases hb.1 with h|h<;>(revert h;cases o.op<;>intro h<;>first|rfl|(cases h;done))
      obtain⟨ob,v,h1,h2,V⟩:=hnew h hn
      refine draw_newK ho hw (G.H.room (by rw[KY hn]at hB;omega)) (h1 _ rfl) ?_ V
      obtain⟨t,hd⟩:=Option.isSome_iff_exists.mp hb.2
      rcases h2 with⟨rfl,h2⟩|⟨h2,n,c,rfl⟩
      ·rcases hb.1 with hbs|hal
       ·rw[h2]at hbs;cases hbs
       ·unfold alOp at hal
        split at hal
        ·next R=>
         unfold yx
         rw[R]
         simp only[hd,vh,aF]
        ·cases hal
      ·unfold bsOp at h2
       split at h2
       ·next R=>
        unfold yx
        rw[R]
        simp only[hd,vh,aF]
       ·cases h2
     ·cases h
   ·refine kE ho hw ?_
    obtain⟨e2,G2,h2⟩:=G1.set (p:=.undef) (v:=undef) rfl h
    exact qv Z hT f G2.good h2 Oz fun M N s' U E G3 B=>hk M N s' U Oz G3 B
  ·cases h
end
inductive Rt:Lf→Lf→Prop
 |int (k:IntKind) (x:Int):Rt (.int k x) (.int k x)
 |bool (b:Bool):Rt (.bool b) (.bool b)
 |rat (q:Rat):Rt (.rat q) (.rat q)
 |sl (t w:Nat) (e:Ty) (l:List e.T):Rt (.sl t w e l) (.sl t w e l)
 |nil (t w:Nat) (e:Ty):Rt .nil (.sl t w e [])
inductive RtL:List Lf→List Lf→Prop
 |nil:RtL [] []
 |cons {x y:Lf} {l l':List Lf}:Rt x y→RtL l l'→RtL (x::l) (y::l')
theorem RtL.split{a:List Lf}:∀{c d:List Lf},RtL (a++c) d→∃x y,d=x++y∧RtL a x∧RtL c y:=by
 induction a with
 |nil=>intro c d h;exact⟨[],d,rfl,.nil,h⟩
 |cons x a f=>
  intro c d h
  cases h with
  |cons h1 h2=>obtain⟨p,q,rfl,b,e⟩:=f h2;exact⟨_::p,q,rfl,.cons h1 b,e⟩
theorem Rt.ok{W:Wd}{D:Hp'}{Q Q':Qs}{x y:Lf}(h:Rt x y){c:List Value}(hx:LfR (W.x D) Q x c):LfR (W.x D) Q' y c:=by
 cases h with
 |nil t w e=>rw[show c=_ from hx];exact nil_sl
 |_=>exact hx
theorem zbN(τ:Ty):∀{l r:List Lf} {x:τ.T},qh τ l=some (x,r)→r.length<l.length:=by
 induction τ with
 |one a c=>intro l r x h;simp only[qh]at h;exact c h
 |pair a b iha ihb=>
  intro l r x h
  simp only[qh]at h
  split at h
  ·next y r1 d=>
   split at h
   ·next z r2 e=>cases h;have:=iha d;have:=ihb e;omega
   ·cases h
  ·cases h
 |sl t w τ c=>
  intro l r x h
  cases l with
  |nil=>simp only[qh]at h;cases h
  |cons y l=>
   cases y<;>simp only[qh]at h<;>first|(cases h;done)|(cases h;simp)|(split at h<;>first|(cases h;done)|(cases h;simp))
 |int k=>
  intro l r x h
  cases l with
  |nil=>simp only[qh]at h;cases h
  |cons y l=>
   cases y<;>simp only[qh]at h<;>first|(cases h;done)|(cases h;simp)|(split at h<;>first|(cases h;done)|(cases h;simp))
 |_=>
  intro l r x h
  cases l with
  |nil=>simp only[qh]at h;cases h
  |cons y l=>cases y<;>simp only[qh]at h<;>first|(cases h;done)|(cases h;simp)
theorem flat1(τ:Ty):∀{y:Lf} {x:τ.T},qh τ [y]=some (x,[])→∃f,Zp τ x=[f]∧Rt y f:=by
 induction τ with
 |one a e=>intro y x h;simp only[qh]at h;exact e h
 |pair a b iha ihb=>
  intro y x h
  simp only[qh]at h
  split at h
  ·next z r1 g=>
   have:=zbN _ g
   obtain rfl:r1=[]:=by cases r1 with|nil=>rfl|cons=>simp at this
   split at h
   ·next z' r2 d=>have:=zbN _ d;simp at this
   ·cases h
  ·cases h
 |sl t w τ e=>
  intro y x h
  cases y with
  |sl t' w' τ' l=>
   simp only[qh]at h
   split at h
   ·next c=>
    obtain⟨rfl,rfl,rfl⟩:=c
    cases h
    exact⟨_,rfl,.sl ..⟩
   ·cases h
  |nil=>simp only[qh]at h;cases h;exact⟨_,rfl,.nil ..⟩
  |_=>simp only[qh]at h;cases h
 |int k=>
  intro y x h
  cases y with
  |int k' x'=>
   simp only[qh]at h
   split at h
   ·next c=>subst c;cases h;exact⟨_,rfl,.int ..⟩
   ·cases h
  |_=>simp only[qh]at h;cases h
 |bool=>intro y x h;cases y<;>simp only[qh]at h<;>first|(cases h;done)|(cases h;exact⟨_,rfl,.bool ..⟩)
 |rat=>intro y x h;cases y<;>simp only[qh]at h<;>first|(cases h;done)|(cases h;exact⟨_,rfl,.rat ..⟩)
 |_=>intro y x h;cases y<;>simp only[qh]at h<;>cases h
theorem zbO{τ:Ty}{y:Lf}{x:τ.T}(h:ve τ [y]=some x):∃a,Zp τ x=[a]∧Rt y a:=by
 unfold ve at h
 split at h
 ·next z b=>cases h;exact flat1 τ b
 ·cases h
theorem rdL_ok:∀{ts:List Ty} {l:List Lf} {x:Tp ts},rdL ts l=some x→RtL l (mkL ts x)
 | [],[],x,h=>.nil
 | [a],[y],x,h=>by
  obtain⟨d,e,h⟩:=zbO (show ve a [y]=some x from h)
  simp only[mkL]
  rw[e];exact .cons h .nil
 |a::b::ts,y::l,x,h=>by
  simp only[rdL]at h
  split at h
  ·next v w hv c=>
   cases h
   obtain⟨d,e,h⟩:=zbO hv
   simp only[mkL]
   rw[e];exact .cons h (rdL_ok c)
  ·cases h
section
variable{W:Wd}{Φ:Hp'}{Q Q':Qs}{n0:Nat}{srcs:List (Option Nat)}
def SrcR(Q Q':Qs)(n0:Nat)(srcs:List (Option Nat)):Prop:=∀(k:Nat) j,srcs[k]? = some j→∃q,Q'[n0+k]? = some q∧(∃a n c,q.1=.slice a n c)∧match j with
 |some j=>∃b,Q[j]? = some b∧q.1=b.1
 |none=>q.1=.slice none 0 0
theorem ls_ok(g:∀(i:Nat) q,i<n0→Q[i]? = some q→Q'[i]? = some q)(e:SrcR Q Q' n0 srcs){x:LS}{y:Lf}{a a' rest:List Lf}{c:List Value}(b:LfR (W.x Φ) Q y c)(h:lsK n0 srcs x y=some a)(ha:RtL a a') :
 (Xs n0 x (a'++rest)).2=rest∧LfR (W.x Φ) Q' (Xs n0 x (a'++rest)).1 c:=by
 unfold lsK at h
 split at h
 ·next l=>
  cases h
  cases ha with
  |cons h1 h2=>cases h2;exact⟨rfl,h1.ok b⟩
 ·next k j=>
  split at h
  ·next i hi=>
   split at h
   ·next hb=>
    cases h;cases ha
    obtain rfl:=aJ hb
    rw[zJ]at hi
    obtain⟨q,h1,h2,q',d,f⟩:=e k _ hi
    obtain⟨q'',g1,g2,g3⟩:=b
    rw[d]at g1;cases g1
    exact⟨rfl,q,h1,by rw[f];exact g2,h2⟩
   ·cases h
  ·cases h
 ·next k=>
  split at h
  ·next hi=>
   cases h;cases ha
   rw[zJ]at hi
   obtain⟨q,h1,h2,d⟩:=e k _ hi
   exact⟨rfl,q,h1,by rw[d];exact b,h2⟩
  ·cases h
 ·next j off j' off'=>
  split at h
  ·next hb=>
   cases h;cases ha
   simp only[aG]at hb
   obtain rfl:=aJ hb.1.1
   obtain rfl:=aJ hb.1.2
   obtain⟨q,g1,g2⟩:=b
   exact⟨rfl,q,g _ _ (by simpa using hb.2) g1,g2⟩
  ·cases h
 ·cases h;cases ha;exact⟨rfl,b⟩
 ·cases h
theorem zaj(f:∀(i:Nat) q,i<n0→Q[i]? = some q→Q'[i]? = some q)(g:SrcR Q Q' n0 srcs):∀{d:List LS} {l a a' rest:List Lf} {c:List Value},LsR (W.x Φ) Q l c→ZN n0 srcs d l=some a→RtL a a' →
 (kV n0 d (a'++rest)).2=rest∧LsR (W.x Φ) Q' (kV n0 d (a'++rest)).1 c
 | [],[],a,a',rest,c,hl,h,ha=>by cases h;cases ha;exact⟨rfl,hl⟩
 | [],_::_,a,a',rest,c,hl,h,ha=>by simp only[ZN]at h;cases h
 |_::_,[],a,a',rest,c,hl,h,ha=>by simp only[ZN]at h;cases h
 |x::d,y::l,a,a',rest,c,⟨c1,j,e,n,hl⟩,h,ha=>by
  simp only[ZN]at h
  split at h
  ·next b b2 hb hb2=>
   cases h
   obtain⟨p,q,rfl,h1,h2⟩:=ha.split
   rw[bD]
   obtain⟨g1,g2⟩:=ls_ok (rest:=q++rest) f g n hb h1
   obtain⟨k,m⟩:=zaj (rest:=rest) f g hl hb2 h2
   simp only[kV]
   rw[g1]
   exact⟨k,c1,j,e,g2,m⟩
  ·cases h
theorem zfR{C:Cx}{e:En}{F:FF}(m:∀(i:Nat) q,i<n0→Q[i]? = some q→Q'[i]? = some q)(n:SrcR Q Q' n0 srcs)(d:∀t p,e.get C t=some p→PvR (W.x Φ) Q p (F t)):∀{vs:List (Nat×Bool×List LS)} {a a' rest:List Lf},zfS n0 C e srcs vs=some a→RtL a a' →
 (Vp n0 vs (a'++rest)).2=rest∧SvF (W.x Φ) Q' (Vp n0 vs (a'++rest)).1 F
 | [],a,a',rest,h,ha=>by cases h;cases ha;exact⟨rfl,fun _ h=>nomatch h⟩
 |(t,g,f)::vs,a,a',rest,h,ha=>by
  simp only[zfS]at h
  split at h
  ·next p hp=>
   split at h
   ·next o l k=>
    split at h
    ·next b b2 hg hb hb2=>
     cases h
     obtain⟨p1,p2,rfl,h1,h2⟩:=ha.split
     rw[bD]
     have j:=zdW (d t p hp) k
     simp only[beq_iff_eq]at hg
     subst hg
     obtain⟨r,s⟩:(kV n0 f (p1++(p2++rest))).2=p2++rest∧QR (W.x Φ) Q' (o,(kV n0 f (p1++(p2++rest))).1) (F t):=by
      cases o with
      |true=>
       obtain⟨c,e1,hl⟩:=j
       obtain⟨g1,g2⟩:=zaj (rest:=p2++rest) m n hl hb h1
       exact⟨g1,c,e1,g2⟩
      |false=>
       obtain⟨y,e1,hl⟩:=j
       simp only at e1;subst e1
       obtain⟨g1,g2⟩:=zaj (rest:=p2++rest) m n (LsR.one hl) hb h1
       refine⟨g1,?_⟩
       cases f with
       |nil=>simp only[ZN]at hb;cases hb
       |cons x f=>
        cases f with
        |nil=>exact⟨_,rfl,LsR.one' g2⟩
        |cons x2 f=>
         simp only[ZN]at hb
         split at hb
         ·next h9=>cases h9
         ·cases hb
     obtain⟨u,v⟩:=zfR (rest:=rest) m n d hb2 h2
     simp only[Vp]
     rw[r]
     refine⟨u,fun q k=>?_⟩
     rcases aL.mp k with rfl|k
     ·exact pvQ_ok s
     ·exact v q k
    ·cases h
   ·cases h
  ·cases h
theorem zeO{x:LS}{y:Lf}{a a' rest:List Lf}(h:lsK n0 srcs x y=some a)(ha:RtL a a'):(Xs n0 x (a'++rest)).2=rest:=by
 unfold lsK at h
 split at h
 ·cases h;cases ha with|cons h1 h2=>cases h2;rfl
 ·split at h
  ·split at h
   ·cases h;cases ha;rfl
   ·cases h
  ·cases h
 ·split at h
  ·cases h;cases ha;rfl
  ·cases h
 ·split at h
  ·cases h;cases ha;rfl
  ·cases h
 ·cases h;cases ha;rfl
 ·cases h
theorem Vq:∀{c:List LS} {l a a' rest:List Lf},ZN n0 srcs c l=some a→RtL a a'→(kV n0 c (a'++rest)).2=rest
 | [],[],a,a',rest,h,ha=>by cases h;cases ha;rfl
 | [],_::_,a,a',rest,h,ha=>by simp only[ZN]at h;cases h
 |_::_,[],a,a',rest,h,ha=>by simp only[ZN]at h;cases h
 |x::c,y::l,a,a',rest,h,ha=>by
  simp only[ZN]at h
  split at h
  ·next b b2 hb hb2=>
   cases h
   obtain⟨p,q,rfl,h1,h2⟩:=ha.split
   rw[bD]
   simp only[kV]
   rw[zeO hb h1]
   exact Vq hb2 h2
  ·cases h
theorem objK1_ok(g:∀(i:Nat) q,i<n0→Q[i]? = some q→Q'[i]? = some q)(j:SrcR Q Q' n0 srcs){b:List LS}{o:Ob}{a a' rest:List Lf}(h:objK1 n0 srcs b o=some a)(ha:RtL a a') :
 (um n0 b (a'++rest)).2=rest∧(um n0 b (a'++rest)).1≠.const∧(um n0 b (a'++rest)).1≠.dead∧∀q d,ObjR (W.x Φ) Q o q d→ObjR (W.x Φ) Q' (um n0 b (a'++rest)).1 q d:=by
 unfold objK1 at h
 split at h
 ·next l=>
  have f:b≠[.lst]:=fun e=>by
   subst e
   cases l with
   |nil=>simp only[ZN]at h;cases h
   |cons y l=>simp only[ZN,lsK]at h;cases h
  have hf:um n0 b (a'++rest)=(.cells (kV n0 b (a'++rest)).1,(kV n0 b (a'++rest)).2):=by
   unfold um
   split
   ·exact(f rfl).elim
   ·rfl
  rw[hf]
  exact⟨Vq h ha,(fun h=>nomatch h),(fun h=>nomatch h),fun q d ⟨c,t,e1,hc⟩=>⟨c,t,e1,(zaj (rest:=rest) g j hc h ha).2⟩⟩
 ·next t w τ l=>
  split at h
  ·cases h
   cases ha with
   |cons h1 h2=>
    cases h1;cases h2
    exact⟨rfl,(fun h=>nomatch h),(fun h=>nomatch h),fun q d h=>h⟩
  ·cases h
 ·cases h
theorem zgo{e:En}{O:List (Option MObj)}(n:∀(i:Nat) q,i<n0→Q[i]? = some q→Q'[i]? = some q)(p:SrcR Q Q' n0 srcs)(c:∀(i:Nat) b q o,e.objs[i]? = some b→Q[i]? = some q→O[i]? = some o→ObjR (W.x Φ) Q b q o) :
 ∀{vs:List (Nat×List LS)} {sk:List Ob} {a a' rest:List Lf},zgp n0 e srcs vs=some a→RtL a a' →
 (X5 n0 vs sk (a'++rest)).2=rest∧(X5 n0 vs sk (a'++rest)).1.length=sk.length∧∀(i:Nat) b,(X5 n0 vs sk (a'++rest)).1[i]? = some b→sk[i]? = some b∨(zcw i vs=true∧b≠.const∧b≠.dead∧∀q o,Q[i]? = some q→O[i]? = some o→ObjR (W.x Φ) Q' b q o)
 | [],sk,a,a',rest,h,ha=>by cases h;cases ha;exact⟨rfl,rfl,fun i b hb=>.inl hb⟩
 |(j,r)::vs,sk,a,a',rest,h,ha=>by
  simp only[zgp]at h
  split at h
  ·next ob hl=>
   split at h
   ·next b b2 hb hb2=>
    cases h
    rw[zJ]at hl
    obtain⟨p1,p2,rfl,h1,h2⟩:=ha.split
    rw[bD]
    obtain⟨f,k,l,m⟩:=objK1_ok (W:=W) (Φ:=Φ) (rest:=p2++rest) n p hb h1
    simp only[X5]
    rw[f]
    obtain⟨g1,g2,s⟩:=zgo (sk:=zE sk j (um n0 r (p1++(p2++rest))).1) (rest:=rest) n p c hb2 h2
    refine⟨g1,by rw[g2,yE],fun i b g=>?_⟩
    have d:zcw i vs=true→zcw i ((j,r)::vs)=true:=fun hk=>by
     simp only[zcw,find]at hk ⊢
     cases Nat.beq j i with
     |true=>rfl
     |false=>exact hk
    rcases s i b g with h|⟨h,t⟩
    ·rw[xY]at h
     split at h
     ·next u=>
      cases h
      obtain⟨rfl,_⟩:=u
      exact .inr ⟨by simp[zcw,find],k,l,fun q o v ho=>m q o (c i ob q o hl v ho)⟩
     ·exact .inl h
    ·exact .inr ⟨d h,t⟩
   ·cases h
  ·cases h
end
end Go.Proofs.YtocnbjjmmgolfaaGreat
