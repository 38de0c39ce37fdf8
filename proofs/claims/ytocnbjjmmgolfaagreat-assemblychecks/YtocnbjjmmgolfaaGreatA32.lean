/- The evaluator: regions whose order is drawn. -/
/- The evaluator: two parts of a list, one put behind the other. -/
/- The evaluator: regions whose order is drawn, joined. -/
import Derived.Test.YtocnbjjmmgolfaaGreatA31
namespace Go.Proofs.YtocnbjjmmgolfaaGreat
open Go Go.M Go.Proofs.C14
section
variable{I:zT}{Γ:TypeId→Option Ty}{T:FuncId→Option Con}{ρ:Type}{inl:Inl ρ}{rc:Nat}{W:Wd}{s0 s:St}{C:Cx}{QL:Qs}{stk:List Fra}{e:En}{F:FF}{m:Nat}{Q:Qs}{O:List (Option MObj)}{L Φ:Hp'}
theorem con_ok(hI:zQ I)(hT:ConI I T)(G:GX QL W s0 s C stk e F m Q O L Φ){bar:Nat}{prot:List Nat}(hf1:Fine {next:=s.next,bar:=bar,prot:=prot,heap:=s.heap})(hb1:s.bar≤bar)(hp1:∀p,p∈s.prot→p∈prot)
  {d:Option Nat} {o:Op} {k:En→Option ρ} {r:ρ} {P:FF→St→Prop} {ty:TypeId} {pos:String} {af:Array Edge} {gd:Option (Nat×Bool)} (hc:conOp T o=true)
  (h:effK Γ T inl rc C e d o k=some r) (hB:s0.next+(m+xk T rc o)≤z3) (hk:∀e' F' s' m',m'≤m+xk T rc o→qb QL W s0 s' C stk e' F' m'→k e'=some r→P F' s') :
  OpW Tryz.prog I ⟨d,o,ty,pos,af,gd⟩ F {next:=s.next,bar:=bar,prot:=prot,heap:=s.heap} (fun F' s'=>P F' (reS s s')):=by
 unfold conOp at hc
 split at hc
 ·next c=>
  split at hc
  ·next g hg=>
   obtain⟨callee,ag,ts⟩:=c
   simp only at hg
   subst hg
   unfold effK at h
   simp only[En.ev]at h
   split at h
   ·next hb=>
    simp only[Bool.and_eq_true,Bool.not_eq_true']at hb
    cases hcon:T g with
    |none=>rw[hcon]at hc;cases hc
    |some con=>
     unfold callK at h
     split at h
     ·next ps hps=>
      rw[hcon]at h
      simp only at h
      split at h
      ·next e1 hf hst=>
       simp only[Bool.and_eq_true,Bool.or_eq_true]at hst
       obtain⟨O1,Φ1,G1⟩:=G.frzP hf
       split at h
       ·next ps1 hps1=>
        split at h
        ·next x hx=>
         obtain⟨y,hy,h⟩:=zA h
         have hm:=G.H.most
         have hroom:xk T rc (.call ⟨.value (.func g),ag,ts⟩)=con.room:=by simp only[xk,hcon]
         rw[hroom]at hB hk
         obtain⟨v,s',hr,D,H',hv⟩:=hT g con hcon hf1 (G1.see.kn.heap rfl (Nat.le_refl _)) (rdP_ok (G1.evs hps1) hx) hy (by show s.next+con.room≤z3;omega)
         split at h
         ·obtain⟨p,hp,h⟩:=yc h
          obtain⟨e',G3,h3⟩:=(G.call (HL.wider G.H.fine hb1 hp1 H')).set (mask_ok hv hp) h
          refine op_call (args:=⟨yw (ze F) ag.toList++[]⟩) (f:=.func g) (a:= #[]) (b:= #[]) rfl hb.1 rfl ⟨v,s',?_,hk e' _ _ _ Oz G3.good h3⟩ hb.2
          rw[List.append_nil];exact hr
         ·have G2:=G1.call (HL.wider G.H.fine hb1 hp1 H')
          have hp:=toP_ok (Q:=Q) (RepV.mono (wx_in (List.subset_append_right _ _) (List.subset_append_left _ _)) hv) hst.2
          obtain⟨e',G3,h3⟩:=G2.set hp h
          refine op_call (args:=⟨yw (ze F) ag.toList++[]⟩) (f:=.func g) (a:= #[]) (b:= #[]) rfl hb.1 rfl ⟨v,s',?_,hk e' _ _ _ Oz G3.good h3⟩ hb.2
          rw[List.append_nil];exact hr
        ·cases h
       ·cases h
      ·cases h
     ·cases h
   ·cases h
  ·cases hc
 ·cases hc
theorem allC_len:∀{l:List Ob},(allC l).length=l.length
 | []=>rfl
 |o::l=>by cases o<;>simp only[allC,List.length_cons,allC_len]
theorem allC_get:∀{l:List Ob} {i:Nat} {b:Ob},(allC l)[i]? = some b→b=.dead∨b=.const
 |o::l,0,b,h=>by cases o<;>cases h<;>first|exact .inl rfl|exact .inr rfl
 |o::l,i+1,b,h=>by
  have:(allC l)[i]? = some b:=by cases o<;>exact h
  exact allC_get this
theorem dropO_eq:∀{n:Nat} {l:List Ob},dropO n l=l.drop n
 |0,l=>rfl
 |n+1,[]=>rfl
 |n+1,_::l=>by simp only[dropO,List.drop_succ_cons,dropO_eq]
theorem noC_get:∀{l:List Ob} {i:Nat},noC l=true→l[i]? ≠ some .const
 | [],i,h,h'=>by cases h'
 |o::l,0,h,h'=>by cases h';simp[noC,xK]at h
 |o::l,i+1,h,h'=>by
  simp only[noC,Bool.and_eq_true]at h
  exact noC_get (l:=l) (i:=i) h.2 h'
theorem GX.lend(G:GX QL W s0 s C stk e F m Q O L Φ){bar:Nat}{prot:List Nat}(hf1:Fine {next:=s.next,bar:=bar,prot:=prot,heap:=s.heap})(F':FF) :
  GX Q (W.x Φ) {next:=s.next,bar:=bar,prot:=prot,heap:=s.heap} {next:=s.next,bar:=bar,prot:=prot,heap:=s.heap} ⟨[],cobK e.objs C.objs,e.objs.length,e.objs.length⟩ [] ⟨[],allC e.objs⟩ F' 0 Q O [] [] where
 K:=G.see.kn.heap rfl (Nat.le_refl _)
 H:=hf1.hl
 oq:=G.oq
 len:=by simp only[allC_len];exact G.len
 cn:=by simp only[G.len];exact Nat.le_refl _
 ln:=Nat.le_refl _
 pre:=fun i _=>rfl
 fro:=List.nil_subset _
 own:=fun i q o h1 h2 hi=>by
  have:=(List.getElem?_eq_some_iff.mp h1).1
  simp only[G.len]at hi
  omega
 lent:=fun i q o h1 h2 hi=>⟨G.get h1 h2,G.lt h1 h2⟩
 inj:=G.inj
 dis:=fun i q o p hi h1 h2 hp=>by cases hp
 obj:=fun i b q o h0 h1 h2=>by rcases allC_get h0 with rfl|rfl<;>trivial
 cob:=fun i b q o h0 h0' h1 h2=>by
  simp only[G.len,List.take_length]
  rcases cobK_get h0' with⟨h3,h4⟩|h3
  ·exact(G.cob i b q o h3 h4 h1 h2).mono wx_old QLe.take
  ·exact(G.obj i b q o h3 h1 h2).mono wx_old QLe.rfl
 slots:=fun _ h=>nomatch h
 cslots:=fun _ h=>nomatch h
 stk:=fun _ h=>nomatch h
theorem GX.joinL(G:GX QL W s0 s C stk e F m Q O L Φ){bar:Nat}{prot:List Nat}{s':St}{co o:List Ob}{F':FF}{m':Nat}{Q':Qs}{O':List (Option MObj)}{L' Φ':Hp'}(hb1:s.bar≤bar)(hp1:∀p,p∈s.prot→p∈prot)
  (G':GX Q (W.x Φ) {next:=s.next,bar:=bar,prot:=prot,heap:=s.heap} s' ⟨[],co,e.objs.length,e.objs.length⟩ [] ⟨[],o⟩ F' m' Q' O' L' Φ') (hn:noC (dropO e.objs.length o)=true) :
  GX QL W s0 (reS s s') C stk {e with objs:=e.objs++dropO e.objs.length o} F (m+m') Q' (O++O'.drop O.length) (L'++L) (Φ'++Φ):=by
 have H':=HL.wider G.H.fine hb1 hp1 G'.H
 have hlen:=G.len
 have hcn':e.objs.length≤Q'.length:=G'.cn
 have hpre:∀(i:Nat),i<Q.length→Q'[i]? = Q[i]? :=fun i hi=>G'.pre i (by simp only[hlen];exact hi)
 have hQ:QLe Q Q':=fun i q h=>by rw[hpre i (List.getElem?_eq_some_iff.mp h).1];exact h
 have htake:∀n,n≤Q.length→Q'.take n=Q.take n:=fun n hn=>List.ext_getElem? fun i=>by
  rw[List.getElem?_take,List.getElem?_take]
  split
  ·exact hpre i Oz
  ·rfl
 have hw:WLe (W.x Φ) (W.x (Φ'++Φ)):=wx_up (List.subset_append_right _ _)
 have hw':WLe ((W.x Φ).x Φ') (W.x (Φ'++Φ)):=wx_in (List.subset_append_right _ _) (List.subset_append_left _ _)
 have hoq':=G'.oq
 have hO:∀{i:Nat} {x},(O++O'.drop O.length)[i]? = some x→(i<Q.length∧O[i]? = some x)∨(Q.length≤i∧O'[i]? = some x):=fun{i x} h=>by
  by_cases hi:i<O.length
  ·rw[List.getElem?_append_left hi]at h;exact .inl ⟨by rw[←G.oq];exact hi,h⟩
  ·rw[List.getElem?_append_right Oz,List.getElem?_drop,show O.length+(i-O.length)=i by omega]at h
   exact .inr ⟨by rw[←G.oq];omega,h⟩
 have hE:∀{i:Nat} {x},(e.objs++dropO e.objs.length o)[i]? = some x→(i<Q.length∧e.objs[i]? = some x)∨(Q.length≤i∧o[i]? = some x∧x≠.const):=fun{i x} h=>by
  by_cases hi:i<e.objs.length
  ·rw[List.getElem?_append_left hi]at h;exact .inl ⟨by rw[←hlen];exact hi,h⟩
  ·rw[List.getElem?_append_right Oz]at h
   refine .inr ⟨by rw[←hlen];omega,?_,fun e1=>?_⟩
   ·rw[dropO_eq,List.getElem?_drop,show e.objs.length+(i-e.objs.length)=i by omega]at h;exact h
   ·subst e1;exact noC_get hn h
 have hnew:∀(i:Nat) q o1,Q'[i]? = some q→O'[i]? = some (some o1)→Q.length≤i→(q.2,o1)∈L'∧s.next≤q.2:=fun i q o1 h1 h2 hi=>by
  have h3:=G'.own i q o1 h1 h2 (by simp only[hlen];exact hi)
  refine⟨h3,?_⟩
  rcases(G'.H.own _ h3).2.2.2 with h|h
  ·exact h
  ·cases h
 have hΦ':∀p,p∈Φ'→s.next≤p.1:=fun p hp=>by
  rcases(G'.H.own p (G'.fro hp)).2.2.2 with h|h
  ·exact h
  ·cases h
 exact{
  K:=G.K
  H:=G.H.call H'
  oq:=by rw[List.length_append,List.length_drop,G.oq,hoq'];omega
  len:=by
   have:=G'.len
   simp only at this
   simp only[List.length_append,dropO_eq,List.length_drop,this];omega
  cn:=by have:=G.cn;omega
  ln:=G.ln
  pre:=fun i hi=>by rw[hpre i (by have:=G.ln;have:=G.cn;omega)];exact G.pre i hi
  fro:=fun p hp=>by
   rcases List.mem_append.mp hp with h|h
   ·exact List.mem_append_left _ (G'.fro h)
   ·exact List.mem_append_right _ (G.fro h)
  own:=fun i q o1 h1 h2 hi=>by
   rcases hO h2 with⟨h3,h4⟩|⟨h3,h4⟩
   ·rw[hpre i h3]at h1;exact List.mem_append_right _ (G.own i q o1 h1 h4 hi)
   ·exact List.mem_append_left _ (hnew i q o1 h1 h4 h3).1
  lent:=fun i q o1 h1 h2 hi=>by
   rcases hO h2 with⟨h3,h4⟩|⟨h3,h4⟩
   ·rw[hpre i h3]at h1
    obtain⟨g1,g2⟩:=G.lent i q o1 h1 h4 hi
    exact⟨by rw[H'.get (by have:=G.H.le;omega)];exact g1,g2⟩
   ·have:=G.ln;have:=G.cn;omega
  inj:=fun i j q r o1 o2 h1 h2 h3 h4 he=>by
   rcases hO h3 with⟨h5,h6⟩|⟨h5,h6⟩<;>rcases hO h4 with⟨h7,h8⟩|⟨h7,h8⟩
   ·rw[hpre i h5]at h1;rw[hpre j h7]at h2;exact G.inj i j q r o1 o2 h1 h2 h6 h8 he
   ·rw[hpre i h5]at h1
    have:=G.lt h1 h6;have:=(hnew j r o2 h2 h8 h7).2;omega
   ·rw[hpre j h7]at h2
    have:=G.lt h2 h8;have:=(hnew i q o1 h1 h6 h5).2;omega
   ·exact G'.inj i j q r o1 o2 h1 h2 h6 h8 he
  dis:=fun i q o1 p hi h1 h2 hp=>by
   rcases hO h2 with⟨h3,h4⟩|⟨h3,h4⟩<;>rcases List.mem_append.mp hp with h5|h5
   ·rw[hpre i h3]at h1
    have:=G.lt h1 h4;have:=hΦ' p h5;omega
   ·rw[hpre i h3]at h1;exact G.dis i q o1 p hi h1 h4 h5
   ·exact G'.dis i q o1 p (by simp only[hlen];exact h3) h1 h4 h5
   ·have:=(G.H.own p (G.fro h5)).2.1;have:=(hnew i q o1 h1 h4 h3).2;omega
  obj:=fun i b q o1 h0 h1 h2=>by
   rcases hO h2 with⟨h3,h4⟩|⟨h3,h4⟩<;>rcases hE h0 with⟨h5,h6⟩|⟨h5,h6,_⟩<;>try omega
   ·rw[hpre i h3]at h1;exact(G.obj i b q o1 h6 h1 h4).mono hw hQ
   ·exact(G'.obj i b q o1 h6 h1 h4).mono hw' QLe.rfl
  cob:=fun i b q o1 h0 h0' h1 h2=>by
   rw[htake _ G.cn]
   rcases hE h0 with⟨h5,h6⟩|⟨h5,h6,h7⟩
   ·rcases hO h2 with⟨h3,h4⟩|⟨h3,h4⟩
    ·rw[hpre i h3]at h1;exact(G.cob i b q o1 h6 h0' h1 h4).mono hw QLe.rfl
    ·omega
   ·exact(h7 rfl).elim
  slots:=G.slots.mono hw hQ
  cslots:=by rw[htake _ G.cn];exact G.cslots.mono hw QLe.rfl
  stk:=fun f hf=>by
   obtain⟨h1,h2,h3⟩:=G.stk f hf
   exact⟨h1,by rw[htake _ (by have:=G.cn;omega)];exact h2.mono hw QLe.rfl,fun p hp=>List.mem_append_right _ (h3 hp)⟩}
theorem inlD_ok(hin:∀W s0,InlOK I W s0 inl rc)(G:GX QL W s0 s C stk e F m Q O L Φ){bar:Nat}{prot:List Nat}(hf1:Fine {next:=s.next,bar:=bar,prot:=prot,heap:=s.heap})(hb1:s.bar≤bar)(hp1:∀p,p∈s.prot→p∈prot)
  {d:Option Nat} {o:Op} {k:En→Option ρ} {r:ρ} {P:FF→St→Prop} {ty:TypeId} {pos:String} {af:Array Edge} {gd:Option (Nat×Bool)}
  (h:inlD T inl C e d o k=some r) (hB:s0.next+(m+xk T rc o)≤z3) (hk:∀e' F' s' m',m'≤m+xk T rc o→qb QL W s0 s' C stk e' F' m'→k e'=some r→P F' s') :
  OpW Tryz.prog I ⟨d,o,ty,pos,af,gd⟩ F {next:=s.next,bar:=bar,prot:=prot,heap:=s.heap} (fun F' s'=>P F' (reS s s')):=by
 have hm:=G.H.most
 have hol:zY e.objs 0=e.objs.length:=by rw[zH,Nat.add_zero]
 unfold inlD at h
 rw[hol]at h
 split at h
 ·next c=>
  obtain⟨callee,ag,ts⟩:=c
  simp only at h
  split at h
  ·next f=>
   -- the call itself
   have key:∀(g:FuncId) (ps:List Pv) (vs:List Value),Nat.ble zo g=false→PsR (W.x Φ) Q ps vs→rc≤xk T rc (.call ⟨.value f,ag,ts⟩)→inl g (cobK e.objs C.objs) e.objs.length ps (allC e.objs) (fun v o=>match noC (dropO e.objs.length o)with
      |true=>En.set C {e with objs:=e.objs++dropO e.objs.length o} d v k
      |false=>none)=some r→∃v s',Rets Tryz.prog I g ⟨vs⟩ {next:=s.next,bar:=bar,prot:=prot,heap:=s.heap} v s'∧P (upd F d v) (reS s s'):=by
    intro g ps vs hlow hps hrc h
    rw[←rnum_low (Q:=Q) hlow]
    have hps':PsR ((W.x Φ).x []) Q ps vs:=PsR.mono wx_old QLe.rfl hps
    refine hin (W.x Φ) _ h (G.lend hf1 F) allC_len.symm hps' (by show s.next+(0+rc)≤z3;omega) ?_
    intro p v o' s' m' Q' O' L' Φ' hm' G' hp hk'
    split at hk'
    ·next hn=>
     have G2:=G.joinL hb1 hp1 G' hn
     obtain⟨e',G3,h3⟩:=G2.set (hp.mono (wx_in (List.subset_append_right _ _) (List.subset_append_left _ _)) QLe.rfl) hk'
     exact hk e' _ _ _ Oz G3.good h3
    ·cases hk'
   split at h
   ·next g caps ps hf hps=>
    split at h
    ·next hb=>
     simp only[Bool.and_eq_true,Bool.not_eq_true']at hb
     obtain⟨cs,hff,hcs⟩:=G.ev hf
     have hnf:∀g2,f≠.func g2:=fun g2 e=>by
      subst e;simp only[En.ev,Option.some.injEq]at hf;cases hf
     have hrc:rc≤xk T rc (.call ⟨.value f,ag,ts⟩):=by
      cases f with
      |func g2=>exact(hnf g2 rfl).elim
      |_=>exact Nat.le_refl _
     exact op_call hff hb.1.1 (by rfl) (key g _ _ hb.1.2 ((G.evs hps).app (PsR.caps hcs hb.2)) hrc h) hb.1.2
    ·cases h
   ·next g ps hf hps=>
    split at h
    ·next hb=>
     simp only[Bool.and_eq_true,Bool.not_eq_true']at hb
     have hff:ze F f=.func (.func g) #[] #[]:=(List.cons.inj (show [ze F f]=_ from G.ev hf)).1
     have hrc:rc≤xk T rc (.call ⟨.value f,ag,ts⟩):=by
      cases f with
      |func g2=>
       have:g2=g:=by
        have:ze F (.func g2)=.func (.func g2) #[] #[]:=rfl
        rw[this]at hff;cases hff;rfl
       subst this
       have hnone:T g2=none:=by
        have:=hb.2
        cases hT:T g2 with
        |none=>rfl
        |some=>rw[hT]at this;cases this
       simp only[xk,hnone,Nat.le_refl]
      |_=>exact Nat.le_refl _
     refine op_call (args:=⟨yw (ze F) ag.toList++[]⟩) hff hb.1.1 rfl ?_ hb.1.2
     rw[List.append_nil]
     exact key g _ _ hb.1.2 (G.evs hps) hrc h
    ·cases h
   ·cases h
  ·cases h
 ·cases h
theorem appS_prot{e:TypeId}{inf:TypeInfo}{base:Option Addr}{len cap n:Nat}{new:List Value}{s s1:St}{nx:Next}{X:List Nat}(h:yX e inf base len cap n new s=.ok nx s1)(hX:∀a,base=some a→a.block∉X) :
  (∃v,nx=.value v)∧s1.bar=s.bar∧s1.prot=s.prot∧yX e inf base len cap n new {s with prot:=X++s.prot}=.ok nx {s1 with prot:=X++s1.prot}:=by
 have hmay:∀a,base=some a→({s with prot:=X++s.prot}:St).may a.block=s.may a.block:=fun a ha=>by
  have hx:=hX a ha
  simp only[St.may,List.any_append]
  have:X.any (Nat.beq a.block)=false:=by
   rw[Bool.eq_false_iff]
   intro h
   rw[List.any_eq_true]at h
   obtain⟨x,hx1,hx2⟩:=h
   rw[Nat.eq_of_beq_eq_true hx2]at hx
   exact hx hx1
  rw[this,Bool.false_or]
 unfold yX at h ⊢
 cases hb:Nat.ble (len+n) (cap / 2)with
 |true=>
  simp only[hb]at h ⊢
  split at h
  ·next b off=>
   have hm:=hmay _ rfl
   simp only at hm
   unfold yB at h ⊢
   simp only[St.get]at h ⊢
   cases hg:s.heap.get b with
   |none=>simp only[hg]at h;cases h
   |some o=>
    simp only[hg]at h ⊢
    cases o with
    |cells c e'=>
     simp only[hm]at h ⊢
     cases hc:new.all Go.M.plainCell&&s.may b<;>cases hl:xh (off+len*inf.size) new c<;>simp only[hc,hl]at h ⊢
     ·cases new<;>cases h
     ·cases new with
      |nil=>cases h;exact⟨⟨_,rfl⟩,rfl,rfl,rfl⟩
      |cons=>cases h
     ·cases new<;>cases h
     ·cases h;exact⟨⟨_,rfl⟩,rfl,rfl,rfl⟩
    |_=>cases h
  ·split at h
   ·cases h;exact⟨⟨_,rfl⟩,rfl,rfl,rfl⟩
   ·cases h
 |false=>
  simp only[hb]at h ⊢
  have hrow:rowB e base cap {s with prot:=X++s.prot}=rowB e base cap s:=rfl
  have hfirst:∀sz m x,yD sz m x {s with prot:=X++s.prot}=yD sz m x s:=fun _ _ _=>rfl
  rw[hrow,hfirst]
  split at h
  ·next old hgr hold=>
   unfold growM killM at h ⊢
   split at h
   ·next s2 hk=>
    unfold newS at h
    split at h
    ·next hroom=>
     cases h
     split at hk
     ·cases hk
      next hcap=>
      simp only[hcap]
      refine⟨⟨_,rfl⟩,rfl,rfl,?_⟩
      simp only[hgr,hold,newS,show({s with prot:=X++s.prot}:St).room=s.room from rfl,hroom]
      rfl
     ·next hcap=>
      split at hk
      ·next a=>
       split at hk
       ·next hm=>
        cases hk
        refine⟨⟨_,rfl⟩,rfl,rfl,?_⟩
        have hm2:=hmay a rfl
        rw[hm]at hm2
        simp only[hm2,newS,show({s with prot:=X++s.prot}:St).put a.block none={s.put a.block none with prot:=X++s.prot}from rfl,show({s.put a.block none with prot:=X++s.prot}:St).room=(s.put a.block none).room from rfl,hroom]
        rfl
       ·cases hk
      ·cases hk
    ·cases h
   ·cases h
  ·cases h
theorem appM_prot{P:Program}{ts:List TypeId}{args:List Value}{s s1:St}{nx:Next}{X:List Nat}(h:yi P ts args s=.ok nx s1)(hX:∀a n c x,args=[.slice (some a) n c,x]→a.block∉X) :
  (∃v,nx=.value v)∧s1.bar=s.bar∧s1.prot=s.prot∧yi P ts args {s with prot:=X++s.prot}=.ok nx {s1 with prot:=X++s1.prot}:=by
 unfold yi at h ⊢
 split at h
 ·next st xt tr base len cap x=>
  split at h
  ·next e hu=>
   split at h
   ·next inf hi=>
    have hnew:newL (P.underlying xt) inf x {s with prot:=X++s.prot}=newL (P.underlying xt) inf x s:=rfl
    rw[hnew]
    split at h
    ·next n new hn=>
     exact appS_prot h fun a ha=>hX a len cap x (by rw[ha])
    ·cases h
   ·cases h
  ·cases h
 ·cases h
theorem opw_prot{P:Program}{ag:Array Operand}{ts:Array TypeId}{d:Option Nat}{ty:TypeId}{pos:String}{af:Array Edge}{gd:Option (Nat×Bool)}{s:St}{R:FF→St→Prop}{X:List Nat}(h:OpW P I ⟨d,.call ⟨.builtin .append,ag,ts⟩,ty,pos,af,gd⟩ F s R)
  (hX:∀a n c x,yw (ze F) ag.toList=[.slice (some a) n c,x]→a.block∉X):OpW P I ⟨d,.call ⟨.builtin .append,ag,ts⟩,ty,pos,af,gd⟩ F {s with prot:=X++s.prot} (fun F' s'=>R F' (reS s s')):=by
 obtain⟨F',s',hq,n,hn⟩:=h.ex
 have h1:=hn n (Nat.le_refl _)
 have hstep:∀s,zh P (ze F) (.call ⟨.builtin .append,ag,ts⟩) s=yi P ts.toList (yw (ze F) ag.toList) s:=fun _=>rfl
 unfold opF at h1
 simp only[hstep]at h1
 cases ha:yi P ts.toList (yw (ze F) ag.toList) s with
 |ok nx s1=>
  obtain⟨⟨v,rfl⟩,hb,hp,h2⟩:=appM_prot (X:=X) ha hX
  rw[ha]at h1
  simp only[FOut.normal.injEq]at h1
  obtain⟨rfl,rfl⟩:=h1
  refine zU (v:=v) (by rw[hstep];exact h2) ?_
  have:reS s {s1 with prot:=X++s1.prot}=s1:=by
   cases s1
   simp only at hb hp
   subst hb hp
   rfl
  rw[this];exact hq
 |_=>rw[ha]at h1;cases h1
theorem draw_newK{P:Program}{ops:List Oper}{ix anc:Nat}{free:List Nat}{o:Oper}{ob:MObj}{v:Value}{rest:List Drawn}{R:FF→St→Prop}(hg:zM ops ix=some o)(hw:yq ops F o=true)(hroom:s.room=true)
  (hv:zh P (ze F) o.op {next:=s.next,bar:=s.next,prot:=[],heap:=.nil}=.ok (.value v) (({next:=s.next,bar:=s.next,prot:=[],heap:=.nil}:St).new ob)) (hb:yp (upd F o.dst v) o=some s.next)
  (h:xP P I ops rest (upd F o.dst v) (s.new ob) R):xP P I ops (⟨ix,anc,.new,free⟩::rest) F s R:=by
 obtain⟨F₂,s₂,hq,n₂,h2⟩:=h
 refine⟨F₂,s₂,hq,n₂,fun m hm=>?_⟩
 have hn:(({next:=s.next,bar:=s.next,prot:=[],heap:=.nil}:St).new ob).next=s.next+1:=rfl
 have hr:=room_lt hroom
 have hgo:(({next:=s.next,bar:=s.next,prot:=[],heap:=.nil}:St).new ob).get s.next=some ob:=by
  rw[St.get_new (by show s.next+1<_;omega)]
  exact if_pos rfl
 simp only[drawF,hg,drawOpF,hw,opF,hv,hb,hn,hgo,hroom,Nat.beq_refl,Bool.and_self]
 exact h2 m hm
theorem freeN_ok(G:GX QL W s0 s C stk e F m Q O L Φ){ops:List Oper}{j:Nat}{q:Value×Nat}{oj:MObj}(hq:Q[j]? = some q)(ho:O[j]? = some (some oj))(hj:C.lent≤j) :
  ∀{fr:List Nat},freeK C ops e fr=true→FreeI C ops e fr→freeN C ops e j fr=true→∀p,p∈yo ops F fr→p≠q.2
 | [],_,_,_,p,hp=>by cases hp
 |i::r,h,hI,h',p,hp=>by
  have hge:s0.next≤q.2:=by
   rcases(G.H.own _ (G.own j q oj hq ho hj)).2.2.2 with h|h
   ·exact h
   ·cases h
  -- an address of something that is there,but not of object j
  have key:∀{pv:Option Pv} {v:Value} {b:Nat},(∀x,pv=some x→PvR (W.x Φ) Q x v)→ptrOK C e pv=true→(∀i off,pv=some (.one (.ptr i off))→i≠j)→(∀i,pv=some (.one (.own i))→i≠j) →
    ((∃a,v=.pointer (some a)∧a.block=b)∨(∃a n c,v=.slice (some a) n c∧a.block=b))→b≠q.2:=by
   intro pv v b hpv hok hn1 hn2 hv he
   subst he
   have hS:∀t w a n c L',(W.x Φ).S t w (.slice (some a) n c) L'→a.block≠q.2:=fun t w a n c L' hS he=>by
    rcases hS with hS|hS
    ·have:=G.K.s _ _ _ _ hS
     cases this with
     |nil c hv hl=>cases hv
     |block b' off' cap' c hv hgc hbn hcap hc=>
      simp only[Value.slice.injEq,Option.some.injEq]at hv
      rw[hv.1]at he
      simp only at he
      omega
    ·cases hS with
     |nil c hv hl=>cases hv
     |block b' off' cap' c hv hg hcap hc=>
      simp only[Value.slice.injEq,Option.some.injEq]at hv
      rw[hv.1]at he
      exact G.dis j q oj _ hj hq ho hg he
   unfold ptrOK at hok
   split at hok
   ·next i off=>
    obtain⟨q',hq',hvv⟩:=hpv _ rfl
    have hvv:=(List.cons.inj hvv).1
    split at hok
    ·next l hob=>
     obtain⟨q'',o,h1,h2,c,t,rfl,_⟩:=G.at hob
     rw[hq']at h1;cases h1
     rcases hv with⟨a,ha,hb⟩|⟨a,n,c,ha,hb⟩
     ·rw[hvv]at ha;cases ha
      exact hn1 i off rfl (G.inj i j q' q _ _ hq' hq h2 ho hb)
     ·rw[hvv]at ha;cases ha
    ·cases hok
   ·next i=>
    obtain⟨q',hq',hvv,_⟩:=hpv _ rfl
    have hvv:=(List.cons.inj hvv).1
    split at hok
    ·next t w τ l hob=>
     obtain⟨q'',o,h1,h2,a',cap,hv',_,_,_,Y,_,hown,_⟩:=G.at hob
     rw[hq']at h1;cases h1
     rcases hv with⟨a,ha,hb⟩|⟨a,n,c,ha,hb⟩
     ·rw[hvv,hv']at ha;cases ha
     ·rw[hvv,hv']at ha
      cases ha
      generalize hD:blkD q'.2 o=D at hown
      generalize hsl:(Value.slice (some a) l.length cap)=sl at hown
      generalize Y.flatten=c at hown
      generalize l.length=n at hown hsl
      cases hown with
      |nil=>cases hsl
      |block b' cap' _ _ hl hcap=>
       cases hsl
       cases o with
       |none=>cases hD
       |some o=>cases hD;exact hn2 i rfl (G.inj i j q' q _ _ hq' hq h2 ho hb)
    ·cases hok
   ·next pv' g1 g2=>
    have hpv:=hpv _ rfl
    cases pv' with
    |one x=>
     cases x with
     |ep t w τ x off=>
      obtain⟨b,o,n,cap,L',kk,hSS,hk,hR,hvv⟩:=hpv
      have hvv:=(List.cons.inj hvv).1
      rcases hv with⟨a,ha,hb⟩|⟨a,n,c,ha,hb⟩
      ·rw[hvv]at ha;cases ha;exact hS _ _ _ _ _ _ hSS hb
      ·rw[hvv]at ha;cases ha
     |sl t w τ l=>
      obtain⟨a',cap,L',e1,hSS,_⟩:=hpv
      have hvv:=(List.cons.inj e1).1
      rcases hv with⟨a,ha,hb⟩|⟨a,n,c,ha,hb⟩
      ·rw[hvv]at ha;cases ha
      ·rw[hvv]at ha;cases ha;exact hS _ _ _ _ _ _ hSS hb
     |own i=>exact g2 _ rfl
     |ptr i off=>exact g1 _ _ rfl
     |op i w y off=>cases hok
     |sp=>cases hok
     |asl=>cases hok
     |cl=>
      obtain⟨cs,e1,_⟩:=hpv
      have hvv:=(List.cons.inj e1).1
      rcases hv with⟨a,ha,hb⟩|⟨a,n,c,ha,hb⟩<;>(rw[hvv]at ha;cases ha)
     |yl=>
      obtain⟨q,_,e1⟩:=hpv
      have hvv:=(List.cons.inj e1).1
      rcases hv with⟨a,ha,hb⟩|⟨a,n,c,ha,hb⟩<;>(rw[hvv]at ha;cases ha)
     |unk=>cases hok
     |rat=>have e1:=RatC.len hpv;cases e1
     |_=>
      have hvv:=(List.cons.inj (show [v]=_ from hpv)).1
      rcases hv with⟨a,ha,hb⟩|⟨a,n,c,ha,hb⟩<;>(rw[hvv]at ha;cases ha)
    |any=>cases hok
    |undef=>
     rcases hv with⟨a,ha,hb⟩|⟨a,n,c,ha,hb⟩<;>(rw[show v=undef from hpv]at ha;cases ha)
    |_=>
     obtain⟨c',hvv,_⟩:=hpv
     rcases hv with⟨a,ha,hb⟩|⟨a,n,c,ha,hb⟩<;>(rw[hvv]at ha;cases ha)
   ·cases hok
  simp only[freeK,Bool.and_eq_true]at h
  simp only[freeN,Bool.and_eq_true]at h'
  obtain⟨h1,h2⟩:=h
  obtain⟨h3,h4⟩:=h'
  have ih:=freeN_ok G (ops:=ops) hq ho hj h2 hI.tail h4
  simp only[yo]at hp
  split at hp
  ·next o hoo=>
   simp only[hoo]at h1 h3
   split at hp
   ·next b hb=>
    rcases List.mem_cons.mp hp with rfl|hp
    ·unfold yp at hb
     split at hb
     ·next t x hop=>
      simp only[hop]at h1 h3
      split at hb
      ·next a ha=>
       cases hb
       rw[Bool.or_eq_true]at h1
       rcases h1 with h1|h1
       ·unfold opB at h1
        split at h1
        ·next i2 w n off hx=>
         obtain⟨t',w',τ,l,y,hob,hi⟩:=hI i o t x i2 w n off (List.mem_cons_self ..) hoo hop hx
         obtain⟨q2,o2,hq2,ho2,hv2⟩:=op_blk G (G.ev hx) hob hi
         rw[hv2]at ha;cases ha
         simp only[hx]at h3
         intro e1
         have:=G.inj i2 j q2 q _ _ hq2 hq ho2 ho e1
         subst this;simp at h3
        ·cases h1
       refine key (pv:=e.ev C x) (fun y hy=>G.ev hy) h1 (fun i off he=>?_) (fun i he=>?_) (.inl ⟨a,ha,rfl⟩)
       ·simp only[he]at h3
        intro e1;subst e1;simp at h3
       ·obtain⟨q',hq',hvv,_,_,_,hs⟩:=G.ev he
        have hvv:=(List.cons.inj hvv).1
        rw[hvv,hs]at ha;cases ha
      ·cases hb
     ·next t x lo hi hop=>
      simp only[hop]at h1 h3
      have n1:∀i off,e.ev C x=some (.one (.ptr i off))→i≠j:=fun i off he=>by
       simp only[he]at h3
       intro e1;subst e1;simp at h3
      have n2:∀i,e.ev C x=some (.one (.own i))→i≠j:=fun i he=>by
       simp only[he]at h3
       intro e1;subst e1;simp at h3
      split at hb
      ·next a n' c' ha=>
       cases hb
       exact key (pv:=e.ev C x) (fun y hy=>G.ev hy) h1 n1 n2 (.inr ⟨a,_,_,ha,rfl⟩)
      ·next a ha=>
       cases hb
       exact key (pv:=e.ev C x) (fun y hy=>G.ev hy) h1 n1 n2 (.inl ⟨a,ha,rfl⟩)
      ·cases hb
     ·next t hop=>
      simp only[hop]at h1 h3
      split at hb
      ·next d hd=>
       simp only[hd]at h1 h3
       split at hb
       ·next a ha=>
        cases hb
        refine key (pv:=e.get C d) (fun y hy=>G.ev (x:=.tmp d) hy) h1 (fun i off he=>?_) (fun i he=>?_) (.inl ⟨a,ha,rfl⟩)
        ·simp only[he]at h3
         intro e1;subst e1;simp at h3
        ·simp only[he]at h3
         intro e1;subst e1;simp at h3
       ·cases hb
      ·cases hb
     ·next t n ps hop=>
      simp only[hop]at h1 h3
      split at hb
      ·next d hd=>
       simp only[hd]at h1 h3
       split at hb
       ·next a n' c' ha=>
        cases hb
        refine key (pv:=e.get C d) (fun y hy=>G.ev (x:=.tmp d) hy) h1 (fun i off he=>?_) (fun i he=>?_) (.inr ⟨a,_,_,ha,rfl⟩)
        ·simp only[he]at h3
         intro e1;subst e1;simp at h3
        ·simp only[he]at h3
         intro e1;subst e1;simp at h3
       ·cases hb
      ·cases hb
     ·cases hb
    ·exact ih p hp
   ·exact ih p hp
  ·exact ih p hp
end
end Go.Proofs.YtocnbjjmmgolfaaGreat
namespace Go.Proofs.YtocnbjjmmgolfaaGreat
open Go Go.M Go.Proofs.C14
theorem over_ok:∀{l xs:List Value},xs.length≤l.length→∃r,xO xs l=some (xs++r)
 |l,[],_=>⟨l,rfl⟩
 | [],x::xs,h=>by simp at h
 |y::l,x::xs,h=>by
  obtain⟨r,hr⟩:=over_ok (l:=l) (xs:=xs) (by simpa using h)
  exact⟨r,by simp only[xO,hr,List.cons_append]⟩
theorem cut_put:∀{l xs:List Value} {i:Nat},i+xs.length≤l.length→∃r,xh i xs l=some (l.take i++xs++r)
 |l,xs,0,h=>by
  obtain⟨r,hr⟩:=over_ok (l:=l) (xs:=xs) Oz
  exact⟨r,by simp only[xh,hr,List.take_zero,List.nil_append]⟩
 | [],xs,i+1,h=>by simp at h
 |y::l,xs,i+1,h=>by
  obtain⟨r,hr⟩:=cut_put (l:=l) (xs:=xs) (i:=i) (by simp only[List.length_cons]at h;omega)
  exact⟨r,by simp only[xh,hr,List.take_succ_cons,List.cons_append]⟩
theorem flat_at{w:Nat}:∀{Y:List (List Value)} {R:List Value},(∀x∈Y,x.length=w)→∀k,k<Y.length→xd w (xx (k*w) (Y.flatten++R))=some (Y.getD k [])
 | [],R,_,k,hk=>by simp at hk
 |y::Y,R,h,0,hk=>by
  have hy:=h y (List.mem_cons_self ..)
  rw[Nat.zero_mul,y6,List.drop_zero,y5,List.flatten_cons,List.append_assoc,if_pos (by rw[List.length_append];omega)]
  rw[←hy,List.take_append_of_le_length (Nat.le_refl _),List.take_length]
  rfl
 |y::Y,R,h,k+1,hk=>by
  have hy:=h y (List.mem_cons_self ..)
  have ih:=flat_at (R:=R) (fun x hx=>h x (List.mem_cons_of_mem _ hx)) k (by simpa using hk)
  rw[y6]at ih ⊢
  rw[List.flatten_cons,List.append_assoc,show(k+1)*w=y.length+k*w by rw[hy,Nat.add_mul,Nat.one_mul,Nat.add_comm],List.drop_append,List.drop_eq_nil_of_le Oz,List.nil_append,Nat.add_sub_cancel_left]
  exact ih
theorem flat_take{w:Nat}:∀{Y:List (List Value)} {i:Nat},(∀x∈Y,x.length=w)→Y.flatten.take (i*w)=(Y.take i).flatten
 |Y,0,h=>by simp
 | [],i+1,h=>by simp
 |y::Y,i+1,h=>by
  have hy:=h y (List.mem_cons_self ..)
  rw[List.flatten_cons,List.take_succ_cons,List.flatten_cons,show(i+1)*w=y.length+i*w by rw[hy,Nat.add_mul,Nat.one_mul,Nat.add_comm],List.take_length_add_append,flat_take fun x hx=>h x (List.mem_cons_of_mem _ hx)]
theorem set_fac{ρ:Type}{C:Cx}{e:En}{d:Option Nat}{p:Pv}{k:En→Option ρ}{r:ρ}(h:e.set C d p k=some r):∃e',e.set C d p some=some e'∧k e'=some r:=by
 unfold En.set at h ⊢
 split at h
 ·exact⟨_,rfl,h⟩
 ·next d=>
  cases hf:find C.slots d with
  |some y=>rw[hf]at h;cases h
  |none=>rw[hf]at h;exact⟨_,rfl,h⟩
theorem apdP_some{ops:List Oper}{o:Oper}{r:List Drawn}{p:Apd}(h:apdP ops o r=some p):∃(ix2 anc2 ix3 anc3:Nat) (free2:List Nat) (r2:List Drawn) (o2 o3:Oper) (ag:Array Operand) (ts:Array TypeId) (tr:List TypeId),
  r=⟨ix2,anc2,.fresh,free2⟩::⟨ix3,anc3,.whole,[]⟩::r2∧o.op=.slice p.t p.x none (some p.hi) none∧o.dst=some p.a∧zM ops ix2=some o2∧zM ops ix3=some o3∧o2.op=.slice p.t p.x2 (some p.lo) none none∧o2.dst=some p.b∧o2.guard=none ∧
   o3.op=.call ⟨.builtin .append,ag,ts⟩∧o3.dst=p.d∧o3.guard=none∧ag.toList=[.tmp p.a,.tmp p.b]∧ts.toList=p.t::p.t::tr∧p.a≠p.b:=by
 unfold apdP at h
 split at h
 ·next d2 d3 r2=>
  split at h
  ·next t x hi a hop hdst=>
   split at h
   ·next o2 o3 ho2 ho3=>
    split at h
    ·next t2 x2 lo b hop2 hd2 hg2 hh2=>
     split at h
     ·next ag ts hop3 hg3 hh3 hf3=>
      split at h
      ·next a' b' t' t2' tr hag hts=>
       split at h
       ·next hb=>
        cases h
        simp only[Bool.and_eq_true,Bool.not_eq_true']at hb
        obtain⟨⟨⟨⟨⟨h1,h2⟩,h3⟩,h4⟩,h5⟩,h6⟩:=hb
        have e1:=Nat.eq_of_beq_eq_true h1
        have e2:=Nat.eq_of_beq_eq_true h2
        have e4:=Nat.eq_of_beq_eq_true h4
        have e5:=Nat.eq_of_beq_eq_true h5
        have e6:=Nat.eq_of_beq_eq_true h6
        subst a' b' t' t2 t2'
        obtain⟨ix2,anc2,how2,free2⟩:=d2
        obtain⟨ix3,anc3,how3,free3⟩:=d3
        cases hh2;cases hh3;cases hf3
        exact⟨ix2,anc2,ix3,anc3,free2,r2,o2,o3,ag,ts,tr,rfl,hop,hdst,ho2,ho3,hop2,hd2,hg2,hop3,rfl,hg3,hag,hts,Nat.ne_of_beq_eq_false h3⟩
       ·cases h
      ·cases h
     ·cases h
    ·cases h
   ·cases h
  ·cases h
 ·cases h
section
variable{I:zT}{Γ:TypeId→Option Ty}{ρ:Type}{W:Wd}{s0 s:St}{C:Cx}{QL:Qs}{stk:List Fra}{e:En}{F:FF}{m:Nat}{Q:Qs}{O:List (Option MObj)}{L Φ:Hp'}
theorem apd_ok(G:GX QL W s0 s C stk e F m Q O L Φ){ops:List Oper}{o:Oper}{ix anc:Nat}{free:List Nat}(ho:zM ops ix=some o)(hw:yq ops F o=true){r:List Drawn}{p:Apd}(hp:apdP ops o r=some p){K:En→Option ρ}{res:ρ}(h:apdK Γ C e p K=some res)(hB:s0.next+m≤z3)
  {P:FF→St→Prop} (hk:∀e' F' s',qb QL W s0 s' C stk e' F' m→K e'=some res→xP Tryz.prog I ops (r.drop 2) F' s' P):xP Tryz.prog I ops (⟨ix,anc,.fresh,free⟩::r) F s P:=by
 obtain⟨ix2,anc2,ix3,anc3,free2,r2,o2,o3,ag,ts,tr,rfl,hop,hdst,ho2,ho3,hop2,hd2,hg2,hop3,hd3,hg3,hag,hts,hab⟩:=apdP_some hp
 simp only[List.drop_succ_cons,List.drop_zero]at hk
 unfold apdK at h
 split at h
 ·next el sz τ z j i hel hx hhi=>
  split at h
  ·next t' w' τ' l hoj hlj=>
   split at h
   ·next hb=>
    simp only[Bool.and_eq_true]at hb
    obtain rfl:=Nat.eq_of_beq_eq_true hb.1
    obtain rfl:=Nat.eq_of_beq_eq_true hb.2
    obtain⟨e1,hs1,h⟩:=set_fac h
    split at h
    ·next j2 n hx2 hlo=>
     split at h
     ·next hj=>
      obtain rfl:=Nat.eq_of_beq_eq_true hj
      obtain⟨e2,hs2,h⟩:=set_fac h
      obtain⟨rr,hrr,h⟩:=zA h
      unfold cutZ at hrr
      split at hrr
      ·next hc=>
       cases hrr
       obtain⟨h0,h1,h2⟩:=hc
       obtain⟨i,rfl⟩:=Int.eq_ofNat_of_zero_le h0
       obtain⟨n,rfl⟩:=Int.eq_ofNat_of_zero_le (show 0≤n by omega)
       obtain⟨by_,zc,hs,hby,hsz0,_⟩:=elK_ok hel
       obtain⟨hu,inf,z',hin,hsz,-,-,-,-⟩:=yL hs
       have hlj:=Nat.le_of_ble_eq_true hlj
       rw[zC]at hoj
       have hjq:j<Q.length:=by rw[←G.len];exact(List.getElem?_eq_some_iff.mp hoj).1
       obtain⟨q,hq⟩:∃q,Q[j]? = some q:=⟨_,List.getElem?_eq_getElem hjq⟩
       obtain⟨ob,hob⟩:∃o,O[j]? = some o:=⟨_,List.getElem?_eq_getElem (by rw[G.oq];exact hjq)⟩
       obtain⟨a',cap,hv,_,hn,hsz2,Y,hY1,hY2,hY3,hY4⟩:=G.obj j _ q ob hoj hq hob
       have hYl:Y.flatten.length=l.length*w':=by rw[xy hY3,hY1]
       have hex:ze F p.x=.slice a' l.length cap:=by
        obtain⟨q',h1,h2,_⟩:=G.ev hx
        rw[hq]at h1;cases h1
        rw[(List.cons.inj h2).1,hv]
       have hehi:ze F p.hi=.int .i64 (i:Int):=(List.cons.inj (show [ze F p.hi]=_ from G.ev hhi)).1
       have hYp:∀k x,l[k]? = some x→Rep (W.x Φ) τ' (Y.getD k []) x:=hY4
       have hcp:Y.flatten.all Go.M.plainCell=true:=by
        rw[List.all_eq_true]
        intro v hv
        obtain⟨c,hc,hv⟩:=List.mem_flatten.mp hv
        obtain⟨i,hi,rfl⟩:=List.getElem_of_mem hc
        have hi':i<l.length:=by omega
        have:=(hY4 i l[i] (List.getElem?_eq_getElem hi')).plain
        rw[List.getD_eq_getElem?_getD,List.getElem?_eq_getElem hi]at this
        exact(List.all_eq_true.mp this) v hv
       generalize hD:blkD q.2 ob=D at hY2
       generalize hsl:(Value.slice a' l.length cap)=sl at hY2 hex
       generalize hc:Y.flatten=c at hY2 hYl hcp
       generalize hn':l.length=n' at hY2
       cases hY2 with
       |nil=>omega
       |block b' cap2 _ _ hl2 hcap2=>
        cases hsl
        cases ob with
        |none=>cases hD
        |some ob=>
         cases hD
         have hmem:=G.own j q _ hq hob hlj
         obtain⟨A,B,hL⟩:=List.append_of_mem hmem
         have hH:=G.H
         rw[hL]at hH
         have hg:=hH.ownA
         simp only[List.all_eq_true]at hcp
         have hle:i≤l.length:=by omega
         obtain⟨off2,cap2,g1,g2,g3,s1⟩:=slice_step (s:={s with bar:=s.next}) (t:=p.t) (lo:=none) (hi:=some (.int .i64 (i:Int))) (len:=l.length) (cap:=cap) hu hin (b:=q.2) hg rfl bnd_nat (Nat.zero_le _) Oz
         obtain rfl:=g3 rfl
         rw[Nat.sub_zero]at s1
         refine qn ho hw (zU (v:=.slice (some ⟨q.2,0,none⟩) i cap2) (s':={s with bar:=s.next}) (by rw[hop];simp only[zh,Option.map,hex,hehi];exact s1) ?_)
         rw[hdst]
         obtain⟨_,G1,hee⟩:=G.set (v:=.slice (some ⟨q.2,0,none⟩) i cap2) (p:=.any) trivial hs1
         cases hee
         have hex2:ze (upd F (some p.a) (.slice (some ⟨q.2,0,none⟩) i cap2)) p.x2=.slice (some ⟨q.2,0,none⟩) l.length cap:=by
          obtain⟨q',h1,h2,_⟩:=G1.ev hx2
          rw[hq]at h1;cases h1
          rw[(List.cons.inj h2).1,hv]
         have helo:ze (upd F (some p.a) (.slice (some ⟨q.2,0,none⟩) i cap2)) p.lo=.int .i64 (n:Int):=(List.cons.inj (show [ze _ p.lo]=_ from G1.ev hlo)).1
         obtain⟨off3,cap3,g4,g5,g6,s2⟩:=slice_step (s:={s with bar:=s.next}) (t:=p.t) (lo:=some (.int .i64 (n:Int))) (hi:=none) (len:=l.length) (cap:=cap) hu hin (b:=q.2) hg bnd_nat rfl Oz Oz
         have hw2:∀F',yq ops F' o2=true:=fun F'=>by unfold yq;rw[hg2]
         have hw3:∀F',yq ops F' o3=true:=fun F'=>by unfold yq;rw[hg3]
         refine qn ho2 (hw2 _) (zU (v:=.slice (some ⟨q.2,off3,none⟩) (l.length-n) cap3) (s':={s with bar:=s.next}) (by rw[hop2];simp only[zh,Option.map,hex2,helo];exact s2) ?_)
         rw[hd2]
         obtain⟨_,G2,hee⟩:=G1.set (v:=.slice (some ⟨q.2,off3,none⟩) (l.length-n) cap3) (p:=.any) trivial hs2
         cases hee
         generalize hF2:upd (upd F (some p.a) (.slice (some ⟨q.2,0,none⟩) i cap2)) (some p.b) (.slice (some ⟨q.2,off3,none⟩) (l.length-n) cap3)=F2 at G2 ⊢
         have ha2:F2 p.a=.slice (some ⟨q.2,0,none⟩) i cap2:=by rw[←hF2,qv,if_neg hab,qv,if_pos rfl]
         have hb2:F2 p.b=.slice (some ⟨q.2,off3,none⟩) (l.length-n) cap3:=by rw[←hF2,qv,if_pos rfl]
         have hnl:n≤l.length:=by omega
         have hmul:n*w'≤l.length*w':=Nat.mul_le_mul_right _ hnl
         have hdl:(c.drop (n*w')).length=(l.length-n)*w':=by rw[List.length_drop,hYl,Nat.sub_mul]
         have hel:qr s w' (ze F2 (.tmp p.b)) (l.length-n) (c.drop (n*w')):=by
          show qr s w' (F2 p.b) _ _
          rw[hb2]
          rcases g5 with rfl|h
          ·rw[hsz]
           refine elems_block hg ?_ (by rw[hYl,←Nat.add_mul,Nat.add_sub_cancel' hnl];exact Nat.le_refl _)
           rw[List.take_of_length_le (by rw[hdl];exact Nat.le_refl _)]
          ·rw[show l.length-n=0 by omega,List.drop_eq_nil_of_le (by rw[hYl,h];exact Nat.le_refl _)]
           exact⟨⟨_,_,rfl⟩,by simp only[yD,hg,Nat.zero_mul];rfl⟩
         obtain⟨R,hput⟩:=cut_put (l:=c) (xs:=c.drop (n*w')) (i:=i*w') (by
          rw[hdl,hYl,←Nat.add_mul]
          exact Nat.mul_le_mul_right _ Oz)
         obtain⟨d3,op3,ty3,pos3,af3,gd3⟩:=o3
         simp only at hop3 hd3 hg3
         subst hop3 hd3
         refine draw_whole ho3 (hw3 _) (op_appendRoom (A:=A) (L:=B) (len:=i) (m:=l.length-n) (cap:=cap2) (c:=c) (l:=c.drop (n*w')) hH hs hu hts hag ha2 hel Oz ?_ hput hB (fun s3 H3=>?_))
         ·rw[List.all_eq_true]
          exact fun x hx=>hcp x (List.mem_of_mem_drop hx)
         have H3:=HL.same hH H3
         have G3:=G2.frzNew hq hob hlj hL H3
         have hlen:(l.take i++l.drop n).length=i+(l.length-n):=by rw[List.length_append,List.length_take,List.length_drop];omega
         have hYlen:(Y.take i++Y.drop n).length=i+(l.length-n):=by rw[List.length_append,List.length_take,List.length_drop];omega
         have hrep:Rep (W.x ((q.2,.cells (c.take (i*w')++c.drop (n*w')++R) t')::Φ)) (.sl t' w' τ') [.slice (some ⟨q.2,0,none⟩) (i+(l.length-n)) cap2] (l.take i++l.drop n):=by
          refine⟨_,cap2,Y.take i++Y.drop n,by rw[hlen],.inr (.block q.2 0 cap2 _ (by rw[hlen,hYlen]) (List.mem_cons_self ..) (by rw[hYlen];omega) fun k hk=>?_),by rw[hlen,hYlen],fun k x hx=>?_⟩
          ·rw[Nat.zero_add,←hc,flat_take hY3,flat_drop n hY3,←List.flatten_append]
           exact flat_at (fun x hx=>by
            rcases List.mem_append.mp hx with h|h
            ·exact hY3 x (List.mem_of_mem_take h)
            ·exact hY3 x (List.mem_of_mem_drop h)) k hk
          ·have hk:=(List.getElem?_eq_some_iff.mp hx).1
           rw[hlen]at hk
           have hmono:∀{c x},Rep (W.x Φ) τ' c x→Rep (W.x ((q.2,.cells (Y.flatten.take (i*w')++Y.flatten.drop (n*w')++R) t')::Φ)) τ' c x:=fun h=>Rep.mono (wx_up fun p hp=>List.mem_cons_of_mem _ hp) h
           rw[←hc]
           rw[List.getElem?_append,List.length_take,Nat.min_eq_left hle]at hx
           rw[List.getD_eq_getElem?_getD,List.getElem?_append,List.length_take,Nat.min_eq_left Oz]
           split at hx
           ·next hki=>
            rw[if_pos hki,List.getElem?_take,if_pos hki]
            rw[List.getElem?_take,if_pos hki]at hx
            have:=hmono (hYp k x hx)
            rw[List.getD_eq_getElem?_getD]at this
            exact this
           ·next hki=>
            rw[if_neg hki,List.getElem?_drop]
            rw[List.getElem?_drop]at hx
            have:=hmono (hYp _ x hx)
            rw[List.getD_eq_getElem?_getD]at this
            exact this
         obtain⟨e',G4,h4⟩:=G3.set (p:=.one (.sl t' w' τ' (l.take i++l.drop n))) (v:=.slice (some ⟨q.2,0,none⟩) (i+(l.length-n)) cap2) hrep h
         exact hk e' _ _ G4.good h4
      ·cases hrr
     ·cases h
    ·cases h
   ·cases h
  ·cases h
 ·cases h
end
end Go.Proofs.YtocnbjjmmgolfaaGreat
namespace Go.Proofs.YtocnbjjmmgolfaaGreat
open Go Go.M Go.Proofs.C14
section
variable{I:zT}{Γ:TypeId→Option Ty}{T:FuncId→Option Con}{ρ:Type}{inl:Inl ρ}{rc:Nat}{W:Wd}{s0:St}{C:Cx}{QL:Qs}{stk:List Fra}
theorem newOp_room{o:Op}(hn:newOp o=true):xk T rc o=1:=by cases o<;>first|rfl|(cases hn;done)
theorem cp_room{e:En}{o:Op}(hcp:cpOp C e o=true):xk T rc o=1:=by
 unfold cpOp at hcp
 split at hcp
 ·next c=>
  obtain⟨callee,ag,ts⟩:=c
  simp only at hcp
  split at hcp
  ·rfl
  ·cases hcp
 ·cases hcp
theorem cp_ok{s:St}{e:En}{F:FF}{m:Nat}{Q:Qs}{O:List (Option MObj)}{L Φ:Hp'}(G:GX QL W s0 s C stk e F m Q O L Φ){d:Option Nat}{o:Op}{k:En→Option ρ}{r:ρ}(hcp:cpOp C e o=true)(h:effK Γ T inl rc C e d o k=some r)(hB:s0.next+(m+1)≤z3) :
  ∃v S1,zh Tryz.prog (ze F) o {next:=s.next,bar:=s.next,prot:=s.prot,heap:=s.heap}=.ok (.value v) S1∧∃e',qb QL W s0 (reS s S1) C stk e' (upd F d v) (m+1)∧k e'=some r:=by
 unfold cpOp at hcp
 split at hcp
 ·next c=>
  obtain⟨callee,ag,ts⟩:=c
  simp only at hcp
  split at hcp
  ·next x y has=>
   split at hcp
   ·next j t' w' τ' xs hx hy=>
    unfold effK at h
    simp only[has]at h
    split at h
    ·next t t2 tr x' y' hts he=>
     cases he
     rw[hx,hy]at h
     split at h
     ·next el2 px py hu2 hpx hpy=>
      cases hpx;cases hpy
      obtain⟨v,hfr⟩:=appD_ok G hts has hu2 hx hy h hB (by
       revert hcp
       split
       ·next hl=>exact fun _=>⟨_,_,_,hl⟩
       ·exact fun h=>nomatch h)
      obtain⟨S1,h1,e',G2,h2⟩:=hfr s.next s.prot (Nat.le_refl _)
      exact⟨v,S1,h1,e',G2,h2⟩
     ·cases h
    ·cases h
   ·cases hcp
  ·cases hcp
 ·cases hcp
set_option maxRecDepth 100000 in
theorem y8(hI:zQ I)(hT:ConI I T)(hin:∀W s0,InlOK I W s0 inl rc){ops:List Oper}{k:En→Option ρ}{r:ρ}{P:FF→St→Prop}:∀{l:List Drawn} {s:St} {e:En} {F:FF} {m:Nat},qb QL W s0 s C stk e F m→drawK Γ T inl rc C ops l e k=some r→s0.next+(m+roomD T rc ops l)≤z3 →
  (∀e' F' s' m',m'≤m+roomD T rc ops l→qb QL W s0 s' C stk e' F' m'→k e'=some r→P F' s')→xP Tryz.prog I ops l F s P
 | [],s,e,F,m,G,h,hB,hk=>draw_nil (hk e F s m (Nat.le_add_right ..) G h)
 |⟨ix,anc,how,free⟩::l,s,e,F,m,⟨Q,O,L,Φ,G⟩,h,hB,hk=>by
  simp only[roomD]at hB hk
  unfold drawK at h
  simp only at h
  split at h
  ·next o ho=>
   simp only[ho]at hB hk
   obtain⟨e1,G1,hh⟩:=want_ok G h
   rcases hh with⟨hw,h⟩|⟨hw,h⟩
   ·have hm:=G.H.most
    have hnew:∀(h:effK Γ T inl rc C e1 o.dst o.op (fun e=>drawK Γ T inl rc C ops l e k)=some r),newOp o.op=true→∃ob v,(∀s1:St,s1.next=s.next→zh Tryz.prog (ze F) o.op s1=.ok (.value v) (s1.new ob))∧((v=.pointer (some ⟨s.next,0,none⟩)∧bsOp o.op=false)∨(bsOp o.op=true∧∃n c,v=.slice (some ⟨s.next,0,none⟩) n c))∧xP Tryz.prog I ops l (upd F o.dst v) (s.new ob) P:=fun h hn=>by
     rw[newOp_room hn]at hB hk
     obtain⟨ob,v,h1,h2,e2,G2,h3⟩:=new_ok G1 hn Oz h
     exact⟨ob,v,h1,h2,y8 hI hT hin G2 h3 Oz fun e' F' s' m' hm' G3 h4=>hk e' F' s' m' Oz G3 h4⟩
    cases how with
    |light=>
     simp only at h
     refine draw_light ho hw ?_
     cases hsl:slOp o.op
     case true=>
      rw[hsl]at h
      simp only at h
      obtain⟨v,h1,e2,G2,h3⟩:=stay_ok G1 hsl h
      refine zU (h1 _ fun t x lo hi hop a n c ha hlt=>?_) ⟨rfl,y8 hI hT hin G2 h3 Oz fun e' F' s' m' hm' G3 h4=>hk e' F' s' m' Oz G3 h4⟩
      have e1:yp F o=some a.block:=by unfold yp;rw[hop];simp only[ha]
      rw[e1]
      exact only_get (by have:=G1.H.most;omega)
     rw[hsl]at h
     simp only at h
     obtain⟨p,v,h1,h2,h3⟩:=pure_ok (s':={next:=s.next,bar:=s.next,prot:=[],heap:=only s (yp F o)}) G1.see (fun t x hop a ha hlt=>by
      have e1:yp F o=some a.block:=by unfold yp;rw[hop];simp only[ha]
      rw[e1]
      exact only_get Oz) h
     obtain⟨e2,G2,h4⟩:=G1.set h2 h3
     exact zU h1 ⟨rfl,y8 hI hT hin G2.good h4 Oz fun e' F' s' m' hm' G3 h5=>hk e' F' s' m' Oz G3 h5⟩
    |whole=>
     simp only at h
     rcases hfr:free with _|⟨f0,fr⟩
     ·rw[hfr]at h
      simp only at h
      refine draw_whole ho hw (eff_ok (d:=o.dst) (o:=o.op) (ty:=o.type) (pos:=o.pos) (af:=o.after) (g:=o.guard) hI hT (hin W s0) G1 h Oz fun e' F' s' m' hm' G3 h4=>?_)
      have hre:({next:=s'.next,bar:=s.bar,prot:=s.prot,heap:=s'.heap}:St)=s':=by
       obtain⟨_,_,_,_,G3⟩:=G3
       have h1:=G3.H.bar
       have h2:=G3.H.prot
       have h3:=G1.H.bar
       have h4:=G1.H.prot
       rw[h3,h4,←h1,←h2]
      rw[hre]
      exact y8 hI hT hin G3 h4 Oz fun e'' F'' s'' m'' hm'' G4 h5=>hk e'' F'' s'' m'' Oz G4 h5
     rw[hfr]at h
     simp only at h
     rw[←hfr]at h ⊢
     split at h
     ·next hb=>
      simp only[Bool.and_eq_true,Bool.or_eq_true]at hb
      obtain⟨hfree,hb⟩:=hb
      obtain⟨h,hfi⟩:=freeI_ok h
      have hlt:=free_ok G1 hfree hfi
      refine draw_whole ho hw ?_
      rcases hb with(((hn|hsl)|hc)|hst)|hap
      ·obtain⟨ob,v,h1,_,h3⟩:=hnew h hn
       exact zU (h1 _ rfl) h3
      ·obtain⟨v,h1,e2,G2,h3⟩:=stay_ok G1 hsl h
       exact zU (h1 _ fun _ _ _ _ _ _ _ _ _ _=>rfl) (y8 hI hT hin G2 h3 Oz fun e' F' s' m' hm' G3 h4=>hk e' F' s' m' Oz G3 h4)
      ·have:=con_ok (o:=o.op) (d:=o.dst) (ty:=o.type) (pos:=o.pos) (af:=o.after) (gd:=o.guard) hI hT G1 (Fine.pr G.H.fine hlt) (Nat.le_refl _) (fun _ h=>List.mem_append_right _ h) hc h Oz
        (P:=fun F s=>xP Tryz.prog I ops l F s P) fun e' F' s' m' hm' G3 h4=>y8 hI hT hin G3 h4 Oz fun e'' F'' s'' m'' hm'' G4 h5=>hk e'' F'' s'' m'' Oz G4 h5
       exact this
      ·unfold stOK at hst
       split at hst
       ·next t x v hop=>
        split at hst
        ·next j off hx=>
         rw[hop]at h
         obtain⟨j',off',q,c,c2,tt,n,hx',hq,⟨oj,hoj⟩,hj,hsz,hxx,hlen,hp,hg,hm2,hcc,e2,G2,h3⟩:=store_ok G1 Oz h
         obtain rfl:=hx' _ _ hx
         have hne:=freeN_ok G1 hq hoj hj hfree hfi hst
         have hm':({s with prot:=yo ops F free++s.prot}:St).may q.2=true:=by
          simp only[St.may,Bool.and_eq_true,Bool.not_eq_true',Bool.eq_false_iff,ne_eq,List.any_eq_true,not_exists,not_and]at hm2 ⊢
          refine⟨hm2.1,fun p hp2 he=>?_⟩
          rcases List.mem_append.mp hp2 with h|h
          ·exact hne p h (Nat.eq_of_beq_eq_true he).symm
          ·exact hm2.2 p h he
         have hstep:zh Tryz.prog (ze F) o.op {s with prot:=yo ops F free++s.prot}=.ok .skip (({s with prot:=yo ops F free++s.prot}:St).put q.2 (some (.cells c2 tt))):=by
          rw[hop];exact store_step hsz hxx rfl hlen hp hg hm' hcc
         exact op_none hstep (y8 hI hT hin G2 h3 Oz fun e'' F'' s'' m'' hm'' G4 h5=>hk e'' F'' s'' m'' Oz G4 h5)
        ·cases hst
       ·cases hst
      ·have hO:=eff_ok (d:=o.dst) (o:=o.op) (ty:=o.type) (pos:=o.pos) (af:=o.after) (g:=o.guard) hI hT (hin W s0) G1 h Oz (P:=fun F s=>xP Tryz.prog I ops l F s P) fun e' F' s' m' hm' G3 h4=>y8 hI hT hin G3 h4 Oz fun e'' F'' s'' m'' hm'' G4 h5=>hk e'' F'' s'' m'' Oz G4 h5
       obtain⟨dst,op,ty,pos,af,gd⟩:=o
       cases op with
       |call c=>
        obtain⟨callee,ag,ts⟩:=c
        unfold apOK at hap
        simp only at hap
        generalize hargs:ag.toList=al at hap
        split at hap
        ·next x y _=>
         refine opw_prot (ag:=ag) (ts:=ts) hO fun a n c x' hmap=>?_
         rw[hargs]at hmap
         simp only[yw,List.cons.injEq,and_true]at hmap
         split at hap
         ·next j hx=>
          split at hap
          ·next t w τ l' hoj=>
           simp only[Bool.and_eq_true]at hap
           have hj:=Nat.le_of_ble_eq_true hap.2
           rw[zC]at hoj
           have hjq:j<Q.length:=by have:=(List.getElem?_eq_some_iff.mp hoj).1;rw[G1.len]at this;exact this
           have hq:=List.getElem?_eq_getElem hjq
           have hoo:=List.getElem?_eq_getElem (l:=O) (i:=j) (by rw[G1.oq];exact hjq)
           obtain⟨a',cap,hv',_,_,_,Y,_,hown,_⟩:=G1.obj j _ _ _ hoj hq hoo
           obtain⟨q',hq',hvv,_⟩:=G1.ev hx
           rw[hq]at hq';cases hq'
           have hvv:=(List.cons.inj hvv).1
           rw[hvv,hv']at hmap
           generalize hD:blkD _ _=D at hown
           have ha:=hmap.1
           simp only[Value.slice.injEq]at ha
           obtain⟨ha,_⟩:=ha
           subst ha
           generalize hsl:(Value.slice (some a) l'.length cap)=sl at hown
           generalize Y.flatten=c2 at hown
           generalize l'.length=n2 at hown hsl
           cases hown with
           |nil=>cases hsl
           |block b cap' _ _ hl hcap=>
            cases hsl
            cases hO1:O[j]'(by rw[G1.oq];exact hjq)with
            |none=>rw[hO1]at hD;cases hD
            |some o1=>
             rw[hO1]at hD hoo
             cases hD
             intro hin'
             exact freeN_ok G1 hq hoo hj hfree hfi hap.1 _ hin' rfl
          ·cases hap
         ·next hx=>
          have:=(List.cons.inj (show [ze F _]=_ from G1.ev hx)).1
          rw[this]at hmap
          cases hmap.1
         ·cases hap
        ·cases hap
       |_=>cases hap
     ·split at h
      ·next hb=>
       simp only[Bool.and_eq_true]at hb
       obtain⟨h,hfi⟩:=freeI_ok h
       have hlt:=free_ok G1 hb.1 hfi
       refine draw_whole ho hw ?_
       have:=inlD_ok (o:=o.op) (d:=o.dst) (ty:=o.type) (pos:=o.pos) (af:=o.after) (gd:=o.guard) hin G1 (Fine.pr G.H.fine hlt) (Nat.le_refl _) (fun _ h=>List.mem_append_right _ h) h Oz
        (P:=fun F s=>xP Tryz.prog I ops l F s P) fun e' F' s' m' hm' G3 h4=>y8 hI hT hin G3 h4 Oz fun e'' F'' s'' m'' hm'' G4 h5=>hk e'' F'' s'' m'' Oz G4 h5
       exact this
      ·cases h
    |fresh=>
     simp only at h
     split at h
     ·next p hp=>
      split at h
      ·next d2 d3 r2 _=>
       have hrd:roomD T rc ops r2≤roomD T rc ops (d2::d3::r2):=by simp only[roomD];omega
       exact apd_ok G1 ho hw hp h Oz fun e' F' s' G3 h4=>y8 hI hT hin (l:=r2) G3 h4 Oz fun e'' F'' s'' m'' hm'' G4 h5=>hk e'' F'' s'' m'' Oz G4 h5
      ·cases h
     ·split at h
      ·next hb=>
       simp only[Bool.or_eq_true]at hb
       refine qn ho hw ?_
       rcases hb with((hn|hsl)|hc)|hcp
       ·obtain⟨ob,v,h1,_,h3⟩:=hnew h hn
        exact zU (h1 _ rfl) h3
       ·obtain⟨v,h1,e2,G2,h3⟩:=stay_ok G1 hsl h
        exact zU (h1 _ fun _ _ _ _ _ _ _ _ _ _=>rfl) (y8 hI hT hin G2 h3 Oz fun e' F' s' m' hm' G3 h4=>hk e' F' s' m' Oz G3 h4)
       rotate_left
       ·rw[cp_room hcp]at hB hk
        obtain⟨v,S1,h1,e',G2,h2⟩:=cp_ok G1 hcp h Oz
        exact zU h1 (y8 hI hT hin G2 h2 Oz fun e'' F'' s'' m'' hm'' G4 h5=>hk e'' F'' s'' m'' Oz G4 h5)
       ·have:=con_ok (o:=o.op) (d:=o.dst) (ty:=o.type) (pos:=o.pos) (af:=o.after) (gd:=o.guard) hI hT G1 (Fine.fresh G.H.fine) G.H.fine.wfb (fun _ h=>h) hc h Oz
         (P:=fun F s=>xP Tryz.prog I ops l F s P) fun e' F' s' m' hm' G3 h4=>y8 hI hT hin G3 h4 Oz fun e'' F'' s'' m'' hm'' G4 h5=>hk e'' F'' s'' m'' Oz G4 h5
        exact this
      ·split at h
       ·refine qn ho hw ?_
        have:=inlD_ok (o:=o.op) (d:=o.dst) (ty:=o.type) (pos:=o.pos) (af:=o.after) (gd:=o.guard) hin G1 (Fine.fresh G.H.fine) G.H.fine.wfb (fun _ h=>h) h Oz
         (P:=fun F s=>xP Tryz.prog I ops l F s P) fun e' F' s' m' hm' G3 h4=>y8 hI hT hin G3 h4 Oz fun e'' F'' s'' m'' hm'' G4 h5=>hk e'' F'' s'' m'' Oz G4 h5
        exact this
       ·split at h
        ·refine qn ho hw ?_
         obtain⟨p,v,h1,h2,h3⟩:=pure_ok (s':={s with bar:=s.next}) G1.see (fun t x hop a ha hlt=>rfl) h
         obtain⟨e2,G2,h4⟩:=G1.set h2 h3
         exact zU h1 (y8 hI hT hin G2.good h4 Oz fun e' F' s' m' hm' G3 h5=>hk e' F' s' m' Oz G3 h5)
        ·cases h
    |new=>
     simp only at h
     split at h
     ·next hb=>
      simp only[Bool.and_eq_true,Bool.or_eq_true]at hb
      have hn:newOp o.op=true:=by
       rcases hb.1 with h|h<;>(revert h;cases o.op<;>intro h<;>first|rfl|(cases h;done))
      obtain⟨ob,v,h1,h2,h3⟩:=hnew h hn
      refine draw_newK ho hw (G.H.room (by rw[newOp_room hn]at hB;omega)) (h1 _ rfl) ?_ h3
      obtain⟨t,hd⟩:=Option.isSome_iff_exists.mp hb.2
      rcases h2 with⟨rfl,h2⟩|⟨h2,n,c,rfl⟩
      ·rcases hb.1 with hbs|hal
       ·rw[h2]at hbs;cases hbs
       ·unfold alOp at hal
        split at hal
        ·next hop=>
         unfold yp
         rw[hop]
         simp only[hd,qv,if_pos]
        ·cases hal
      ·unfold bsOp at h2
       split at h2
       ·next hop=>
        unfold yp
        rw[hop]
        simp only[hd,qv,if_pos]
       ·cases h2
     ·cases h
   ·refine draw_off ho hw ?_
    obtain⟨e2,G2,h2⟩:=G1.set (p:=.undef) (v:=undef) rfl h
    exact y8 hI hT hin G2.good h2 Oz fun e' F' s' m' hm' G3 h4=>hk e' F' s' m' Oz G3 h4
  ·cases h
end
end Go.Proofs.YtocnbjjmmgolfaaGreat
