/- The evaluator: functions; what it says of a function is so. -/
import Derived.Test.YtocnbjjmmgolfaaGreatA33
namespace Go.Proofs.YtocnbjjmmgolfaaGreat
open Go Go.M Go.Proofs.C14
section
variable{W:Wd}{Q:Qs}
theorem fillF_low:∀{l:List Value} {n t:Nat} {F:FF},t<n→fillF l n F t=F t
 | [],n,t,F,h=>rfl
 |v::l,n,t,F,h=>by
  simp only[fillF]
  rw[fillF_low Oz,qv,if_neg Oz]
theorem frame_slots:∀{ps:List Pv} {vs:List Value} {n:Nat} {F:FF},PsR W Q ps vs→SvF W Q (numS n ps) (fillF vs n F)
 | [],vs,n,F,h,p,hp=>by cases hp
 |q::ps,vs,n,F,⟨v,r,e,h1,h2⟩,p,hp=>by
  subst e
  simp only[fillF]
  rcases List.mem_cons.mp hp with rfl|hp
  ·rw[fillF_low Y8,qv,if_pos rfl];exact h1
  ·exact frame_slots h2 p hp
theorem unQs_ok:∀{ps:List Pv} {qs:List (Bool×List Lf)} {vs:List Value},PsR W Q ps vs→unQs ps=some qs→TsR W Q qs vs
 | [],qs,vs,h,hq=>by cases hq;exact h
 |p::ps,qs,vs,⟨v,r,e,h1,h2⟩,hq=>by
  simp only[unQs]at hq
  split at hq
  ·next q l hq1 hl=>cases hq;exact⟨v,r,e,unQ_ok h1 hq1,unQs_ok h2 hl⟩
  ·cases hq
end
section
variable{W:Wd}{s0 s:St}{C:Cx}{QL:Qs}{stk:List Fra}{e:En}{F:FF}{m:Nat}{Q:Qs}{O:List (Option MObj)}{L Φ:Hp'}
theorem res_ok(G:GX QL W s0 s C stk e F m Q O L Φ):∀{rs:List ResultVar} {ps:List Pv},resK C e rs=some ps→∃vs,qz Tryz.prog F s rs=some vs∧PsR (W.x Φ) Q ps vs
 | [],ps,h=>by cases h;exact⟨[],rfl,rfl⟩
 | .tmp t::rs,ps,h=>by
  simp only[resK]at h
  split at h
  ·next p l hp hl=>
   cases h
   obtain⟨vs,h1,h2⟩:=res_ok G hl
   exact⟨F t::vs,by simp only[qz,h1],F t,vs,rfl,G.ev (x:=.tmp t) hp,h2⟩
  ·cases h
 | .cell t ty::rs,ps,h=>by
  simp only[resK]at h
  split at h
  ·next j off l hp hl=>
   split at h
   ·next c ho=>
    split at h
    ·next p hc=>
     cases h
     obtain⟨vs,h1,h2⟩:=res_ok G hl
     obtain⟨q,hq,hx⟩:=G.ev (x:=.tmp t) hp
     have hx:=(List.cons.inj hx).1
     obtain⟨q',cs,tt,hq',_,hg,hls⟩:=G.see.cel _ _ ho
     rw[hq]at hq';cases hq'
     obtain⟨v,g1,g2⟩:=cut_ok hls hc
     have hload:loadV Tryz.prog ty (F t) s=some v:=by
      have hx:F t=.pointer (some ⟨q.2,off,none⟩):=hx
      simp only[loadV,hx,hg,g1]
     exact⟨v::vs,by simp only[qz,h1,hload],v,vs,rfl,g2,h2⟩
    ·cases h
   ·cases h
  ·cases h
end
theorem SvF.putS{W:Wd}{Q:Qs}{l:List (Nat×Pv)}{F:FF}{t:Nat}{p:Pv}{v:Value}(h:SvF W Q l F)(hp:PvR W Q p v):SvF W Q (putS l t p) (upd F (some t) v):=fun x hx=>by
 rcases List.mem_cons.mp hx with rfl|hx
 ·rw[qv,if_pos rfl];exact hp
 ·obtain⟨h1,h2⟩:=dropS_mem hx
  rw[qv,if_neg h2];exact h _ h1
theorem SvF.putPs{W:Wd}{Q:Qs}:∀{ts:List Nat} {ps:List Pv} {vs:List Value} {l:List (Nat×Pv)} {F:FF},SvF W Q l F→PsR W Q ps vs→ps.length=ts.length→SvF W Q (putPs ts ps l) (putF F ts vs)
 | [],[],vs,l,F,h,hp,_=>by rw[show vs=[]from hp];exact h
 |t::ts,p::ps,vs,l,F,h,⟨v,r,e,h1,h2⟩,hl=>by
  subst e
  exact SvF.putPs (ts:=ts) (h.putS h1) h2 (by simpa using hl)
section
variable{I:zT}{Γ:TypeId→Option Ty}{T:FuncId→Option Con}{Hs:FuncId→List Hi}{ρ:Type}{W:Wd}{s0:St}
theorem rnd_ok(hI:zQ I)(hT:ConI I T){inl:Inl ρ}{rc rc1:Nat}(hin:∀W s0,InlOK I W s0 inl rc1){j:Nat}{co:List Ob}{lent:Nat}{args:List Pv}{objs:List Ob}{k:Pv→List Ob→Option ρ}{r:ρ}(h:rndS Γ T rc rc1 inl j co lent args objs k=some r)
  {QL:Qs} {s:St} {stk:List Fra} {m:Nat} {Q:Qs} {O:List (Option MObj)} {L Φ:Hp'} {n:Nat} {F:FF} {vs:List Value} (G:GX QL W s0 s ⟨[],co,n,lent⟩ stk ⟨[],objs⟩ F m Q O L Φ) (hn:n=objs.length) (hps:PsR (W.x Φ) Q args vs) (hB:s0.next+(m+rc)≤z3)
  {Post:Value→St→Prop} (hP:∀p v o s' m' Q' O' L' Φ',m'≤m+rc→GX QL W s0 s' ⟨[],co,n,lent⟩ stk ⟨[],o⟩ F m' Q' O' L' Φ'→PvR (W.x Φ') Q' p v→k p o=some r→Post v s'):∃v s',Rets Tryz.prog I (rnum Q (zo+j)) ⟨vs⟩ s v s'∧Post v s':=by
 unfold rndS at h
 rw[zH,Nat.add_zero,←hn]at h
 split at h
 ·next N slots ps x y old hob hold=>
  split at h
  ·next hck=>
   simp only[Bool.and_eq_true]at hck
   obtain⟨⟨hlen,hlent⟩,hroom⟩:=hck
   have hlent:=Nat.le_of_ble_eq_true hlent
   have hroom:=Nat.le_of_ble_eq_true hroom
   have hlen:args.length=ps.length:=by
    have:=Nat.eq_of_beq_eq_true hlen
    rw[zH,zH]at this;omega
   obtain⟨q,o,hq,ho,hcode,fr,F0,rfl,ha,hs⟩:=G.at hob
   rw[rnum_rnd hq]
   have hnQ:Q.length=n:=by rw[hn];exact G.len.symm
   have hjn:j<n:=by rw[←hnQ];exact(List.getElem?_eq_some_iff.mp hq).1
   have hmem:=G.own j q _ hq ho hlent
   have hown:=G.H.own _ hmem
   obtain⟨A,B,hL⟩:=List.append_of_mem hmem
   have hpsi:∀f,f∈stk→∀p,p∈f.psi→p.1≠q.2:=fun f hf p hp=>G.dis j q _ p hlent hq ho ((G.stk f hf).2.2 hp)
   have G1:=G.frzNew hq ho hlent hL (s':=s) (o':=.loop {fr:=fr,params:=ps,assign:=x,body:=y,state:=.ready,pend:=none}) (by rw[←hL];exact G.H)
   have hw:WLe (W.x Φ) (W.x ((q.2,.loop {fr:=fr,params:=ps,assign:=x,body:=y,state:=.ready,pend:=none})::Φ)):=wx_up fun p hp=>List.mem_cons_of_mem _ hp
   have htake:Q.take n=Q:=by rw[←hnQ,List.take_length]
   have G2:=(G1.push (f:=⟨slots,F0,n,[(q.2,.loop {fr:=fr,params:=ps,assign:=x,body:=y,state:=.ready,pend:=none})]⟩) (Nat.le_refl _) (by rw[htake];exact hs.mono hw QLe.rfl) (fun p hp=>by
     rcases List.mem_cons.mp hp with rfl|hp
     ·exact List.mem_cons_self ..
     ·cases hp)).push (f:=⟨[(0,.one (.yl j))],fun _=>.func (.yield q.2) ⟨[]⟩ ⟨[]⟩,n,[]⟩) (Nat.le_refl _) (fun p hp=>by
     rcases List.mem_cons.mp hp with rfl|hp
     ·rw[htake];exact⟨q,hq,rfl⟩
     ·cases hp) (List.nil_subset _)
   have G3:GX QL W s0 s ⟨[],co,n,lent⟩ _ ⟨putPs ps args slots,zt objs j .dead⟩ (putF F0 ps vs) m Q (zt O j none) (A++(q.2,.loop {fr:=fr,params:=ps,assign:=x,body:=y,state:=.ready,pend:=none})::B) ((q.2,.loop {fr:=fr,params:=ps,assign:=x,body:=y,state:=.ready,pend:=none})::Φ):={G2 with
    slots:=SvF.putPs (hs.mono hw QLe.rfl) (PsR.mono hw QLe.rfl hps) hlen
    cslots:=fun _ h=>nomatch h}
   have hargs:Nat.beq (zY (⟨vs⟩:Array Value).toList 0) (zY ps 0)=true:=by
    have:=hps.len
    rw[zH,zH,show(⟨vs⟩:Array Value).toList=vs from rfl,this,hlen];exact Nat.beq_refl _
   refine round_of (N:=N) hown.1 ha (by rw[hcode.1];exact hargs) hcode.2.1 hcode.2.2 (code_ok (N:=N) hI hT hin x G3.good h Oz ?_ (fun i ki hki=>by cases hki) (fun e' F' s' m' _ _ h=>by cases h))
   intro e1 F1 s1 m1 hm1 ⟨Q1,O1,L1,Φ1,G4⟩ h1
   -- the record,as it was
   have hrec1:(q.2,MObj.loop {fr:=fr,params:=ps,assign:=x,body:=y,state:=.ready,pend:=none})∈Φ1:=(G4.stk _ (List.mem_cons_of_mem _ (List.mem_cons_self ..))).2.2 (List.mem_cons_self ..)
   have hown1:=G4.H.own _ (G4.fro hrec1)
   refine⟨_,hown1.2.2.1,hown1.1,rfl,?_⟩
   obtain⟨L2,G5⟩:=G4.reput Oz (lp':={fr:=fr,params:=ps,assign:=x,body:=y,state:=.busy,pend:=none}) hrec1
    (stk':=⟨[(0,.one (.yl j))],fun _=>.func (.yield q.2) ⟨[]⟩ ⟨[]⟩,n,[]⟩::⟨slots,F0,n,[(q.2,.loop {fr:=fr,params:=ps,assign:=x,body:=y,state:=.busy,pend:=none})]⟩::stk) (fun f hf=>by
     rcases List.mem_cons.mp hf with rfl|hf
     ·exact⟨_,List.mem_cons_self ..,rfl,rfl,rfl,fun p hp=>by cases hp⟩
     ·rcases List.mem_cons.mp hf with rfl|hf
      ·exact⟨_,List.mem_cons_of_mem _ (List.mem_cons_self ..),rfl,rfl,rfl,fun p hp=>by
        rcases List.mem_cons.mp hp with rfl|hp
        ·exact .inl rfl
        ·cases hp⟩
      ·exact⟨f,List.mem_cons_of_mem _ (List.mem_cons_of_mem _ hf),rfl,rfl,rfl,fun p hp=>.inr ⟨hp,hpsi f hf p hp⟩⟩)
   -- behind the body
   have fin:∀(F2:FF) (e2:En) (s2:St) (m2:Nat) (jump:Option Code) (st:LoopState) (ob:Ob),m2≤m+rc→qb QL W s0 s2 ⟨[],co,n,lent⟩ (⟨[(0,.one (.yl j))],fun _=>.func (.yield q.2) ⟨[]⟩ ⟨[]⟩,n,[]⟩::⟨slots,F0,n,[(q.2,.loop {fr:=fr,params:=ps,assign:=x,body:=y,state:=.busy,pend:=none})]⟩::stk) e2 F2 m2 →
     (st=match jump with|none=>.ready|some _=>.done)→k (.one (.bool jump.isNone)) (zt e2.objs j ob)=some r→(ob=old∧jump=none∨ob=.loop N [] ps x y st jump)→∃v s',endM q.2 jump s2=.ret v s'∧Post v s':=by
    intro F2 e2 s2 m2 jump st ob hm2 ⟨Q2,O2,L2',Φ2,G6⟩ hst hk hob'
    have hrec2:(q.2,MObj.loop {fr:=fr,params:=ps,assign:=x,body:=y,state:=.busy,pend:=none})∈Φ2:=(G6.stk _ (List.mem_cons_of_mem _ (List.mem_cons_self ..))).2.2 (List.mem_cons_self ..)
    have hown2:=G6.H.own _ (G6.fro hrec2)
    refine⟨_,_,by unfold endM;rw[hown2.2.2.1,hown2.1],?_⟩
    have hsl:=(G6.stk _ (List.mem_cons_of_mem _ (List.mem_cons_self ..))).2.1
    obtain⟨q2,hq2,hv2⟩:=(G6.stk _ (List.mem_cons_self ..)).2.1 _ (List.mem_cons_self ..)
    have hqn:q2.2=q.2:=by
     have:=(List.cons.inj hv2).1
     simp only[Value.func.injEq,Fn.yield.injEq]at this
     exact this.1.symm
    have hq2:Q2[j]? = some q2:=QLe.take _ _ hq2
    have hm6:=G6.H.most
    obtain⟨L3,G7⟩:=G6.pop.pop.reput Oz (lp':={fr:=fr,params:=ps,assign:=x,body:=y,state:=st,pend:=jump}) hrec2 (stk':=stk) (fun f hf=>⟨f,hf,rfl,rfl,rfl,fun p hp=>.inr ⟨hp,hpsi f hf p hp⟩⟩)
    have hw2:WLe (W.x Φ2) (W.x ((q.2,MObj.loop {fr:=fr,params:=ps,assign:=x,body:=y,state:=st,pend:=jump})::cutB q.2 Φ2)):=wx_cutB (G6.only hrec2) fun p hp=>List.mem_cons_of_mem _ hp
    have hold':jump=none→∀W' Q',WLe (W.x Φ2) W'→(Q'=Q2∨Q'=Q2.take n)→ObjR W' Q' (.loop N slots ps x y .ready none) q2 (some (.loop {fr:=fr,params:=ps,assign:=x,body:=y,state:=st,pend:=jump})):=by
     intro hj W' Q' hW' hQ'
     subst hj
     subst hst
     refine⟨hcode,fr,F0,rfl,ha,?_⟩
     rcases hQ' with rfl|rfl
     ·exact SvF.mono hW' QLe.take hsl
     ·exact SvF.mono hW' QLe.rfl hsl
    have G8:=G7.show (ob:=ob) (List.mem_cons_self ..) hq2 hqn hlent hpsi (fun W' hW'=>by
     rcases hob' with⟨rfl,hj⟩|rfl
     ·unfold En.obj at hob
      rw[hold]at hob
      cases ob with
      |const=>trivial
      |dead=>cases hob
      |_=>
       simp only[Option.some.injEq]at hob
       rw[hob]
       exact hold' hj W' Q2 (hw2.trans hW') (.inl rfl)
     ·exact⟨hcode,fr,F0,rfl,ha,fun _ h=>nomatch h⟩) (fun hc b' hb' W' hW'=>by
     rcases hob' with⟨rfl,hj⟩|rfl
     ·subst hc
      unfold En.obj at hob
      rw[hold]at hob
      simp only at hob hb'
      rw[zC]at hob
      rw[hob]at hb'
      cases hb'
      exact hold' hj W' _ (hw2.trans hW') (.inr rfl)
     ·cases hc)
    have G9:GX QL W s0 (s2.put q.2 (some (.loop {fr:=fr,params:=ps,assign:=x,body:=y,state:=st,pend:=jump}))) ⟨[],co,n,lent⟩ stk ⟨[],zt e2.objs j ob⟩ F m2 Q2 _ L3 _:={G8 with slots:=(fun _ h=>nomatch h),cslots:=(fun _ h=>nomatch h)}
    have:=hP (.one (.bool jump.isNone)) (.bool jump.isNone) _ _ m2 _ _ _ _ hm2 G9 rfl hk
    rw[hst]at this
    exact this
   refine code_ok (N:=N) hI hT hin y G5.good h1 Oz ?_ (fun i ki hki=>by cases hki) ?_
   ·intro e2 F2 s2 m2 hm2 G6 h2
    exact fin F2 e2 s2 m2 none .ready old Oz G6 rfl h2 (.inl ⟨rfl,rfl⟩)
   ·intro e2 F2 s2 m2 hm2 G6 h2
    exact fin F2 e2 s2 m2 (some .ret) .done _ Oz G6 rfl h2 (.inr rfl)
  ·cases h
 ·cases h
theorem fun_ok(hI:zQ I)(hT:ConI I T):∀(rs:List Nat) (W:Wd) (s0:St),InlOK I W s0 (funK (ρ:=ρ) Γ T Hs rs) (hdN rs):=by
 intro rs
 induction rs with
 |nil=>
  intro W s0 g co lent ps objs k r h
  cases h
 |cons rc rs ih=>
  intro W s0 g co lent ps objs k r h QL s stk m Q O L Φ n F vs G hn hps hB Post hP
  replace h:funS Γ T Hs rc (hdN rs) (funK Γ T Hs rs) g co lent ps objs k=some r:=h
  have hB:s0.next+(m+rc)≤z3:=hB
  have hP:∀p v o s' m' Q' O' L' Φ',m'≤m+rc→GX QL W s0 s' ⟨[],co,n,lent⟩ stk ⟨[],o⟩ F m' Q' O' L' Φ'→PvR (W.x Φ') Q' p v→k p o=some r→Post v s':=hP
  unfold funS at h
  cases hrn:Nat.ble zo g
  case true=>
   rw[hrn]at h
   simp only at h
   have:=rnd_ok (stk:=stk) hI hT ih h G hn hps hB hP
   rw[Nat.add_sub_cancel' (Nat.le_of_ble_eq_true hrn)]at this
   exact this
  rw[hrn]at h
  simp only at h
  rw[rnum_low hrn]
  split at h
  ·next fn hfn=>
   split at h
   ·next c hc=>
    split at h
    ·next hck=>
     simp only[Bool.and_eq_true,Bool.not_eq_true']at hck
     obtain⟨⟨⟨h1,h2⟩,_⟩,h4⟩:=hck
     have h3:=hrn
     have h4:=Nat.le_of_ble_eq_true h4
     have hI0:I g=none:=by
      refine hI g (fun e=>?_) (fun e=>?_)
      ·rw[e]at h2;cases h2
      ·have hb:Nat.blt g zo=true:=by
        rw[Nat.blt_eq]
        exact Nat.lt_of_not_le fun h=>by rw[Nat.ble_eq_true_of_le h]at h3;cases h3
       have:=Nat.le_of_ble_eq_true hb
       have h9:(1000000:Nat)=zo:=rfl
       rw[e,h9]at this
       exact Nat.not_succ_le_self _ this
     subst hn
     rw[zH,Nat.add_zero]at h h1
     refine call_of ps.length hI0 hfn hc h1 hps.len ?_ h3
     have G1:GX QL W s0 s ⟨[],co,objs.length,lent⟩ stk ⟨numS 0 ps,objs⟩ (frameOf ⟨vs⟩) m Q O L Φ:={G with slots:=frame_slots hps,cslots:=(fun _ h=>nomatch h)}
     have hend:∀e' F' s' m',m'≤m+yN T (hdN rs) c (Hs g)→qb QL W s0 s' ⟨[],co,objs.length,lent⟩ stk e' F' m'→endK ⟨[],co,objs.length,lent⟩ fn.results.toList e' k=some r→endQ Tryz.prog fn.results.toList Post F' s':=by
      intro e' F' s' m' hm ⟨Q',O',L',Φ',G'⟩ h
      unfold endK at h
      have Ge:GX QL W s0 s' ⟨[],co,objs.length,lent⟩ stk ⟨[],e'.objs⟩ F m' Q' O' L' Φ':={G' with slots:=(fun _ h=>nomatch h),cslots:=(fun _ h=>nomatch h)}
      constructor
      split at h
      ·next p hp=>
       obtain⟨us,g1,v,r1,rfl,g2,g3⟩:=res_ok G' hp
       rw[show r1=[]from g3]at g1
       rw[g1]
       exact hP p v _ s' m' _ _ _ _ Oz Ge g2 h
      ·next l hnl hl=>
       split at h
       ·next q hq=>
        obtain⟨us,g1,g2⟩:=res_ok G' hl
        rw[g1]
        have g3:=hP (.tup q) (.tuple ⟨us⟩) _ s' m' _ _ _ _ Oz Ge ⟨us,rfl,unQs_ok g2 hq⟩ h
        have hul:=g2.len
        cases us with
        |nil=>exact g3
        |cons u us=>cases us with
         |nil=>
          cases l with
          |nil=>simp at hul
          |cons a l=>cases l with
           |nil=>exact(hnl a rfl).elim
           |cons b l=>simp at hul
         |cons u2 us=>exact g3
       ·cases h
      ·cases h
     refine code_ok (rc:=hdN rs) hI hT ih c G1.good h Oz ?_ (fun i ki hki=>by cases hki) ?_
     ·intro e' F' s' m' hm G' h';exact nrm_end (hend e' F' s' m' hm G' h')
     ·intro e' F' s' m' hm G' h';exact ret_end (hend e' F' s' m' hm G' h')
    ·cases h
   ·cases h
  ·cases h
end
def okTs:List Ty→Bool
 | []=>true
 |a::l=>a.okT&&okTs l
theorem toPs_ok{W:Wd}{Q:Qs}:∀{ar:List Ty} {vs:List Value} {x:Tp ar},okTs ar=true→VsR W ar vs x→PsR W Q (toPs ar x) vs
 | [],vs,x,ht,h=>h
 | [a],vs,x,ht,⟨v,e,h⟩=>by simp only[okTs,Bool.and_eq_true]at ht;exact⟨v,[],e,toP_ok h ht.1,rfl⟩
 |a::b::l,vs,x,ht,⟨v,r,e,h,h2⟩=>by
  rw[okTs,Bool.and_eq_true]at ht
  exact⟨v,r,e,toP_ok h ht.1,toPs_ok ht.2 h2⟩
theorem VsR.mono{W W':Wd}(hw:WLe W W'):∀{ar:List Ty} {vs:List Value} {x:Tp ar},VsR W ar vs x→VsR W' ar vs x
 | [],vs,x,h=>h
 | [a],vs,x,⟨v,e,h⟩=>⟨v,e,h.mono hw⟩
 |a::b::l,vs,x,⟨v,r,e,h,h2⟩=>⟨v,r,e,h.mono hw,VsR.mono (ar:=b::l) hw h2⟩
theorem zKI_ok{I:zT}(hI:zQ I){Γ:TypeId→Option Ty}{T:FuncId→Option Con}{Hs:FuncId→List Hi}(hT:ConI I T){rs:List Nat}{g:FuncId}{ar:List Ty}{τ:Ty}(ht:okTs ar=true):DecI I g (hdN rs) ar τ (zK Γ T Hs rs g ar τ):=by
 intro s hf W hW vs x hx r hz hroom
 have G:GX [] W s s ⟨[],[],0,0⟩ [] ⟨[],[]⟩ (fun _=>undef) 0 [] [] [] []:=
  {K:=hW,H:=hf.hl,oq:=rfl,len:=rfl,cn:=Nat.le_refl _,ln:=Nat.le_refl _,pre:=(fun i h=>by cases h),fro:=List.nil_subset _
   own:=fun i q o h=>by cases h
   lent:=fun i q o h=>by cases h
   inj:=fun i j q r o o' h=>by cases h
   dis:=fun i q o p _ h=>by cases h
   obj:=fun i b q o h=>by cases h
   cob:=fun i b q o h=>by cases h
   slots:=fun _ h=>nomatch h
   cslots:=fun _ h=>nomatch h
   stk:=fun _ h=>nomatch h}
 rw[←show rnum [] g=g from by unfold rnum;split<;>rfl]
 refine fun_ok (Γ:=Γ) (Hs:=Hs) hI hT rs W s hz G rfl (toPs_ok ht (hx.mono wx_old)) Oz ?_
 intro p v o s' m' Q' O' L' Φ' hm G' hp hout
 unfold outP at hout
 split at hout
 ·next t p' o' hf'=>
  have G1:GX [] W s s' ⟨[],[],0,0⟩ [] ⟨[(0,p)],o⟩ (fun _=>v) m' Q' O' L' Φ':={G' with slots:=(fun x hx=>by rcases List.mem_cons.mp hx with rfl|hx;exact hp;cases hx),cslots:=(fun _ h=>nomatch h)}
  obtain⟨O1,Φ1,G2⟩:=G1.frzP hf'
  have hv:=readP_ok (G2.slots _ (List.mem_cons_self ..)) hout
  exact⟨L',G2.H.up Oz,hv.mono (wx_up G2.fro)⟩
 ·cases hout
theorem zK_ok{Γ:TypeId→Option Ty}{T:FuncId→Option Con}{Hs:FuncId→List Hi}(hT:ConOK T){rs:List Nat}{g:FuncId}{ar:List Ty}{τ:Ty}(ht:okTs ar=true):DecL g (hdN rs) ar τ (zK Γ T Hs rs g ar τ):=
 fun _ hI=>zKI_ok hI (hT.i hI) ht
def zj(T:FuncId→Option Con)(f:FuncId)(c:Con):FuncId→Option Con:=fun g=>match Nat.beq f g with
 |true=>some c
 |false=>T g
theorem ConOK.add{T:FuncId→Option Con}(hT:ConOK T){f:FuncId}{c:Con}(h:DecL f c.room c.ar c.res c.fn):ConOK (zj T f c):=by
 intro g con hg
 unfold zj at hg
 split at hg
 ·next hb=>cases hg;rw[←Nat.eq_of_beq_eq_true hb];exact h
 ·exact hT g con hg
theorem ConOK.next{Γ:TypeId→Option Ty}{T:FuncId→Option Con}{Hs:FuncId→List Hi}(hT:ConOK T){rs:List Nat}{g:FuncId}{ar:List Ty}{τ:Ty}{z:Tp ar→Option τ.T}(ht:okTs ar=true)(he:∀x,zK Γ T Hs rs g ar τ x=z x):ConOK (zj T g ⟨ar,τ,hdN rs,z⟩):=
 hT.add (by rw[←show zK Γ T Hs rs g ar τ=z from funext he];exact zK_ok hT ht)
theorem ConI.add{I:zT}{T:FuncId→Option Con}(hT:ConI I T){f:FuncId}{c:Con}(h:DecI I f c.room c.ar c.res c.fn):ConI I (zj T f c):=by
 intro g con hg
 unfold zj at hg
 split at hg
 ·next hb=>cases hg;rw[←Nat.eq_of_beq_eq_true hb];exact h
 ·exact hT g con hg
theorem ConI.next{I:zT}(hI:zQ I){Γ:TypeId→Option Ty}{T:FuncId→Option Con}{Hs:FuncId→List Hi}(hT:ConI I T){rs:List Nat}{g:FuncId}{ar:List Ty}{τ:Ty}{z:Tp ar→Option τ.T}(ht:okTs ar=true)(he:∀x,zK Γ T Hs rs g ar τ x=z x):ConI I (zj T g ⟨ar,τ,hdN rs,z⟩):=
 hT.add (by rw[←show zK Γ T Hs rs g ar τ=z from funext he];exact zKI_ok hI hT ht)
def livesG:Option Bool:=some true
theorem ConOK.nil:ConOK fun _=>none:=fun _ _ h=>nomatch h
def hsF(l:List (Nat×List Hi))(g:FuncId):List Hi:=match find l g with
 |some h=>h
 |none=>[]
abbrev i6:Ty:=.int .i64
abbrev hi(a b:List Nat)(c:List (Nat×Bool×List LS))(d:List (Nat×List LS))(e:List OwnS)(f:List Ty)(g:Nat):Hi:={frz:=a,cst:=b,vars:=c,objs:=d,own:=e,ts:=f,fuel:=g}
end Go.Proofs.YtocnbjjmmgolfaaGreat
