/- Loops over functions: marks at a function's end; a round. -/
/- The abstract machine is sound. -/
/- A call that was run in a small state of its own stands for a call in any state that holds the small one. -/
/- A table of calls that were run once: what they return is laid into any state. -/
import Derived.Test.YtocnbjjmmgolfaaGreatA06
namespace Go.M
section
variable{P:Program}{F:Fence}{n:Nat}{Q:Exit→Act→World→Prop}{a:Act}{w:World}
theorem jv{b:Frame}{k:List Item}{cs:List Frame}{c:Code}:step P (lone (b.atR a (.code (.scope c)::k)) cs w)=.next (lone (b.atR a (.code c::.inScope c::k)) cs w):=
 step_lone_go (by simp[stepG,stepG.exec,Frame.atR])
theorem stepR_inScope{b:Frame}{k:List Item}{cs:List Frame}{c:Code}:step P (lone (b.atR a (.inScope c::k)) cs w)=.next (lone (b.atR a k) cs w):=
 step_lone_go (by simp[stepG,stepG.exec,Frame.atR])
theorem wpIn_scope{c:Code}(h:c.wpIn F n P (Exit.noGoto Q) a w):(Code.scope c).wpIn F n P Q a w:=by
 intro b k cs hro hb hr
 have h0:(lone (b.atR a (.code (.scope c)::k)) cs w).fenced P F:=fenced_calm hb hr rfl
 obtain⟨e,a₁,w₁,hq,harr⟩:=h b (.inScope c::k) cs hro hb hr
 cases e with
 |normal=>exact⟨.normal,a₁,w₁,hq,.head h0 jv (StepsIn.trans harr (.one (fenced_calm (fr:=b.atR a₁ (.inScope c::k)) hb hr rfl) stepR_inScope))⟩
 |exit id=>
  refine⟨.exit id,a₁,w₁,hq,fun k' hk=>.head h0 jv (harr.1 k' (by simp[exitTo,hk])),fun hx hk=>?_⟩
  obtain⟨k₁,h1,h2⟩:=harr.2 hx (by simp[exitTo,hk])
  exact⟨k₁,h1,.head h0 jv h2⟩
 |goto l=>exact hq.elim
 |ret=>exact⟨_,a₁,w₁,hq,.of_steps (.one h0 jv) harr⟩
 |panic ch=>exact⟨_,a₁,w₁,hq,.of_steps (.one h0 jv) harr⟩
 |outgrown=>exact⟨_,a₁,w₁,hq,.of_steps (.one h0 jv) harr⟩
end
section
variable{P:Program}
theorem Ext.alloc{β:Ren}{s:St}{w:World}(h:Rel P β s w)(o:Obj):Ext P β s w β s (w.alloc o):=by
 have keep:∀r,r<w.heap.size→(w.alloc o).heap[r]? = w.heap[r]? :=fun r hr=>by
  show(w.heap.push o)[r]? = _
  rw[Array.getElem?_push,if_neg O]
 have hsz:(w.alloc o).heap.size=w.heap.size+1:=by show(w.heap.push o).size=_;simp
 exact{
  rel:=⟨fun b m hb hlt=>by have:=h.img b m hb hlt;omega,fun b m o hb hlt hg=>by rw[keep _ (h.img b m hb hlt)];exact h.obj b m o hb hlt hg,h.inj,h.room,h.top⟩
  le:=Ren.le_refl β
  dom:=fun b m h h'=>by rw[h']at h;cases h
  next:=Nat.le_refl _
  bar:=rfl
  prot:=rfl
  size:=by omega
  out:=fun r hr _=>keep r hr
  same:=fun _ _ _=>rfl
  dead:=fun _ _ h=>h
  fresh:=fun b m h h'=>by rw[h']at h;cases h
  os:=rfl
  output:=rfl
  tape:=rfl}
structure Shut(lo:Nat)(β:Ren)(s:St)(w w':World):Prop where
 size:w'.heap.size=w.heap.size
 low:∀r,r<lo→w'.heap[r]? = w.heap[r]?
 img:∀b m,β b=some m→b<s.next→w'.heap[m.blk]? = w.heap[m.blk]?
 os:w'.os=w.os
 output:w'.output=w.output
 tape:w'.tape=w.tape
theorem Shut.refl(lo:Nat)(β:Ren)(s:St)(w:World):Shut lo β s w w:=⟨rfl,fun _ _=>rfl,fun _ _ _ _=>rfl,rfl,rfl,rfl⟩
theorem Shut.rel{lo:Nat}{β:Ren}{s:St}{w w':World}(h:Shut lo β s w w')(hr:Rel P β s w):Rel P β s w':=
 ⟨fun b m hb hlt=>by rw[h.size];exact hr.img b m hb hlt,fun b m o hb hlt hg=>by rw[h.img b m hb hlt];exact hr.obj b m o hb hlt hg,hr.inj,hr.room,hr.top⟩
theorem Ext.shut{β β':Ren}{s s':St}{w w' w'':World}(h:Ext P β s w β' s' w')(hs:Shut w.heap.size β' s' w' w''):Ext P β s w β' s' w'' where
 rel:=hs.rel h.rel
 le:=h.le
 dom:=h.dom
 next:=h.next
 bar:=h.bar
 prot:=h.prot
 size:=by rw[hs.size];exact h.size
 out:=fun r hr hno=>by rw[hs.low r hr];exact h.out r hr hno
 same:=h.same
 dead:=h.dead
 fresh:=h.fresh
 os:=hs.os.trans h.os
 output:=hs.output.trans h.output
 tape:=hs.tape.trans h.tape
theorem leaves_marks{fn:Func}{tmps:Array Value}{R:Ending→World→Prop}{u:FrameMode}{lo:Nat}{β:Ren}{s:St}(hu:u≠.run):∀(ds:List Deferred) (w:World),Marks lo β s w ds →
  (∀w',Shut lo β s w w'→LeavesIn (FW none) 0 P fn tmps R [] u w')→LeavesInM (FW none) 0 P fn tmps R ds u w
 | [],w,_,h=>h w (Shut.refl lo β s w)
 |d::ds,w,⟨⟨r,h1,h0,h2,h3,h4⟩,hr⟩,h=>by
  have hlt:r<w.heap.size:=(Array.getElem?_eq_some_iff.1 h2).1
  refine⟨hu,.inl ⟨r,w.putObj r (.deferred none),by rw[h1],run_takeDeferred h2,?_⟩⟩
  have hother:∀k,k≠r→(w.putObj r (.deferred none)).heap[k]? = w.heap[k]? :=fun k hk=>World.putObj_heap_other hk
  refine leaves_marks (lo:=lo) (β:=β) (s:=s) hu ds _ ?_ fun w' hs=>h w' ?_
  ·clear h
   induction ds with
   |nil=>trivial
   |cons d' ds ih=>
    obtain⟨⟨r',g1,g0,g2,g3,g4⟩,gr⟩:=hr
    refine⟨⟨r',g1,g0,?_,g3,g4⟩,ih (fun d'' hd=>h4 d'' (by simp[hd])) gr⟩
    rw[hother r' fun e=>h4 d' Y8 (by rw[g1,e])]
    exact g2
  ·exact⟨by rw[hs.size];simp,fun k hk=>by rw[hs.low k hk];exact hother k O,fun b m hb hbn=>by rw[hs.img b m hb hbn];exact hother _ (h3 b m hb hbn),hs.os,hs.output,hs.tape⟩
theorem putAll_rel{β:Ren}:∀(ps:List Tmp) (vs vs':List Value) (a:Fr) (t':Array Value) (ds:List Deferred),LRel P β vs vs'→FRel P β a {tmps:=t',defers:=ds} →
  FRel P β (a.putAll ps vs) {tmps:=(ps.zip vs').foldl (fun tmps x=>tmps.setIfInBounds x.1 x.2) t',defers:=ds}
 | [],_,_,a,t',ds,_,h=>by simpa[Fr.putAll]using h
 |p::ps,[],_,a,t',ds,hv,h=>by cases hv;simpa[Fr.putAll]using h
 |p::ps,v::vs,_,a,t',ds,hv,h=>by
  cases hv with
  | @cons _ v' _ vs' h1 h2=>
   simp only[Fr.putAll,List.zip_cons_cons,List.foldl_cons]
   exact putAll_rel ps vs vs' _ _ ds h2 (h.put (some p) h1)
theorem roundT_eq(r:Loop)(args:Array Value):roundT r args=(r.params.toList.zip args.toList).foldl (fun tmps x=>tmps.setIfInBounds x.1 x.2) r.tmps:=by
 unfold roundT
 rw[←Array.foldl_toList,Array.toList_zip]
theorem Ext.putLoop{β:Ren}{s:St}{w:World}(h:Rel P β s w){b:Nat}{m:Img}(hb:β b=some m)(hm:s.may b=true){lp:Lp}(hg:s.get b=some (.loop lp)){lp':Lp}{r r':Loop}
  (hw:w.heap[m.blk]? = some (.loop r)) (ho:ORel P β m (.loop lp') (.loop r')):Ext P β s w β (s.put b (some (.loop lp'))) (w.putObj m.blk (.loop r')):=by
 have hlt:m.blk<w.heap.size:=(Array.getElem?_eq_some_iff.1 hw).1
 exact Ext.write h hb hm hg _ Y8 (fun q hq=>World.putObj_heap_other hq) ⟨_,World.putObj_heap_same hlt,ho⟩ rfl rfl rfl
theorem Rel.loop{β:Ren}{s:St}{w:World}(h:Rel P β s w){b:Nat}{m:Img}(hb:β b=some m){lp:Lp}(hg:s.get b=some (.loop lp)) :
  ∃r,w.heap[m.blk]? = some (.loop r)∧TRel P β lp.fr r.tmps∧r.params.toList=lp.params∧r.assign=lp.assign∧r.body=lp.body∧r.state=lp.state∧r.pending=lp.pend:=by
 obtain⟨o',h1,h2⟩:=h.obj b m _ hb (h.lt hg) hg
 cases h2 with
 | @loop _ r hft hp hA hB hs hj=>exact⟨r,h1,hft,hp,hA,hB,hs,hj⟩
theorem endM_sound{β:Ren}{s:St}{w:World}(h:Rel P β s w){b:Nat}{m:Img}(hb:β b=some m){j:Option Code}(hne:endM b j s≠.stuck) :
  ∃v w' s',endM b j s=.ret v s'∧s'.next=s.next∧(Instr.endRound m.blk j).run P w=.ok v w'∧Ext P β s w β s' w'∧VRel P β v v:=by
 unfold endM at hne ⊢
 split at hne
 ·rename_i lp hm hg
  obtain⟨r,h1,hft,hp,hA,hB,hs,hj⟩:=h.loop hb hg
  cases j with
  |none=>
   have hx:Ext P β s w β (s.put b (some (.loop {lp with state:=.ready,pend:=none}))) (w.putObj m.blk (.loop {r with state:=.ready,pending:=none})):=
    Ext.putLoop h hb hm hg h1 (.loop hft hp hA hB rfl rfl)
   exact⟨_,_,_,rfl,rfl,run_endRound none h1,hx,.bool _⟩
  |some c=>
   have hx:Ext P β s w β (s.put b (some (.loop {lp with state:=.done,pend:=some c}))) (w.putObj m.blk (.loop {r with state:=.done,pending:=some c})):=
    Ext.putLoop h hb hm hg h1 (.loop hft hp hA hB rfl rfl)
   exact⟨_,_,_,rfl,rfl,run_endRound (some c) h1,hx,.bool _⟩
 ·exact(hne rfl).elim
theorem endM_ret{b:Nat}{j:Option Code}{s:St}(hne:endM b j s≠.stuck):∃v s',endM b j s=.ret v s'∧s'.next=s.next:=by
 unfold endM at hne ⊢
 split at hne
 ·exact⟨_,_,rfl,rfl⟩
 ·exact(hne rfl).elim
theorem round_sound{code:Code→Fr→St→Out}(hnx:∀c a s,(code c a s).nextLe s)(hcode:CodeS P code){b:Nat}{args args':Array Value}{s:St}{β:Ren}{w:World}{m:Img}{r:Loop}
  (h:Rel P β s w) (ha:LRel P β args.toList args'.toList) (hb:β b=some m) (hw:w.heap[m.blk]? = some (.loop r)) (hne:roundM code b args s≠.stuck) (hfree:(roundM code b args s).free β s) :
  RoundIn Fence.wide 0 P m.blk r.fn (roundT r args') r.assign r.body w (CallP P β s w (roundM code b args s)):=by
 unfold roundM at hne hfree ⊢
 cases hg:s.get b with
 |none=>rw[hg]at hne;exact(hne rfl).elim
 |some o=>
  cases o with
  |cells c e=>rw[hg]at hne;exact(hne rfl).elim
  |map es c=>rw[hg]at hne;exact(hne rfl).elim
  |loop lp=>
   rw[hg]at hne hfree
   simp only at hne hfree ⊢
   obtain⟨r',h1,hft,hp,hA,hB,hs,hj⟩:=h.loop hb hg
   rw[hw]at h1;cases h1
   cases hck:vK lp.assign&&vK lp.body&&flatC lp.assign&&flatC lp.body&&Nat.beq (ks args.toList 0) (ks lp.params 0)with
   |false=>rw[hck]at hne;exact(hne rfl).elim
   |true=>
    rw[hck]at hne hfree
    simp only at hne hfree ⊢
    simp only[Bool.and_eq_true]at hck
    obtain⟨⟨⟨⟨c1,c2⟩,c3⟩,c4⟩,c5⟩:=hck
    have hfr:FRel P β (lp.fr.putAll lp.params args.toList) {tmps:=roundT r args',defers:=[]}:=by
     rw[roundT_eq,hp]
     exact putAll_rel _ _ _ _ _ _ ha (hft.frel [])
    refine roundIn_of_wpIn (F:=Fence.wide) trivial ?_
    have hn1:=hnx lp.assign (lp.fr.putAll lp.params args.toList) s
    have hw1:=fun x y=>hcode lp.assign _ _ s β w 0 (some m.blk) c1 (.inr c3) h hfr trivial (Nat.zero_le _) x y
    rw[hA,hB]
    cases hr:code lp.assign (lp.fr.putAll lp.params args.toList) s with
    |stuck=>rw[hr]at hne;exact(hne rfl).elim
    |exit id a₁ s₁=>rw[hr]at hne;exact(hne rfl).elim
    |ret a₁ s₁=>rw[hr]at hne;exact(hne rfl).elim
    |panic ch a₁ s₁=>rw[hr]at hne;exact(hne rfl).elim
    |normal a₁ s₁=>
     rw[hr]at hne hfree hw1 hn1
     simp only at hne hfree ⊢
     have hn1:s.next≤s₁.next:=hn1
     cases hmay:s₁.may b with
     |false=>rw[hmay]at hne;exact(hne rfl).elim
     |true=>
      rw[hmay]at hne hfree
      cases hg1:s₁.get b with
      |none=>rw[hg1]at hne;exact(hne rfl).elim
      |some o=>
       cases o with
       |cells c e=>rw[hg1]at hne;exact(hne rfl).elim
       |map es c=>rw[hg1]at hne;exact(hne rfl).elim
       |loop lp'=>
        rw[hg1]at hne hfree
        simp only at hne hfree ⊢
        cases hst:lp'.state with
        |busy=>rw[hst]at hne;exact(hne rfl).elim
        |done=>rw[hst]at hne;exact(hne rfl).elim
        |exhausted=>rw[hst]at hne;exact(hne rfl).elim
        |ready=>
         rw[hst]at hne hfree
         simp only at hne hfree ⊢
         have hn2:=hnx lp.body a₁ (s₁.put b (some (.loop {lp' with state:=.busy})))
         -- the end of the body
         have fin:∀(j:Option Code) (s₂:St) (β₂:Ren) (w₂ w₃:World),s₁.next≤s₂.next→Free β s s₂→Ext P β s w β₂ s₂ w₃→endM b j s₂≠.stuck →
           ∃v w',(Instr.endRound m.blk j).run P w₃=.ok v w'∧CallP P β s w (endM b j s₂) (.returned v) w':=by
          intro j s₂ β₂ w₂ w₃ _ hf hx hne
          obtain⟨v,w',s',e1,e2,e3,e4,e5⟩:=endM_sound hx.rel (hx.le b m hb) hne
          refine⟨v,w',e3,?_⟩
          rw[e1]
          exact⟨β₂,v,rfl,hx.trans e4 (fun k l u=>hf k l (by rw[e2]at u;exact u)),e5⟩
         have hfree1:Free β s s₁∧∀s₂,(code lp.body a₁ (s₁.put b (some (.loop {lp' with state:=.busy})))=.normal a₁ s₂→True):=⟨?_,fun _ _=>trivial⟩
         ·refine wpIn_mono (hw1 Y8 hfree1.1) fun e a₂ w₁ ho=>?_
          obtain⟨rfl,β₁,hx,hf2,hmk⟩:=ho
          obtain⟨r₁,g1,gft,gp,gA,gB,gs,gj⟩:=hx.rel.loop (hx.le b m hb) hg1
          refine⟨_,run_beginRound g1 (by rw[gs,hst]),?_⟩
          have hx2:Ext P β₁ s₁ w₁ β₁ (s₁.put b (some (.loop {lp' with state:=.busy}))) (w₁.putObj m.blk (.loop {r₁ with state:=.busy})):=
           Ext.putLoop hx.rel (hx.le b m hb) hmay hg1 g1 (.loop gft gp gA gB rfl gj)
          have hx12:=hx.trans hx2 hfree1.1
          have hmk2:Marks 0 β₁ (s₁.put b (some (.loop {lp' with state:=.busy}))) (w₁.putObj m.blk (.loop {r₁ with state:=.busy})) a₂.defers:=hmk.ext hx2 (fun k l u=>by
           have u:k<s₁.next:=u
           omega)
          have hw2:=fun x y=>hcode lp.body a₁ a₂ _ β₁ _ 0 (some m.blk) c2 (.inr c4) hx2.rel hf2 hmk2 (Nat.zero_le _) x y
          cases hr2:code lp.body a₁ (s₁.put b (some (.loop {lp' with state:=.busy})))with
          |stuck=>rw[hr2]at hne;exact(hne rfl).elim
          |panic ch a₃ s₂=>rw[hr2]at hne;exact(hne rfl).elim
          |normal a₃ s₂=>
           rw[hr2]at hne hfree hw2 hn2
           simp only at hne hfree ⊢
           have hn2:s₁.next≤s₂.next:=hn2
           have hfr2:Free β s s₂:=by
            obtain⟨v,s',e1,e2⟩:=endM_ret hne
            rw[e1]at hfree
            exact fun k l u=>hfree k l (by rw[e2];exact u)
           refine wpIn_mono (hw2 Y8 (hx12.freeOf hfr2)) fun e a₄ w₃ ho=>?_
           obtain⟨rfl,β₂,hx3,_,_⟩:=ho
           exact fin none s₂ β₂ w₁ w₃ hn2 hfr2 (hx12.trans hx3 hfr2) hne
          |exit id a₃ s₂=>
           rw[hr2]at hne hfree hw2 hn2
           simp only at hne hfree ⊢
           have hn2:s₁.next≤s₂.next:=hn2
           have hfr2:Free β s s₂:=by
            obtain⟨v,s',e1,e2⟩:=endM_ret hne
            rw[e1]at hfree
            exact fun k l u=>hfree k l (by rw[e2];exact u)
           refine wpIn_mono (hw2 Y8 (hx12.freeOf hfr2)) fun e a₄ w₃ ho=>?_
           obtain⟨rfl,β₂,hx3,_,_⟩:=ho
           exact fin (some (.exit id)) s₂ β₂ w₁ w₃ hn2 hfr2 (hx12.trans hx3 hfr2) hne
          |ret a₃ s₂=>
           rw[hr2]at hne hfree hw2 hn2
           simp only at hne hfree ⊢
           have hn2:s₁.next≤s₂.next:=hn2
           have hfr2:Free β s s₂:=by
            obtain⟨v,s',e1,e2⟩:=endM_ret hne
            rw[e1]at hfree
            exact fun k l u=>hfree k l (by rw[e2];exact u)
           refine wpIn_mono (hw2 Y8 (hx12.freeOf hfr2)) fun e a₄ w₃ ho=>?_
           obtain⟨rfl,β₂,hx3,_,_⟩:=ho
           exact fin (some .ret) s₂ β₂ w₁ w₃ hn2 hfr2 (hx12.trans hx3 hfr2) hne
         ·cases hr2:code lp.body a₁ (s₁.put b (some (.loop {lp' with state:=.busy})))with
          |stuck=>rw[hr2]at hne;exact(hne rfl).elim
          |panic ch a₃ s₂=>rw[hr2]at hne;exact(hne rfl).elim
          |_=>
           rw[hr2]at hne hfree hn2
           simp only at hne hfree
           obtain⟨v,s',e1,e2⟩:=endM_ret hne
           rw[e1]at hfree
           have hn2:s₁.next≤_:=hn2
           exact fun k l u=>hfree k l (by rw[e2];exact Nat.lt_of_lt_of_le u hn2)
end
end Go.M
namespace Go.M
section
variable{P:Program}{I:xP}
theorem bodyM_sound{code:Code→Fr→St→Out}(hcode:CodeS P code){f:FuncId}{fn:Func}{c:Code}(hfn:P.funcs[f]? = some fn)(hb:fn.body=some c){args args':Array Value}{s:St}{β:Ren}{w:World}
  (h:Rel P β s w) (ha:LRel P β args.toList args'.toList) (hne:bodyM P code fn c args s≠.stuck) (hfree:(bodyM P code fn c args s).free β s):Calls P f args' w (CallP P β s w (bodyM P code fn c args s)):=by
 unfold bodyM at hne hfree ⊢
 cases hck:Nat.ble (ks args.toList 0) fn.ntmps&&Nat.ble fn.ntmps 65534&&vK c with
 |false=>rw[hck]at hne;exact(hne rfl).elim
 |true=>
  rw[hck]at hne hfree
  simp only at hne hfree ⊢
  simp only[Bool.and_eq_true,Nat.ble_eq,vB]at hck
  obtain⟨⟨hl1,hl2⟩,hcb⟩:=hck
  have hfr:=FRel.make (n:=fn.ntmps) ha O hl2
  have hw:=fun h1 h2=>hcode c (Fr.make args fn.ntmps) _ s β w w.heap.size none hcb (.inl rfl) h hfr trivial Z3 h1 h2
  refine(callsFW (ro:=none) (n:=0)).1 (callsIn_of_wp_marks hfn hb trivial ?_)
  -- a function's end
  have fin:∀(a₁:Fr) (s₁:St) (a₂:Act) (w₂:World) (β':Ren),finish P fn a₁ s₁≠.stuck→(finish P fn a₁ s₁).free β s→Ext P β s w β' s₁ w₂→FRel P β' a₁ a₂→Marks w.heap.size β' s₁ w₂ a₂.defers →
    LeavesInM (FW none) 0 P fn a₂.tmps (CallP P β s w (finish P fn a₁ s₁)) a₂.defers .returning w₂:=by
   intro a₁ s₁ a₂ w₂ β' hne hfree hx hf2 hmk
   refine leaves_marks Y8 a₂.defers w₂ hmk fun w₃ hs=>?_
   cases hfin:finish P fn a₁ s₁ with
   |stuck=>exact(hne hfin).elim
   |panic c' s'=>
    exfalso
    unfold finish at hfin
    (repeat' split at hfin)<;>cases hfin
   |ret v s'=>
    have e1:s'=s₁:=by
     unfold finish at hfin
     (repeat' split at hfin)<;>cases hfin<;>rfl
    subst e1
    have hx2:=hx.shut hs
    obtain⟨_,v',g1,g2⟩:=finish_sound hx2.rel hf2 hfin
    exact⟨v',g1,β',v',rfl,hx2,g2⟩
  have finOK:∀(a₁:Fr) (s₁:St),finish P fn a₁ s₁≠.stuck→(finish P fn a₁ s₁).free β s→Free β s s₁:=by
   intro a₁ s₁ hne hfree
   unfold finish at hne hfree
   cases hq:vM P a₁ s₁ fn.results.toList with
   |none=>rw[hq]at hne;exact(hne rfl).elim
   |some l=>
    rw[hq]at hfree
    rcases l with _|⟨v,_|⟨v2,l⟩⟩<;>exact hfree
  cases hr:code c (Fr.make args fn.ntmps) s with
  |stuck=>rw[hr]at hne;exact(hne rfl).elim
  |exit id a₁ s₁=>rw[hr]at hne;exact(hne rfl).elim
  |panic ch a₁ s₁=>
   rw[hr]at hfree hw
   simp only at hfree ⊢
   refine wpIn_mono (hw Y8 hfree) fun e a₂ w₂ ho=>?_
   obtain⟨ch',β',rfl,hx,hch,hd⟩:=ho
   exact leaves_marks Y8 a₂.defers w₂ hd fun w₃ hs=>⟨β',ch',rfl,hx.shut hs,hch⟩
  |normal a₁ s₁=>
   rw[hr]at hfree hw hne
   simp only at hfree hne ⊢
   refine wpIn_mono (hw Y8 (finOK a₁ s₁ hne hfree)) fun e a₂ w₂ ho=>?_
   obtain⟨rfl,β',hx,hf2,hmk⟩:=ho
   exact fin a₁ s₁ a₂ w₂ β' hne hfree hx hf2 hmk
  |ret a₁ s₁=>
   rw[hr]at hfree hw hne
   simp only at hfree hne ⊢
   refine wpIn_mono (hw Y8 (finOK a₁ s₁ hne hfree)) fun e a₂ w₂ ho=>?_
   obtain⟨rfl,β',hx,hf2,hmk⟩:=ho
   exact fin a₁ s₁ a₂ w₂ β' hne hfree hx hf2 hmk
theorem callWith_sound(hI:TableS P I){code:Code→Fr→St→Out}(hnx:∀c a s,(code c a s).nextLe s)(hcode:CodeS P code):CallS P (qY P I code):=by
 refine⟨callWith_next hI hnx,fun f args args' s β w hlow h ha hne hfree=>?_,fun b args args' s β w m r h ha hb hw hne hfree=>?_⟩
 ·unfold qY at hne hfree ⊢
  rw[hlow]at hne hfree ⊢
  simp only at hne hfree ⊢
  cases hg:I f with
  |some g=>
   rw[hg]at hne hfree
   exact hI.sound f g hg args args' s β w h ha hne hfree
  |none=>
   rw[hg]at hne hfree
   simp only at hne hfree ⊢
   cases hfn:P.funcs[f]? with
   |none=>rw[hfn]at hne;exact(hne rfl).elim
   |some fn=>
    rw[hfn]at hne hfree
    simp only at hne hfree ⊢
    cases hb:fn.body with
    |none=>rw[hb]at hne;exact(hne rfl).elim
    |some c=>
     rw[hb]at hne hfree
     simp only at hne hfree ⊢
     exact bodyM_sound hcode hfn hb h ha hne hfree
 ·have e:qY P I code (qK+b) args s=roundM code b args s:=by
   unfold qY
   have h1:Nat.ble qK (qK+b)=true:=by simp
   rw[h1]
   simp only[Nat.add_sub_cancel_left]
  rw[e]at hne hfree ⊢
  exact round_sound hnx hcode h ha hb hw hne hfree
theorem range_sound(hI:TableS P I){code:Code→Fr→St→Out}(hnx:∀c a s,(code c a s).nextLe s)(hcode:CodeS P code){f:Operand}{ps:Array Tmp}{x y:Code}{a:Fr}{a':Act}{s:St}{β:Ren}{w:World}{lo:Nat}
  (hfB:je f=true) (h:Rel P β s w) (hf:FRel P β a a') (hm:Marks lo β s w a'.defers) (hlo:lo≤w.heap.size) (hne:rangeM P I code f ps x y a s≠.stuck) (hfree:(rangeM P I code f ps x y a s).free β s) :
  (Code.rangeFunc f ps x y).wpIn (FW none) 0 P (OutP P lo β s w (rangeM P I code f ps x y a s)) a' w:=by
 have hcs:=callWith_sound hI hnx hcode
 have hnextR:=rangeM_next hI hnx f ps x y a s
 refine wpIn_rangeFunc fun fn _=>?_
 unfold rangeM at hne hfree hnextR ⊢
 cases hroom:s.room with
 |false=>rw[hroom]at hne;exact(hne rfl).elim
 |true=>
  rw[hroom]at hne hfree hnextR
  simp only at hne hfree hnextR ⊢
  cases hv:kn P (a.eval f) [.func (.yield s.next) ⟨[]⟩ ⟨[]⟩] (s.new (.loop {fr:=a,params:=ps.toList,assign:=x,body:=y,state:=.ready,pend:=none}))with
  |stuck=>rw[hv]at hne;exact(hne rfl).elim
  |panic v s'=>rw[hv]at hne;exact(hne rfl).elim
  |ok nx s₁=>
   rw[hv]at hne hfree hnextR
   cases nx with
   |enter g args=>
    simp only at hne hfree hnextR ⊢
    have hs1:=callV_same hv
    subst hs1
    cases hlow:Nat.ble qK g with
    |true=>rw[hlow]at hne;exact(hne rfl).elim
    |false=>
     rw[hlow]at hne hfree hnextR
     simp only at hne hfree hnextR ⊢
     have hn2:=callWith_next hI hnx g args (s.new (.loop {fr:=a,params:=ps.toList,assign:=x,body:=y,state:=.ready,pend:=none}))
     -- the block is free
     have hfree0:∀s₂:St,s.next+1≤s₂.next→Free β s s₂→β s.next=none:=fun s₂ h1 h2=>h2 s.next Z3 O
     have hnext0:s.next<281474976710655:=room_lt hroom
     -- whatever the call's outcome is,its last state is free
     have hfr2:∃s₂:St,s.next+1≤s₂.next∧Free β s s₂∧(∀v s',qY P I code g args (s.new (.loop {fr:=a,params:=ps.toList,assign:=x,body:=y,state:=.ready,pend:=none}))=.ret v s'→s'=s₂) ∧
       (∀c s',qY P I code g args (s.new (.loop {fr:=a,params:=ps.toList,assign:=x,body:=y,state:=.ready,pend:=none}))=.panic c s'→s'=s₂):=by
      cases hr:qY P I code g args (s.new (.loop {fr:=a,params:=ps.toList,assign:=x,body:=y,state:=.ready,pend:=none}))with
      |stuck=>rw[hr]at hne;exact(hne rfl).elim
      |panic c s₂=>
       rw[hr]at hfree hn2
       exact⟨s₂,hn2,hfree,fun _ _ e=>(by cases e),fun _ _ e=>(by cases e;rfl)⟩
      |ret v s₂=>
       rw[hr]at hfree hn2 hne
       simp only at hfree hne
       refine⟨s₂,hn2,?_,fun _ _ e=>(by cases e;rfl),fun _ _ e=>(by cases e)⟩
       split at hne
       ·rename_i lp hmay hg
        rw[hmay,hg]at hfree
        simp only at hfree
        split at hne
        ·exact(hne rfl).elim
        ·rename_i hst
         rw[hst]at hfree
         simp only at hfree
         split at hne
         ·rename_i hp;rw[hp]at hfree;exact hfree
         ·rename_i hp;rw[hp]at hfree;exact hfree
         ·rename_i hp;rw[hp]at hfree;exact hfree
         ·exact(hne rfl).elim
       ·exact(hne rfl).elim
     obtain⟨s₂,hs2,hF,hret,hpan⟩:=hfr2
     have hb0:=hfree0 s₂ hs2 hF
     -- the two blocks
     let W:=(w.alloc (.deferred (some []))).alloc (.loop {state:=.ready,pending:=none,fn,tmps:=a'.tmps,params:=ps,assign:=x,body:=y,defers:=w.heap.size})
     have hx0:=Ext.alloc h (.deferred (some []))
     let m:Img:=⟨w.heap.size+1,0,0,0⟩
     have hsz:(w.alloc (.deferred (some []))).heap.size=w.heap.size+1:=by show(w.heap.push _).size=_;simp
     have hx1:Ext P β s (w.alloc (.deferred (some []))) (β.add s.next m) (s.new (.loop {fr:=a,params:=ps.toList,assign:=x,body:=y,state:=.ready,pend:=none})) W:=
      Ext.new hx0.rel hnext0 hb0 (by rw[hsz]) (.loop hf.trel rfl rfl rfl rfl rfl)
     have hfrA:Free β s s:=fun k l u=>by omega
     have hfrB:Free β s (s.new (.loop {fr:=a,params:=ps.toList,assign:=x,body:=y,state:=.ready,pend:=none})):=fun k l u=>hF k l (by
      have u:k<s.next+1:=u
      omega)
     have hx01:=hx0.trans hx1 hfrB
     have hbm:(β.add s.next m) s.next=some m:=Ren.add_self
     -- the marks
     have hmk:Marks lo (β.add s.next m) (s.new (.loop {fr:=a,params:=ps.toList,assign:=x,body:=y,state:=.ready,pend:=none})) W ({target:=.collected w.heap.size,args:= #[]}::a'.defers):=by
      refine⟨⟨w.heap.size,rfl,hlo,?_,fun b mm hb hlt=>?_,fun d' hd hh=>?_⟩,hm.ext hx01 hfrB⟩
      ·show((w.heap.push _).push _)[w.heap.size]? = _
       rw[Array.getElem?_push,if_neg Y8,Array.getElem?_push,if_pos rfl]
      ·by_cases e:b=s.next
       ·subst e;rw[hbm]at hb;cases hb;show w.heap.size+1≠_;omega
       ·have hb':β b=some mm:=by simpa[Ren.add,e]using hb
        have hlt:b<s.next+1:=hlt
        have:=h.img b mm hb' O
        omega
      ·have:∀ds,Marks lo β s w ds→d'∈ds→False:=by
        intro ds
        induction ds with
        |nil=>intro _ hd;cases hd
        |cons d ds ih=>
         rintro⟨⟨r,h1,_,h2,_⟩,hr⟩ hd
         rcases List.mem_cons.1 hd with e|hd
         ·subst e
          rw[h1]at hh
          have hh:Target.collected r=.collected w.heap.size:=hh
          cases hh
          have:=(Array.getElem?_eq_some_iff.1 h2).1
          omega
         ·exact ih hr hd
       exact this _ hm hd
     have hmk':Marks lo (β.add s.next m) (s.new (.loop {fr:=a,params:=ps.toList,assign:=x,body:=y,state:=.ready,pend:=none})) W ([{target:=.collected w.heap.size,args:= #[]}]++a'.defers):=hmk
     -- the call
     have hvr:VRel P (β.add s.next m) (.func (.yield s.next) ⟨[]⟩ ⟨[]⟩) (.func (.yield (w.heap.size+1)) ⟨[]⟩ ⟨[]⟩):=.yield hbm
     have hop:=call_sound hx01.rel ((hf.mono hx01.le).eval hfB) (.cons hvr .nil)
     rw[hv]at hop
     obtain⟨β₁,w₁,n',hrun,hxc,args',rfl,hargs⟩:=hop (fun k l u=>by omega)
     have hrun':(resolve a'.eval (rangeCall f (w.heap.size+1)) 0 >>= fun d=>invoke d.target d.args).run P W=.ok (.enter g args') w₁:=by
      have e:resolve a'.eval (rangeCall f (w.heap.size+1)) 0=Deferred.ofValue (a'.eval f) ⟨[.func (.yield (w.heap.size+1)) ⟨[]⟩ ⟨[]⟩]⟩:=by
       simp[resolve,rangeCall,Act.eval]
      rw[e]
      exact hrun
     rw[Sem.run_bind]at hrun'
     cases hres:(resolve a'.eval (rangeCall f (w.heap.size+1)) 0).run P W with
     |halt hh ww=>rw[hres]at hrun';cases hrun'
     |ok d W₁=>
      rw[hres]at hrun'
      simp only[Result.andThen_ok]at hrun'
      refine⟨w.heap.size+1,[{target:=.collected w.heap.size,args:= #[]}],W,d,W₁,g,args',w₁,run_enterLoop_outer fn a'.tmps ps x y,hres,fun _ _=>trivial,hrun',nofun,?_⟩
      have hx2:=hx01.trans hxc hfrB
      have hcall:=hcs.2.1 g args args' _ β₁ w₁ hlow hxc.rel hargs
      cases hr:qY P I code g args (s.new (.loop {fr:=a,params:=ps.toList,assign:=x,body:=y,state:=.ready,pend:=none}))with
      |stuck=>rw[hr]at hne;exact(hne rfl).elim
      |panic c s₃=>
       have e:=hpan c s₃ hr
       subst e
       rw[hr]at hcall
       refine(callsFW.2 (hcall Y8 (hx2.freeOf hF))).mono fun e w₃ ho=>?_
       obtain⟨β₃,c',rfl,hx3,hch⟩:=ho
       exact⟨c',β₃,rfl,hx2.trans hx3 hF,hch,(hmk'.ext (hxc) (fun k l u=>by omega)).ext hx3 (hx2.freeOf hF)⟩
      |ret v s₃=>
       have e:=hret v s₃ hr
       subst e
       rw[hr]at hcall hne hfree
       simp only at hne hfree ⊢
       refine(callsFW.2 (hcall Y8 (hx2.freeOf hF))).mono fun e w₃ ho=>?_
       obtain⟨β₃,v',rfl,hx3,_⟩:=ho
       have hx4:=hx2.trans hx3 hF
       have hmk3:=(hmk'.ext (hxc) (fun k l u=>by omega)).ext hx3 (hx2.freeOf hF)
       have hb3:β₃ s.next=some m:=hx3.le _ _ (hxc.le _ _ hbm)
       cases hmay:s₃.may s.next with
       |false=>rw[hmay]at hne;exact(hne rfl).elim
       |true=>
        rw[hmay]at hne hfree
        cases hg:s₃.get s.next with
        |none=>rw[hg]at hne;exact(hne rfl).elim
        |some o=>
         cases o with
         |cells c e=>rw[hg]at hne;exact(hne rfl).elim
         |map es c=>rw[hg]at hne;exact(hne rfl).elim
         |loop lp=>
          rw[hg]at hne hfree
          simp only at hne hfree ⊢
          obtain⟨r,g1,gft,gp,gA,gB,gs,gj⟩:=hx3.rel.loop hb3 hg
          have hbz:busyB lp.state=false:=by
           cases hbz:busyB lp.state with
           |true=>rw[hbz]at hne;exact(hne rfl).elim
           |false=>rfl
          have hnb:lp.state≠.busy:=fun e=>by rw[e]at hbz;cases hbz
          rw[hbz]at hne ⊢
          simp only at hne ⊢
          have hx5:Ext P β₃ s₃ w₃ β₃ (s₃.put s.next (some (.loop {lp with state:=.exhausted}))) (w₃.putObj m.blk (.loop {r with state:=.exhausted})):=
           Ext.putLoop hx3.rel hb3 hmay hg g1 (.loop gft gp gA gB rfl gj)
          have hfree5:Free β₃ s₃ (s₃.put s.next (some (.loop {lp with state:=.exhausted}))):=fun k l u=>by
           have u:k<s₃.next:=u
           omega
          have hx6:=hx4.trans hx5 (fun k l u=>hF k l u)
          have hmk6:=hmk3.ext hx5 hfree5
          have hfr6:FRel P β₃ a {a' with defers:=[{target:=.collected w.heap.size,args:= #[]}]++a'.defers}:=(hf.trel.mono hx6.le).frel _
          refine⟨lp.pend,w₃.putObj m.blk (.loop {r with state:=.exhausted}),by rw[←gj];exact run_endLoop g1 (by rw[gs];exact hnb),?_⟩
          cases hpd:lp.pend with
          |none=>
           rw[hpd]at hx6 hmk6
           exact⟨rfl,β₃,hx6,hfr6,hmk6⟩
          |some c=>
           rw[hpd]at hne hx6 hmk6
           cases c with
           |ret=>exact wpIn_ret ⟨rfl,β₃,hx6,hfr6,hmk6⟩
           |exit id=>exact wpIn_exit ⟨rfl,β₃,hx6,hfr6,hmk6⟩
           |_=>exact(hne rfl).elim
   |_=>exact(hne rfl).elim
theorem rounds_sound(hI:TableS P I){b:Code}(hb:vK b=true)(lo:Nat)(ro:Option Nat)(hro:ro=none∨flatC b=true){n:Nat}(ih:∀m,m<n→CodeS P (qF P I m)):∀m,m≤n→∀(a:Fr) (a':Act) (s:St) (β:Ren) (w:World),Rel P β s w→FRel P β a a'→Marks lo β s w a'.defers→lo≤w.heap.size →
  qF P I m (.loop b) a s≠.stuck→(qF P I m (.loop b) a s).free β s→∀Q:Exit→Act→World→Prop,(∀e a₂ w₂,OutP P lo β s w (qF P I m (.loop b) a s) e a₂ w₂→Q e a₂ w₂)→Code.roundsIn (FW ro) 0 P b Q m a' w:=by
 intro m
 induction m with
 |zero=>intro _ a a' s β w _ _ _ _ hne;exact(hne rfl).elim
 |succ m ihm=>
  intro hm a a' s β w h hf hmk hlo hne hfree Q hQ
  have hn:=codeM_next hI m
  unfold qF at hne hfree hQ
  simp only at hne hfree hQ
  rw[roundsIn_succ]
  have hw:=fun h1 h2=>ih m O b a a' s β w lo ro hb hro h hf hmk hlo h1 h2
  cases hr:qF P I m b a s with
  |stuck=>rw[hr]at hne;exact(hne rfl).elim
  |normal a₁ s₁=>
   rw[hr]at hne hfree hQ hw
   simp only at hne hfree hQ
   have hfr:Free β s s₁:=Out.free_of (hn _ _ _) hfree hne
   refine wpIn_mono (hw Y8 hfr) fun e a₂ w₂ ho=>?_
   obtain⟨rfl,β',hx,hf2,hmk2⟩:=ho
   exact ihm O a₁ a₂ s₁ β' w₂ hx.rel hf2 hmk2 (Nat.le_trans hlo hx.size) hne (hx.outFree hfree) Q fun e a₃ w₃ ho=>hQ e a₃ w₃ (ho.trans hx hfree)
  |exit id a₁ s₁=>
   rw[hr]at hfree hQ hw
   refine wpIn_mono (hw Y8 hfree) fun e a₂ w₂ ho=>?_
   have:=ho.1
   subst this
   exact hQ _ _ _ ho
  |ret a₁ s₁=>
   rw[hr]at hfree hQ hw
   refine wpIn_mono (hw Y8 hfree) fun e a₂ w₂ ho=>?_
   have:=ho.1
   subst this
   exact hQ _ _ _ ho
  |panic c a₁ s₁=>
   rw[hr]at hfree hQ hw
   refine wpIn_mono (hw Y8 hfree) fun e a₂ w₂ ho=>?_
   obtain⟨c',β',rfl,hrest⟩:=ho
   exact hQ _ _ _ ⟨c',β',rfl,hrest⟩
theorem code_sound(hmix:P.follows .mixedOrders=true)(hI:TableS P I):∀n,CodeS P (qF P I n):=by
 intro n
 induction n using Nat.strongRecOn with
 |_ n ih=>
  cases n with
  |zero=>intro c a a' s β w lo ro _ _ _ _ _ _ hne;exact(hne rfl).elim
  |succ n=>
   intro c a a' s β w lo ro hcb hro h hf hmk hlo hne hfree
   have ihn:=ih n O
   have hn:=codeM_next hI n
   have hcall:=callWith_sound hI hn ihn
   have hkeep:=jF hI (codeM_keeps hI n)
   cases c with
   |skip=>
    unfold qF at hfree ⊢
    exact wpIn_skip ⟨rfl,β,Ext.refl h,hf,hmk⟩
   |label k=>
    unfold qF at hfree ⊢
    exact wpIn_label ⟨rfl,β,Ext.refl h,hf,hmk⟩
   |exit id=>
    unfold qF at hfree ⊢
    exact wpIn_exit ⟨rfl,β,Ext.refl h,hf,hmk⟩
   |ret=>
    unfold qF at hfree ⊢
    exact wpIn_ret ⟨rfl,β,Ext.refl h,hf,hmk⟩
   |seq x y=>
    simp only[vK,Bool.and_eq_true]at hcb
    unfold qF at hne hfree ⊢
    simp only at hne hfree ⊢
    refine wpIn_seq ?_
    have hw:=fun h1 h2=>ihn x a a' s β w lo ro hcb.1 (hro.imp id fun h=>by simp only[flatC,Bool.and_eq_true]at h;exact h.1) h hf hmk hlo h1 h2
    cases hr:qF P I n x a s with
    |stuck=>rw[hr]at hne;exact(hne rfl).elim
    |normal a₁ s₁=>
     rw[hr]at hne hfree hw
     simp only at hne hfree ⊢
     have hfr:Free β s s₁:=Out.free_of (hn y a₁ s₁) hfree hne
     refine wpIn_mono (hw Y8 hfr) fun e a₂ w₂ ho=>?_
     obtain⟨rfl,β',hx,hf2,hmk2⟩:=ho
     exact wpIn_mono (ihn y a₁ a₂ s₁ β' w₂ lo ro hcb.2 (hro.imp id fun h=>by simp only[flatC,Bool.and_eq_true]at h;exact h.2) hx.rel hf2 hmk2 (Nat.le_trans hlo hx.size) hne (hx.outFree hfree)) fun e a₃ w₃ ho=>ho.trans hx hfree
    |exit id a₁ s₁=>
     rw[hr]at hfree hw
     refine wpIn_mono (hw Y8 hfree) fun e a₂ w₂ ho=>?_
     have:=ho.1
     subst this
     exact ho
    |ret a₁ s₁=>
     rw[hr]at hfree hw
     refine wpIn_mono (hw Y8 hfree) fun e a₂ w₂ ho=>?_
     have:=ho.1
     subst this
     exact ho
    |panic c a₁ s₁=>
     rw[hr]at hfree hw
     refine wpIn_mono (hw Y8 hfree) fun e a₂ w₂ ho=>?_
     obtain⟨c',β',rfl,hrest⟩:=ho
     exact⟨c',β',rfl,hrest⟩
   |cond c x y=>
    simp only[vK,Bool.and_eq_true]at hcb
    unfold qF at hne hfree ⊢
    simp only at hne hfree ⊢
    have hv:=hf.eval hcb.1.1
    generalize hev:a.eval c=u at hv hne hfree ⊢
    split at hne
    ·simp only at hfree ⊢
     generalize hev':a'.eval c=u' at hv
     cases hv
     exact wpIn_cond_true hev' (ihn x a a' s β w lo ro hcb.1.2 (hro.imp id fun h=>by simp only[flatC,Bool.and_eq_true]at h;exact h.1) h hf hmk hlo hne hfree)
    ·simp only at hfree ⊢
     generalize hev':a'.eval c=u' at hv
     cases hv
     exact wpIn_cond_false hev' (ihn y a a' s β w lo ro hcb.2 (hro.imp id fun h=>by simp only[flatC,Bool.and_eq_true]at h;exact h.2) h hf hmk hlo hne hfree)
    ·exact(hne rfl).elim
   |block id b=>
    simp only[vK]at hcb
    unfold qF at hne hfree ⊢
    simp only at hne hfree ⊢
    refine wpIn_block ?_
    have hw:=fun h1 h2=>ihn b a a' s β w lo ro hcb hro h hf hmk hlo h1 h2
    cases hr:qF P I n b a s with
    |stuck=>rw[hr]at hne;exact(hne rfl).elim
    |normal a₁ s₁=>
     rw[hr]at hfree hw
     refine wpIn_mono (hw Y8 hfree) fun e a₂ w₂ ho=>?_
     have:=ho.1
     subst this
     exact ho
    |exit id' a₁ s₁=>
     rw[hr]at hfree hw
     simp only at hfree ⊢
     cases hid:Nat.beq id' id with
     |true=>
      rw[hid]at hfree
      simp only at hfree ⊢
      have hide:=Nat.eq_of_beq_eq_true hid
      refine wpIn_mono (hw Y8 hfree) fun e a₂ w₂ ho=>?_
      obtain⟨rfl,hrest⟩:=ho
      simp only[Exit.inBlock,hide,if_true]
      exact⟨rfl,hrest⟩
     |false=>
      rw[hid]at hfree
      simp only at hfree ⊢
      have hide:¬id'=id:=fun e=>by subst e;simp at hid
      refine wpIn_mono (hw Y8 hfree) fun e a₂ w₂ ho=>?_
      obtain⟨rfl,hrest⟩:=ho
      simp only[Exit.inBlock,hide,if_false]
      exact⟨rfl,hrest⟩
    |ret a₁ s₁=>
     rw[hr]at hfree hw
     refine wpIn_mono (hw Y8 hfree) fun e a₂ w₂ ho=>?_
     have:=ho.1
     subst this
     exact ho
    |panic c a₁ s₁=>
     rw[hr]at hfree hw
     refine wpIn_mono (hw Y8 hfree) fun e a₂ w₂ ho=>?_
     obtain⟨c',β',rfl,hrest⟩:=ho
     exact⟨c',β',rfl,hrest⟩
   |loop b=>
    simp only[vK]at hcb
    exact wpIn_loop_rounds (n+1) (rounds_sound hI hcb lo ro hro (n:=n+1) ih (n+1) Z3 a a' s β w h hf hmk hlo hne hfree _ fun _ _ _ ho=>ho)
   |region id ops draw=>
    simp only[vK]at hcb
    unfold qF at hne hfree ⊢
    simp only at hne hfree ⊢
    cases draw with
    |false=>
     simp only at hne hfree ⊢
     refine wpIn_region_list (ops_sound hcall ro ops ops.toList (fun o ho=>?_) a a' s β w h hf hmk hne hfree _ fun _ _ _ ho=>ho)
     rw[List.all_eq_true]at hcb
     exact hcb o ho
    |true=>
     simp only at hne hfree ⊢
     cases hpl:planB ops.toList (plan ops.toList)with
     |false=>rw[hpl]at hne;exact(hne rfl).elim
     |true=>
      rw[hpl]at hne hfree
      simp only at hne hfree ⊢
      exact draw_sound hmix hcall hkeep hpl hcb h hf hmk ro hne hfree
   |scope b=>
    simp only[vK]at hcb
    unfold qF at hne hfree ⊢
    simp only at hne hfree ⊢
    refine wpIn_scope (wpIn_mono (ihn b a a' s β w lo ro hcb hro h hf hmk hlo hne hfree) fun e a₂ w₂ ho=>?_)
    cases e with
    |goto l=>
     cases hr:qF P I n b a s with
     |stuck=>rw[hr]at ho;exact ho
     |normal a₁ s₁=>rw[hr]at ho;cases ho.1
     |exit id a₁ s₁=>rw[hr]at ho;cases ho.1
     |ret a₁ s₁=>rw[hr]at ho;cases ho.1
     |panic c a₁ s₁=>rw[hr]at ho;obtain⟨_,_,e,_⟩:=ho;cases e
    |_=>exact ho
   |rangeFunc f ps x y=>
    rcases hro with rfl|hro
    ·simp only[vK,Bool.and_eq_true]at hcb
     unfold qF at hne hfree ⊢
     simp only at hne hfree ⊢
     exact range_sound hI hn ihn hcb.1.1 h hf hmk hlo hne hfree
    ·cases hro
   |_=>exact(hne rfl).elim
theorem call_ok(hmix:P.follows .mixedOrders=true)(hI:TableS P I)(n:Nat):CallS P (callM P I n):=
 callWith_sound hI (codeM_next hI n) (code_sound hmix hI n)
end
end Go.M
namespace Go.M
mutual
inductive VMap(n:Nat)(ι:Nat→Nat):Value→Value→Prop where
 |bool (b:Bool):VMap n ι (.bool b) (.bool b)
 |int (k:IntKind) (i:Int):VMap n ι (.int k i) (.int k i)
 |string (s:ByteArray):VMap n ι (.string s) (.string s)
 |pnil:VMap n ι (.pointer none) (.pointer none)
 |ptr {b off:Nat} (h:b<n):VMap n ι (.pointer (some ⟨b,off,none⟩)) (.pointer (some ⟨ι b,off,none⟩))
 |snil:VMap n ι (.slice none 0 0) (.slice none 0 0)
 |slice {b off len c:Nat} (h:b<n):VMap n ι (.slice (some ⟨b,off,none⟩) len c) (.slice (some ⟨ι b,off,none⟩) len c)
 |agg {l l':List Value} (h:LMap n ι l l'):VMap n ι (.agg ⟨l⟩) (.agg ⟨l'⟩)
 |tuple {l l':List Value} (h:LMap n ι l l'):VMap n ι (.tuple ⟨l⟩) (.tuple ⟨l'⟩)
inductive LMap(n:Nat)(ι:Nat→Nat):List Value→List Value→Prop where
 |nil:LMap n ι [] []
 |cons {v v':Value} {l l':List Value} (h:VMap n ι v v') (hl:LMap n ι l l'):LMap n ι (v::l) (v'::l')
end
section
variable{P:Program}{n:Nat}{ι:Nat→Nat}{β β₁:Ren}
mutual
theorem VMap.pull(hb:∀b m,b<n→β (ι b)=some m→β₁ b=some m):∀{v₁ v₀ v':Value},VMap n ι v₁ v₀→VRel P β v₀ v'→VRel P β₁ v₁ v'
 |_,_,_,.bool b,h=>by cases h;exact .bool b
 |_,_,_,.int k i,h=>by cases h;exact .int k i
 |_,_,_,.string s,h=>by cases h;exact .string s
 |_,_,_,.pnil,h=>by cases h;exact .pnil
 |_,_,_,.ptr hl,h=>by cases h with|ptr h=>exact .ptr (hb _ _ hl h)
 |_,_,_,.snil,h=>by cases h;exact .snil
 |_,_,_,.slice hl,h=>by
  cases h with
  |sknown h=>exact .sknown (hb _ _ hl h)
  |sgrown h hc hs=>exact .sgrown (hb _ _ hl h) hc hs
  |sempty h hs=>exact .sempty (hb _ _ hl h) hs
  |szero h=>exact .szero (hb _ _ hl h)
 |_,_,_,.agg hl,h=>by cases h with|agg h=>exact .agg (hl.pull hb h)
 |_,_,_,.tuple hl,h=>by cases h with|tuple h=>exact .tuple (hl.pull hb h)
theorem LMap.pull(hb:∀b m,b<n→β (ι b)=some m→β₁ b=some m):∀{v₁ v₀ v':List Value},LMap n ι v₁ v₀→LRel P β v₀ v'→LRel P β₁ v₁ v'
 |_,_,_,.nil,h=>by cases h;exact .nil
 |_,_,_,.cons h1 h2,h=>by cases h with|cons h h'=>exact .cons (h1.pull hb h) (h2.pull hb h')
end
mutual
theorem VMap.push(hb:∀b m,b<n→β₁ b=some m→β (ι b)=some m):∀{v₁ v v':Value},VMap n ι v₁ v→VRel P β₁ v₁ v'→VRel P β v v'
 |_,_,_,.bool b,h=>by cases h;exact .bool b
 |_,_,_,.int k i,h=>by cases h;exact .int k i
 |_,_,_,.string s,h=>by cases h;exact .string s
 |_,_,_,.pnil,h=>by cases h;exact .pnil
 |_,_,_,.ptr hl,h=>by cases h with|ptr h=>exact .ptr (hb _ _ hl h)
 |_,_,_,.snil,h=>by cases h;exact .snil
 |_,_,_,.slice hl,h=>by
  cases h with
  |sknown h=>exact .sknown (hb _ _ hl h)
  |sgrown h hc hs=>exact .sgrown (hb _ _ hl h) hc hs
  |sempty h hs=>exact .sempty (hb _ _ hl h) hs
  |szero h=>exact .szero (hb _ _ hl h)
 |_,_,_,.agg hl,h=>by cases h with|agg h=>exact .agg (hl.push hb h)
 |_,_,_,.tuple hl,h=>by cases h with|tuple h=>exact .tuple (hl.push hb h)
theorem LMap.push(hb:∀b m,b<n→β₁ b=some m→β (ι b)=some m):∀{v₁ v v':List Value},LMap n ι v₁ v→LRel P β₁ v₁ v'→LRel P β v v'
 |_,_,_,.nil,h=>by cases h;exact .nil
 |_,_,_,.cons h1 h2,h=>by cases h with|cons h h'=>exact .cons (h1.push hb h) (h2.push hb h')
end
theorem LMap.get{l l':List Value}(h:LMap n ι l l'){i:Nat}{v:Value}(hi:l[i]? = some v):∃v',l'[i]? = some v'∧VMap n ι v v':=by
 induction l generalizing l' i with
 |nil=>simp at hi
 |cons x l ih=>
  cases h with
  |cons h hl=>
   cases i with
   |zero=>simp at hi;subst hi;exact⟨_,by simp,h⟩
   |succ i=>simp at hi;simpa using ih hl hi
theorem LMap.get'{l l':List Value}(h:LMap n ι l l'){i:Nat}{v':Value}(hi:l'[i]? = some v'):∃v,l[i]? = some v∧VMap n ι v v':=by
 induction l generalizing l' i with
 |nil=>cases h;simp at hi
 |cons x l ih=>
  cases h with
  |cons h hl=>
   cases i with
   |zero=>simp at hi;subst hi;exact⟨_,by simp,h⟩
   |succ i=>simp at hi;simpa using ih hl hi
def OMap(n:Nat)(ι:Nat→Nat):MObj→MObj→Prop
 | .cells c e,.cells c' e'=>LMap n ι c c'∧e'=e
 |_,_=>False
theorem LMap.len{n:Nat}{ι:Nat→Nat}{l l':List Value}(h:LMap n ι l l'):l'.length=l.length:=by
 induction l generalizing l' with
 |nil=>cases h;rfl
 |cons v l ih=>cases h with|cons _ hl=>simp[ih hl]
theorem OMap.pull(hb:∀b m,b<n→β (ι b)=some m→β₁ b=some m){m:Img}{o₁ o₀:MObj}{o':Obj}(h:OMap n ι o₁ o₀)(hr:ORel P β m o₀ o'):ORel P β₁ m o₁ o':=by
 cases o₁ with
 |map=>exact h.elim
 |loop=>exact h.elim
 |cells c e=>cases o₀ with
  |map=>exact h.elim
  |loop=>exact h.elim
  |cells c' e'=>
   obtain⟨hl,rfl⟩:=h
   cases hr with
   |cells he hsz hln hfz hc=>
    refine .cells he hsz (by rw[←hl.len];exact hln) hfz fun i v hv=>?_
    obtain⟨v₀,h1,h2⟩:=hl.get hv
    obtain⟨v',h3,h4⟩:=hc i v₀ h1
    exact⟨v',h3,h2.pull hb h4⟩
theorem OMap.push(hb:∀b m,b<n→β₁ b=some m→β (ι b)=some m){m:Img}{o₁ o:MObj}{o':Obj}(h:OMap n ι o₁ o)(hr:ORel P β₁ m o₁ o'):ORel P β m o o':=by
 cases o₁ with
 |map=>exact h.elim
 |loop=>exact h.elim
 |cells c e=>cases o with
  |map=>exact h.elim
  |loop=>exact h.elim
  |cells c' e'=>
   obtain⟨hl,rfl⟩:=h
   cases hr with
   |cells he hsz hln hfz hc=>
    refine .cells he hsz (by rw[hl.len];exact hln) hfz fun i v hv=>?_
    obtain⟨v₁,h1,h2⟩:=hl.get' hv
    obtain⟨v',h3,h4⟩:=hc i v₁ h1
    exact⟨v',h3,h2.push hb h4⟩
structure Lies(s₀ s:St)(ι:Nat→Nat):Prop where
 lt:∀b,b<s₀.next→ι b<s.next
 inj:∀b b',b<s₀.next→b'<s₀.next→ι b=ι b'→b=b'
 obj:∀b o,b<s₀.next→s₀.get b=some o→∃o',s.get (ι b)=some o'∧OMap s₀.next ι o o'
structure Told(k:Nat)(t₀:St)(v₀:Value)(τ:Nat→Nat)(j:Nat)(v₁:Value)(objs:Nat→MObj):Prop where
 lo:∀b,b<k→τ b=b
 hi:∀b,k≤b→b<k+j→k≤τ b∧τ b<t₀.next
 inj:∀b b',k≤b→b<k+j→k≤b'→b'<k+j→τ b=τ b'→b=b'
 val:VMap (k+j) τ v₁ v₀
 obj:∀b,k≤b→b<k+j→∃o,t₀.get (τ b)=some o∧OMap (k+j) τ (objs b) o
structure Laid(k:Nat)(s t:St)(ι:Nat→Nat)(j:Nat)(v₁:Value)(objs:Nat→MObj)(v:Value):Prop where
 next:t.next=s.next+j
 bar:t.bar=s.bar
 prot:t.prot=s.prot
 room:t.next≤281474976710655
 old:∀b,b<s.next→t.get b=s.get b
 top:∀b,t.next≤b→t.get b=none
 val:VMap (k+j) (fun b=>if b<k then ι b else s.next+(b-k)) v₁ v
 obj:∀b o,k≤b→b<k+j→t.get (s.next+(b-k))=some o→OMap (k+j) (fun b=>if b<k then ι b else s.next+(b-k)) (objs b) o
theorem transplant{call:FuncId→Array Value→St→CallOut}(hc:CallS P call){f:FuncId}{args₀ args:Array Value}{s₀ t₀ s t:St}{v₀ v₁ v:Value}{ι τ:Nat→Nat}{j:Nat}{objs:Nat→MObj}
  (hlow:Nat.ble qK f=false) (h0:call f args₀ s₀=.ret v₀ t₀) (hbar:s₀.bar=s₀.next) (hwf:WF s₀) (hl:Lies s₀ s ι) (ha:LMap s₀.next ι args₀.toList args.toList)
  (ht:Told s₀.next t₀ v₀ τ j v₁ objs) (hd:Laid s₀.next s t ι j v₁ objs v)
  {args':Array Value} {β:Ren} {w:World} (h:Rel P β s w) (hargs:LRel P β args.toList args'.toList) (hfree:Free β s t) :
  Calls P f args' w (CallP P β s w (.ret v t)):=by
 let β₀:Ren:=fun b=>if b<s₀.next then β (ι b)else none
 have hβ₀:∀b,b<s₀.next→β₀ b=β (ι b):=fun b hb=>by simp[β₀,hb]
 have hβ₀n:∀b,s₀.next≤b→β₀ b=none:=fun b hb=>by simp[β₀];omega
 have hpull:∀b m,b<s₀.next→β (ι b)=some m→β₀ b=some m:=fun b m hb e=>by rw[hβ₀ b hb];exact e
 have hmay:∀b,b<s₀.next→s₀.may b=false:=fun b hb=>by simp[St.may,hbar];omega
 have hrel0:Rel P β₀ s₀ w:={
  img:=fun b m hb hlt=>h.img (ι b) m (by rw[hβ₀ b hlt]at hb;exact hb) (hl.lt b hlt)
  obj:=fun b m o hb hlt hg=>by
   rw[hβ₀ b hlt]at hb
   obtain⟨o',h1,h2⟩:=hl.obj b o hlt hg
   obtain⟨o'',h3,h4⟩:=h.obj (ι b) m o' hb (hl.lt b hlt) h1
   exact⟨o'',h3,h2.pull hpull h4⟩
  inj:=fun b b' m m' o o' hb hb' hlt hlt' hg hg' he=>by
   rw[hβ₀ b hlt]at hb
   rw[hβ₀ b' hlt']at hb'
   obtain⟨q,h1,_⟩:=hl.obj b o hlt hg
   obtain⟨q',h2,_⟩:=hl.obj b' o' hlt' hg'
   exact hl.inj b b' hlt hlt' (h.inj _ _ m m' q q' hb hb' (hl.lt b hlt) (hl.lt b' hlt') h1 h2 he)
  room:=hwf.room
  top:=hwf.top}
 have hcall:=hc.2.1 f args₀ args' s₀ β₀ w hlow hrel0 (ha.pull hpull hargs) (by rw[h0];simp) (by rw[h0];exact fun b hb _=>hβ₀n b hb)
 rw[h0]at hcall
 refine hcall.mono fun e w' hp=>?_
 obtain⟨β₀',v',rfl,hext,hv⟩:=hp
 have hold0:∀b,b<s₀.next→β₀' b=β₀ b:=fun b hb=>by
  cases hq:β₀ b with
  |some m=>exact hext.le b m hq
  |none=>cases hq':β₀' b with
   |none=>rfl
   |some m=>have:=hext.dom b m hq' hq;omega
 have hheap:∀r,r<w.heap.size→w'.heap[r]? = w.heap[r]? :=fun r hr=>hext.out r hr fun b m o _ hlt hm _=>by rw[hmay b hlt]at hm;cases hm
 have hfresh:∀b m,s₀.next≤b→β₀' b=some m→w.heap.size≤m.blk:=fun b m hb hq=>by
  rcases hext.fresh b m hq (hβ₀n b hb)with hf|⟨b₀,_,_,_,hlt,hm,_⟩
  ·exact hf
  ·rw[hmay b₀ hlt]at hm;cases hm
 -- the renaming for the told result
 let β₁:Ren:=fun b=>if b<s₀.next+j then β₀' (τ b)else none
 have hβ₁:∀b,b<s₀.next+j→β₁ b=β₀' (τ b):=fun b hb=>by simp[β₁,hb]
 let β':Ren:=fun b=>if s.next≤b∧b<t.next then β₀' (τ (s₀.next+(b-s.next)))else β b
 have hβo:∀b,¬(s.next≤b∧b<t.next)→β' b=β b:=fun b hb=>by simp only[β'];rw[if_neg hb]
 have hβn:∀b,s.next≤b→b<t.next→β' b=β₀' (τ (s₀.next+(b-s.next))):=fun b h1 h2=>by simp only[β'];rw[if_pos ⟨h1,h2⟩]
 have hle:β.le β':=fun b m hb=>by
  by_cases hin:s.next≤b∧b<t.next
  ·rw[hfree b hin.1 hin.2]at hb;cases hb
  ·rw[hβo b hin];exact hb
 have hpush:∀b m,b<s₀.next+j→β₁ b=some m→β' (if b<s₀.next then ι b else s.next+(b-s₀.next))=some m:=fun b m hb hm=>by
  rw[hβ₁ b hb]at hm
  by_cases hlt:b<s₀.next
  ·rw[if_pos hlt,hβo _ (fun hh=>by have:=hl.lt b hlt;omega),←hβ₀ b hlt,←hold0 b hlt]
   rw[ht.lo b hlt]at hm;exact hm
  ·rw[if_neg hlt,hβn _ O (by rw[hd.next];omega)]
   have e:s₀.next+(s.next+(b-s₀.next)-s.next)=b:=by omega
   rw[e];exact hm
 have hpull1:∀b m,b<s₀.next+j→β₀' (τ b)=some m→β₁ b=some m:=fun b m hb hm=>by rw[hβ₁ b hb];exact hm
 refine⟨β',v',rfl,?_,?_⟩
 ·exact{
   rel:={
    img:=fun b m hb hlt=>by
     by_cases hin:s.next≤b∧b<t.next
     ·rw[hβn b hin.1 hin.2]at hb
      have hi:=ht.hi (s₀.next+(b-s.next)) O (by have:=hd.next;omega)
      exact hext.rel.img _ m hb hi.2
     ·rw[hβo b hin]at hb
      exact Nat.lt_of_lt_of_le (h.img b m hb O) hext.size
    obj:=fun b m o hb hlt hg=>by
     by_cases hin:s.next≤b∧b<t.next
     ·rw[hβn b hin.1 hin.2]at hb
      have hk:s₀.next+(b-s.next)<s₀.next+j:=by have:=hd.next;omega
      have hi:=ht.hi (s₀.next+(b-s.next)) O hk
      obtain⟨o₀,h1,h2⟩:=ht.obj (s₀.next+(b-s.next)) O hk
      obtain⟨o',h3,h4⟩:=hext.rel.obj _ m o₀ hb hi.2 h1
      have e:s.next+(s₀.next+(b-s.next)-s₀.next)=b:=by omega
      have h5:=hd.obj (s₀.next+(b-s.next)) o O hk (by rw[e];exact hg)
      exact⟨o',h3,h5.push hpush (h2.pull hpull1 h4)⟩
     ·rw[hβo b hin]at hb
      have hlt':b<s.next:=by omega
      rw[hd.old b hlt']at hg
      obtain⟨o',h1,h2⟩:=h.obj b m o hb hlt' hg
      exact⟨o',by rw[hheap _ (h.img b m hb hlt')];exact h1,h2.mono hle⟩
    inj:=fun b b' m m' o o' hb hb' hlt hlt' hg hg' he=>by
     by_cases hin:s.next≤b∧b<t.next
     ·rw[hβn b hin.1 hin.2]at hb
      have hk:s₀.next+(b-s.next)<s₀.next+j:=by have:=hd.next;omega
      have hi:=ht.hi (s₀.next+(b-s.next)) O hk
      obtain⟨o₀,h1,_⟩:=ht.obj (s₀.next+(b-s.next)) O hk
      by_cases hin':s.next≤b'∧b'<t.next
      ·rw[hβn b' hin'.1 hin'.2]at hb'
       have hk':s₀.next+(b'-s.next)<s₀.next+j:=by have:=hd.next;omega
       have hi':=ht.hi (s₀.next+(b'-s.next)) O hk'
       obtain⟨o₀',h1',_⟩:=ht.obj (s₀.next+(b'-s.next)) O hk'
       have e1:=hext.rel.inj _ _ m m' o₀ o₀' hb hb' hi.2 hi'.2 h1 h1' he
       have e2:=ht.inj _ _ O hk O hk' e1
       omega
      ·rw[hβo b' hin']at hb'
       have h2:=h.img b' m' hb' O
       have h3:=hfresh _ m hi.1 hb
       omega
     ·rw[hβo b hin]at hb
      have h2:=h.img b m hb O
      by_cases hin':s.next≤b'∧b'<t.next
      ·rw[hβn b' hin'.1 hin'.2]at hb'
       have hk':s₀.next+(b'-s.next)<s₀.next+j:=by have:=hd.next;omega
       have hi':=ht.hi (s₀.next+(b'-s.next)) O hk'
       have h3:=hfresh _ m' hi'.1 hb'
       omega
      ·rw[hβo b' hin']at hb'
       rw[hd.old b O]at hg
       rw[hd.old b' O]at hg'
       exact h.inj b b' m m' o o' hb hb' O O hg hg' he
    room:=hd.room
    top:=hd.top}
   le:=hle
   dom:=fun b m hb hn=>by
    by_cases hin:s.next≤b∧b<t.next
    ·exact hin
    ·rw[hβo b hin,hn]at hb;cases hb
   next:=by rw[hd.next];omega
   bar:=hd.bar
   prot:=hd.prot
   size:=hext.size
   out:=fun r hr _=>hheap r hr
   same:=fun b hb _=>hd.old b hb
   dead:=fun b hb hg=>by rw[hd.old b hb];exact hg
   fresh:=fun b m hb hn=>by
    by_cases hin:s.next≤b∧b<t.next
    ·rw[hβn b hin.1 hin.2]at hb
     have hi:=ht.hi (s₀.next+(b-s.next)) O (by have:=hd.next;omega)
     exact .inl (hfresh _ m hi.1 hb)
    ·rw[hβo b hin,hn]at hb;cases hb
   os:=hext.os
   output:=hext.output
   tape:=hext.tape}
 ·exact hd.val.push hpush (ht.val.pull hpull1 hv)
end
end Go.M
namespace Go.M
def bindB(ι:List Nat)(b b':Nat):Option (List Nat):=
 match qG ι b with
 |some c=>match Nat.beq c b' with
  |true=>some ι
  |false=>none
 |none=>match Nat.beq b (ks ι 0),ι.any (Nat.beq b')with
  |true,false=>some (ι++[b'])
  |_,_=>none
def ifB{α:Type}(b:Bool)(x:Option α):Option α:=
 match b with
 |true=>x
 |false=>none
def matchP(ι:List Nat)(x y:Value):Option (List Nat):=
 match x,y with
 | .bool a,.bool b=>ifB (a==b) (some ι)
 | .int k a,.int k' b=>ifB (decide (k=k')) (ifB (ieq a b) (some ι))
 | .pointer none,.pointer none=>some ι
 | .pointer (some ⟨b,off,none⟩),.pointer (some ⟨b',off',none⟩)=>ifB (Nat.beq off off') (bindB ι b b')
 | .slice none n c,.slice none n' c'=>ifB (Nat.beq n 0&&Nat.beq n' 0&&Nat.beq c 0&&Nat.beq c' 0) (some ι)
 | .slice (some ⟨b,off,none⟩) n c,.slice (some ⟨b',off',none⟩) n' c'=>ifB (Nat.beq off off'&&Nat.beq n n'&&Nat.beq c c') (bindB ι b b')
 |_,_=>none
def matchPs:List Nat→List Value→List Value→Option (List Nat)
 |ι,[],[]=>some ι
 |ι,x::l,y::m=>match matchP ι x y with
  |some ι=>matchPs ι l m
  |none=>none
 |_,_,_=>none
def matchA(ι:List Nat)(x y:Value):Option (List Nat):=
 match x,y with
 | .agg ⟨l⟩,.agg ⟨m⟩=>matchPs ι l m
 |x,y=>matchP ι x y
def matchAs:List Nat→List Value→List Value→Option (List Nat)
 |ι,[],[]=>some ι
 |ι,x::l,y::m=>match matchA ι x y with
  |some ι=>matchAs ι l m
  |none=>none
 |_,_,_=>none
def matchV(ι:List Nat)(x y:Value):Option (List Nat):=
 match x,y with
 | .tuple ⟨l⟩,.tuple ⟨m⟩=>matchAs ι l m
 |x,y=>matchA ι x y
abbrev Hp:=List (List Value×TypeId)
def matchH(s:St):Hp→Nat→List Nat→Option (List Nat)
 | [],_,ι=>some ι
 |(c,e)::h,i,ι=>match qG ι i with
  |some b=>match s.get b with
   |some (.cells c' e')=>match Nat.beq e e' with
    |true=>match matchPs ι c c' with
     |some ι=>matchH s h (i+1) ι
     |none=>none
    |false=>none
   |_=>none
  |none=>none
def mapP(κ:Nat→Nat)(x:Value):Value:=
 match x with
 | .pointer (some ⟨b,off,none⟩)=>.pointer (some ⟨κ b,off,none⟩)
 | .slice (some ⟨b,off,none⟩) n c=>.slice (some ⟨κ b,off,none⟩) n c
 |x=>x
def mapA(κ:Nat→Nat)(x:Value):Value:=
 match x with
 | .agg ⟨l⟩=>.agg ⟨vJ (mapP κ) l⟩
 |x=>mapP κ x
def mapV(κ:Nat→Nat)(x:Value):Value:=
 match x with
 | .tuple ⟨l⟩=>.tuple ⟨vJ (mapA κ) l⟩
 |x=>mapA κ x
def layH(κ:Nat→Nat):Hp→St→St
 | [],s=>s
 |(c,e)::h,s=>layH κ h (s.new (.cells (vJ (mapP κ) c) e))
def atL(ι:List Nat)(b:Nat):Nat:=match qG ι b with
 |some c=>c
 |none=>0
def laidAt(k n:Nat)(ι:List Nat)(b:Nat):Nat:=match Nat.blt b k with
 |true=>atL ι b
 |false=>n+(b-k)
structure Entry where
 args:List Value
 heap:Hp
 v:Value
 objs:Hp
def fillH:Hp→Nat→Tr MObj→Tr MObj
 | [],_,t=>t
 |(c,e)::h,n,t=>fillH h (n+1) (t.put depth n (some (.cells c e)))
def Entry.state(e:Entry):St:={next:=e.heap.length,bar:=e.heap.length,prot:=[],heap:=fillH e.heap 0 .nil}
def Entry.try(e:Entry)(args:List Value)(s:St):Option CallOut:=
 match matchAs [] e.args args with
 |some ι=>match matchH s e.heap 0 ι with
  |some ι=>match Nat.beq (ks ι 0) (ks e.heap 0),Nat.ble (s.next+ks e.objs 0) 281474976710655 with
   |true,true=>some (.ret (mapV (laidAt (ks e.heap 0) s.next ι) e.v) (layH (laidAt (ks e.heap 0) s.next ι) e.objs s))
   |_,_=>none
  |none=>none
 |none=>none
def tryAll:List Entry→List Value→St→CallOut
 | [],_,_=>.stuck
 |e::l,args,s=>match e.try args s with
  |some r=>r
  |none=>tryAll l args s
abbrev Memo:=List (Nat×List Entry)
noncomputable def lk(T:Memo)(f:Nat):List Entry:=List.rec [] (fun p _ ih=>Bool.rec ih (p.2++ih) (Nat.beq p.1 f)) T
noncomputable def memo(T:Memo):xP:=fun f=>match lk T f with
 | []=>none
 |e::l=>some fun args s=>tryAll (e::l) args.toList s
def idL:Nat→List Nat→List Nat
 |0,l=>l
 |n+1,l=>idL n (n::l)
def Entry.check(P:Program)(I:xP)(n:Nat)(f:FuncId)(e:Entry):Bool:=
 match Nat.ble (ks e.heap 0) 65536,callM P I n f ⟨e.args⟩ e.state with
 |true,.ret v t=>match matchV (idL (ks e.heap 0) []) e.v v with
  |some τ=>match matchH t e.objs (ks e.heap 0) τ with
   |some τ=>Nat.beq (ks τ 0) (ks e.heap 0+ks e.objs 0)
   |none=>false
  |none=>false
 |_,_=>false
end Go.M
