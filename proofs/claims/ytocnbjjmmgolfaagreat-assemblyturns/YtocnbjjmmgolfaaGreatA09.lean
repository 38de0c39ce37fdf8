/- What code comes to, whatever the fuel: rules for proofs about every argument. -/
/- The state as a list of blocks beside what was there; rules for single operations. -/
import Derived.Test.YtocnbjjmmgolfaaGreatA08
namespace Go.M
section
variable(P:Program)(I:xP)
def xN(f:FuncId)(args:Array Value)(s:St)(v:Value)(s':St):Prop:=∃n,∀m,n≤m→callM P I m f args s=.ret v s'
structure OpW(o:Oper)(F:FF)(s:St)(Q:FF→St→Prop):Prop where
 ex:∃F' s',Q F' s'∧∃n,∀m,n≤m→opF P (callM P I m) o F s=.normal F' s'
def OpsW(ops:List Oper):List Oper→FF→St→(FF→St→Prop)→Prop
 | [],F,s,Q=>Q F s
 |o::rest,F,s,Q=>Bool.rec (motive:=fun _=>Prop) (OpsW ops rest (upd F o.dst undef) s Q) (OpW P I o F s fun F s=>OpsW ops rest F s Q) (qV ops F o)
def kC(ops:List Oper)(l:List Drawn)(F:FF)(s:St)(Q:FF→St→Prop):Prop:=
 ∃F' s',Q F' s'∧∃n,∀m,n≤m→drawF P (callM P I m) ops l F s=.normal F' s'
def Code0(c:Code)(F:FF)(s:St)(Q:FOut→Prop):Prop:=
 ∃o,Q o∧∃n,∀m,n≤m→kG P I m c F s=o
def blockQ(id:Nat)(Q:FOut→Prop):FOut→Prop
 | .exit i F s=>match Nat.beq i id with
  |true=>Q (.normal F s)
  |false=>Q (.exit i F s)
 |o=>Q o
def boolOf:Value→Option Bool
 | .bool b=>some b
 |_=>none
theorem boolOf_some{v:Value}{b:Bool}(h:boolOf v=some b):v=.bool b:=by
 unfold boolOf at h
 split at h
 ·cases h;rfl
 ·cases h
def seqK(k:FF→St→Prop)(Q:FOut→Prop):FOut→Prop
 | .normal F s=>k F s
 |o=>Q o
def CodeW:Code→FF→St→(FOut→Prop)→Prop
 | .skip,F,s,Q=>Q (.normal F s)
 | .exit id,F,s,Q=>Q (.exit id F s)
 | .ret,F,s,Q=>Q (.ret F s)
 | .seq x y,F,s,Q=>CodeW x F s (seqK (fun F s=>CodeW y F s Q) Q)
 | .block id b,F,s,Q=>CodeW b F s (blockQ id Q)
 | .cond c x y,F,s,Q=>Option.rec (motive:=fun _=>Prop) False (fun b=>Bool.rec (motive:=fun _=>Prop) (CodeW y F s Q) (CodeW x F s Q) b) (boolOf (yQ F c))
 | .region _ ops false,F,s,Q=>OpsW P I ops.toList ops.toList F s fun F s=>Q (.normal F s)
 |c,F,s,Q=>Code0 P I c F s Q
abbrev seqQ(y:Code)(Q:FOut→Prop):FOut→Prop:=seqK (fun F s=>CodeW P I y F s Q) Q
end
section
variable{P:Program}{I:xP}
theorem OpW.mono{o:Oper}{F:FF}{s:St}{Q Q':FF→St→Prop}(h:OpW P I o F s Q)(hq:∀F s,Q F s→Q' F s):OpW P I o F s Q':=by
 obtain⟨F',s',h1,h2⟩:=h
 exact⟨F',s',hq _ _ h1,h2⟩
theorem OpsW.mono{ops l:List Oper}{F:FF}{s:St}{Q Q':FF→St→Prop}(h:OpsW P I ops l F s Q)(hq:∀F s,Q F s→Q' F s):OpsW P I ops l F s Q':=by
 induction l generalizing F s with
 |nil=>exact hq _ _ h
 |cons o r ih=>
  unfold OpsW at h ⊢
  cases hw:qV ops F o with
  |true=>rw[hw]at h;exact OpW.mono h fun _ _ h=>ih h
  |false=>rw[hw]at h;exact ih h
theorem OpsW.ends{ops l:List Oper}{F:FF}{s:St}{Q:FF→St→Prop}(h:OpsW P I ops l F s Q):∃F' s',Q F' s'∧∃n,∀m,n≤m→opsF P (callM P I m) ops l F s=.normal F' s':=by
 induction l generalizing F s with
 |nil=>exact⟨F,s,h,0,fun _ _=>rfl⟩
 |cons o r ih=>
  unfold OpsW at h
  cases hw:qV ops F o with
  |true=>
   rw[hw]at h
   obtain⟨F₁,s₁,h,n₁,h1⟩:=h
   obtain⟨F₂,s₂,hq,n₂,h2⟩:=ih h
   refine⟨F₂,s₂,hq,n₁+n₂,fun m hm=>?_⟩
   simp only[opsF,hw,h1 m O]
   exact h2 m O
  |false=>
   rw[hw]at h
   obtain⟨F₂,s₂,hq,n₂,h2⟩:=ih h
   refine⟨F₂,s₂,hq,n₂,fun m hm=>?_⟩
   simp only[opsF,hw]
   exact h2 m O
theorem Code0.mono{c:Code}{F:FF}{s:St}{Q Q':FOut→Prop}(h:Code0 P I c F s Q)(hq:∀o,Q o→Q' o):Code0 P I c F s Q':=by
 obtain⟨o,h1,h2⟩:=h
 exact⟨o,hq _ h1,h2⟩
theorem CodeW.mono{c:Code}{F:FF}{s:St}{Q Q':FOut→Prop}(h:CodeW P I c F s Q)(hq:∀o,Q o→Q' o):CodeW P I c F s Q':=by
 induction c generalizing F s Q Q' with
 |skip|exit|ret=>exact hq _ h
 |seq x y hx hy=>
  refine hx (Q:=seqQ P I y Q) (Q':=seqQ P I y Q') h fun o ho=>?_
  cases o with
  |normal=>exact hy ho hq
  |_=>exact hq _ ho
 |block id b hb=>
  refine hb (Q:=blockQ id Q) (Q':=blockQ id Q') h fun o ho=>?_
  cases o with
  |exit i=>
   simp only[blockQ]at ho ⊢
   split at ho<;>exact hq _ ho
  |_=>exact hq _ ho
 |cond c x y hx hy=>
  unfold CodeW at h ⊢
  cases hc:boolOf (yQ F c)with
  |none=>rw[hc]at h;exact h.elim
  |some b=>
   rw[hc]at h
   cases b with
   |true=>exact hx h hq
   |false=>exact hy h hq
 |region id ops d=>
  cases d
  ·exact OpsW.mono h fun _ _=>hq _
  ·exact Code0.mono h hq
 |_=>exact Code0.mono h hq
theorem zD{ops:List Oper}{F:FF}{s:St}{Q:FF→St→Prop}(h:Q F s):OpsW P I ops [] F s Q:=h
theorem ops_on{ops:List Oper}{o:Oper}{rest:List Oper}{F:FF}{s:St}{Q:FF→St→Prop}(hw:qV ops F o=true)
  (h:OpW P I o F s fun F s=>OpsW P I ops rest F s Q):OpsW P I ops (o::rest) F s Q:=by unfold OpsW;rw[hw];exact h
theorem zO{ops:List Oper}{o:Oper}{rest:List Oper}{F:FF}{s:St}{Q:FF→St→Prop}(hw:qV ops F o=false)
  (h:OpsW P I ops rest (upd F o.dst undef) s Q):OpsW P I ops (o::rest) F s Q:=by unfold OpsW;rw[hw];exact h
theorem zU{ops:List Oper}{F:FF}{s:St}{Q:FF→St→Prop}(h:Q F s):kC P I ops [] F s Q:=⟨F,s,h,0,fun _ _=>rfl⟩
theorem zW{ops:List Oper}{d:Drawn}{o:Oper}{rest:List Drawn}{F:FF}{s:St}{Q:FF→St→Prop}(hg:qG ops d.ix=some o)(hw:qV ops F o=false)
  (h:kC P I ops rest (upd F o.dst undef) s Q):kC P I ops (d::rest) F s Q:=by
 obtain⟨F₂,s₂,hq,n₂,h2⟩:=h
 refine⟨F₂,s₂,hq,n₂,fun m hm=>?_⟩
 simp only[drawF,hg,drawOpF,hw]
 exact h2 m O
theorem zA{ops:List Oper}{ix anc:Nat}{free:List Nat}{o:Oper}{rest:List Drawn}{F:FF}{s:St}{Q:FF→St→Prop}(hg:qG ops ix=some o)(hw:qV ops F o=true)
  (h:OpW P I o F {next:=s.next,bar:=s.next,prot:=[],heap:=only s (kH F o)} fun F' s'=>s'.next=s.next∧kC P I ops rest F' s Q) :
  kC P I ops (⟨ix,anc,.light,free⟩::rest) F s Q:=by
 obtain⟨F₁,s₁,⟨hn,F₂,s₂,hq,n₂,h2⟩,n₁,h1⟩:=h
 refine⟨F₂,s₂,hq,n₁+n₂,fun m hm=>?_⟩
 have hb:Nat.beq s₁.next s.next=true:=by rw[hn];exact Nat.beq_refl _
 simp only[drawF,hg,drawOpF,hw,h1 m O,hb]
 exact h2 m O
theorem zM{ops:List Oper}{ix anc:Nat}{free:List Nat}{o:Oper}{rest:List Drawn}{F:FF}{s:St}{Q:FF→St→Prop}(hg:qG ops ix=some o)(hw:qV ops F o=true)
  (h:OpW P I o F {s with prot:=qP ops F free++s.prot} fun F' s'=>kC P I ops rest F' {next:=s'.next,bar:=s.bar,prot:=s.prot,heap:=s'.heap} Q) :
  kC P I ops (⟨ix,anc,.whole,free⟩::rest) F s Q:=by
 obtain⟨F₁,s₁,⟨F₂,s₂,hq,n₂,h2⟩,n₁,h1⟩:=h
 refine⟨F₂,s₂,hq,n₁+n₂,fun m hm=>?_⟩
 simp only[drawF,hg,drawOpF,hw,h1 m O]
 exact h2 m O
theorem yK{ops:List Oper}{ix anc:Nat}{free:List Nat}{o:Oper}{rest:List Drawn}{F:FF}{s:St}{Q:FF→St→Prop}(hg:qG ops ix=some o)(hw:qV ops F o=true)
  (h:OpW P I o F {s with bar:=s.next} fun F' s'=>kC P I ops rest F' {next:=s'.next,bar:=s.bar,prot:=s.prot,heap:=s'.heap} Q) :
  kC P I ops (⟨ix,anc,.fresh,free⟩::rest) F s Q:=by
 obtain⟨F₁,s₁,⟨F₂,s₂,hq,n₂,h2⟩,n₁,h1⟩:=h
 refine⟨F₂,s₂,hq,n₁+n₂,fun m hm=>?_⟩
 simp only[drawF,hg,drawOpF,hw,h1 m O]
 exact h2 m O
theorem draw_new{ops:List Oper}{ix anc:Nat}{free:List Nat}{t:Tmp}{e:TypeId}{ty:TypeId}{pos:String}{af:Array Edge}{g:Option (Nat×Bool)}{ob:MObj}{rest:List Drawn}{F:FF}{s:St}{Q:FF→St→Prop}(hg:qG ops ix=some ⟨some t,.alloc e,ty,pos,af,g⟩)(hw:qV ops F ⟨some t,.alloc e,ty,pos,af,g⟩=true)(hroom:s.room=true)
  (hv:yX P (yQ F) (.alloc e) {next:=s.next,bar:=s.next,prot:=[],heap:=.nil}=.ok (.value (.pointer (some ⟨s.next,0,none⟩))) (({next:=s.next,bar:=s.next,prot:=[],heap:=.nil}:St).new ob))
  (h:kC P I ops rest (upd F (some t) (.pointer (some ⟨s.next,0,none⟩))) (s.new ob) Q) :
  kC P I ops (⟨ix,anc,.new,free⟩::rest) F s Q:=by
 obtain⟨F₂,s₂,hq,n₂,h2⟩:=h
 refine⟨F₂,s₂,hq,n₂,fun m hm=>?_⟩
 have hb:kH (upd F (some t) (.pointer (some ⟨s.next,0,none⟩))) ⟨some t,.alloc e,ty,pos,af,g⟩=some s.next:=by
  simp[kH,upd]
 have hn:(({next:=s.next,bar:=s.next,prot:=[],heap:=.nil}:St).new ob).next=s.next+1:=rfl
 have hr:=room_lt hroom
 have hgo:(({next:=s.next,bar:=s.next,prot:=[],heap:=.nil}:St).new ob).get s.next=some ob:=by
  rw[St.get_new (by show s.next+1<_;omega)]
  exact if_pos J
 simp only[drawF,hg,drawOpF,hw,opF,hv,hb,hn,hgo,hroom,Nat.beq_refl,Bool.and_self]
 exact h2 m hm
theorem CodeW.ends{c:Code}{F:FF}{s:St}{Q:FOut→Prop}(h:CodeW P I c F s Q):Code0 P I c F s Q:=by
 induction c generalizing F s Q with
 |skip|exit|ret=>
  refine⟨_,h,1,fun m hm=>?_⟩
  obtain⟨m,rfl⟩:∃k,m=k+1:=⟨m-1,by omega⟩
  rfl
 |seq x y hx hy=>
  obtain⟨o,hq,n,hn⟩:=hx (Q:=seqQ P I y Q) h
  cases o with
  |normal F₁ s₁=>
   obtain⟨o₂,hq2,n₂,hn2⟩:=hy hq
   refine⟨o₂,hq2,n+n₂+1,fun m hm=>?_⟩
   obtain⟨m,rfl⟩:∃k,m=k+1:=⟨m-1,by omega⟩
   simp only[kG,hn m O]
   exact hn2 m O
  |_=>
   refine⟨_,hq,n+1,fun m hm=>?_⟩
   obtain⟨m,rfl⟩:∃k,m=k+1:=⟨m-1,by omega⟩
   simp only[kG,hn m O]
 |block id b hb=>
  obtain⟨o,hq,n,hn⟩:=hb (Q:=blockQ id Q) h
  cases o with
  |exit i F₁ s₁=>
   cases hb:Nat.beq i id with
   |_=>
    simp only[blockQ,hb]at hq
    refine⟨_,hq,n+1,fun m hm=>?_⟩
    obtain⟨m,rfl⟩:∃k,m=k+1:=⟨m-1,by omega⟩
    simp only[kG,hn m O,hb]
  |_=>
   refine⟨_,hq,n+1,fun m hm=>?_⟩
   obtain⟨m,rfl⟩:∃k,m=k+1:=⟨m-1,by omega⟩
   simp only[kG,hn m O]
 |cond c x y hx hy=>
  unfold CodeW at h
  cases hc:boolOf (yQ F c)with
  |none=>rw[hc]at h;exact h.elim
  |some b=>
   rw[hc]at h
   have hc:=boolOf_some hc
   cases b with
   |true=>
    obtain⟨o,hq,n,hn⟩:=hx h
    refine⟨o,hq,n+1,fun m hm=>?_⟩
    obtain⟨m,rfl⟩:∃k,m=k+1:=⟨m-1,by omega⟩
    simp only[kG,hc]
    exact hn m O
   |false=>
    obtain⟨o,hq,n,hn⟩:=hy h
    refine⟨o,hq,n+1,fun m hm=>?_⟩
    obtain⟨m,rfl⟩:∃k,m=k+1:=⟨m-1,by omega⟩
    simp only[kG,hc]
    exact hn m O
 |region id ops d=>
  cases d with
  |true=>exact h
  |false=>
   obtain⟨F₁,s₁,hq,n,hn⟩:=OpsW.ends h
   refine⟨_,hq,n+1,fun m hm=>?_⟩
   obtain⟨m,rfl⟩:∃k,m=k+1:=⟨m-1,by omega⟩
   simp only[kG]
   exact hn m O
 |_=>exact h
theorem yN{F:FF}{s:St}{Q:FOut→Prop}(h:Q (.normal F s)):CodeW P I .skip F s Q:=h
theorem ql{id:Nat}{F:FF}{s:St}{Q:FOut→Prop}(h:Q (.exit id F s)):CodeW P I (.exit id) F s Q:=h
theorem yO{F:FF}{s:St}{Q:FOut→Prop}(h:Q (.ret F s)):CodeW P I .ret F s Q:=h
theorem yE{x y:Code}{F:FF}{s:St}{Q:FOut→Prop}(h:CodeW P I x F s (seqQ P I y Q)):CodeW P I (.seq x y) F s Q:=h
theorem yJ{c:Operand}{x y:Code}{F:FF}{s:St}{Q:FOut→Prop}(hc:yQ F c=.bool true)(h:CodeW P I x F s Q):CodeW P I (.cond c x y) F s Q:=by unfold CodeW;rw[hc];exact h
theorem yL{c:Operand}{x y:Code}{F:FF}{s:St}{Q:FOut→Prop}(hc:yQ F c=.bool false)(h:CodeW P I y F s Q):CodeW P I (.cond c x y) F s Q:=by unfold CodeW;rw[hc];exact h
theorem cw_cond{b:Bool}{c:Operand}{x y:Code}{F:FF}{s:St}{Q:FOut→Prop}(hc:yQ F c=.bool b)(h1:b=true→CodeW P I x F s Q)(h2:b=false→CodeW P I y F s Q):CodeW P I (.cond c x y) F s Q:=by
 cases b with
 |true=>exact yJ hc (h1 rfl)
 |false=>exact yL hc (h2 rfl)
theorem yR{id:Nat}{b:Code}{F:FF}{s:St}{Q:FOut→Prop}(h:CodeW P I b F s (blockQ id Q)):CodeW P I (.block id b) F s Q:=h
def loopQ(Inv:Nat→FF→St→Prop)(k:Nat)(Q:FOut→Prop):FOut→Prop
 | .normal F s=>∃k',k'<k∧Inv k' F s
 |o=>Q o
theorem xR{b:Code}{Q:FOut→Prop}(Inv:Nat→FF→St→Prop)(step:∀k F s,Inv k F s→CodeW P I b F s (loopQ Inv k Q)) :
  ∀(k:Nat) (F:FF) (s:St),Inv k F s→CodeW P I (.loop b) F s Q:=by
 intro k
 induction k using Nat.strongRecOn with
 |_ k ih=>
  intro F s hi
  obtain⟨o,hq,n,hn⟩:=(step k F s hi).ends
  cases o with
  |normal F₁ s₁=>
   obtain⟨k',hk,hi'⟩:=hq
   obtain⟨o₂,hq2,n₂,hn2⟩:=ih k' hk F₁ s₁ hi'
   refine⟨o₂,hq2,n+n₂+1,fun m hm=>?_⟩
   obtain⟨m,rfl⟩:∃k,m=k+1:=⟨m-1,by omega⟩
   simp only[kG,hn m O]
   exact hn2 m O
  |exit i F₁ s₁=>
   refine⟨_,hq,n+1,fun m hm=>?_⟩
   obtain⟨m,rfl⟩:∃k,m=k+1:=⟨m-1,by omega⟩
   simp only[kG,hn m O]
  |ret F₁ s₁=>
   refine⟨_,hq,n+1,fun m hm=>?_⟩
   obtain⟨m,rfl⟩:∃k,m=k+1:=⟨m-1,by omega⟩
   simp only[kG,hn m O]
  |stuck=>
   refine⟨_,hq,n+1,fun m hm=>?_⟩
   obtain⟨m,rfl⟩:∃k,m=k+1:=⟨m-1,by omega⟩
   simp only[kG,hn m O]
theorem yA{id:Nat}{ops:Array Oper}{F:FF}{s:St}{Q:FOut→Prop}(h:OpsW P I ops.toList ops.toList F s fun F s=>Q (.normal F s)):CodeW P I (.region id ops false) F s Q:=h
theorem wT{id:Nat}{ops:Array Oper}{F:FF}{s:St}{Q:FOut→Prop}(l:List Drawn)(hb:planB ops.toList (plan ops.toList)=true)(hl:plan ops.toList=l)
  (h:kC P I ops.toList l F s fun F s=>Q (.normal F s)):CodeW P I (.region id ops true) F s Q:=by
 obtain⟨F₁,s₁,hq,n,hn⟩:=h
 refine⟨_,hq,n+1,fun m hm=>?_⟩
 obtain⟨m,rfl⟩:∃k,m=k+1:=⟨m-1,by omega⟩
 simp only[kG,hb]
 rw[hl]
 exact hn m O
theorem zE{id:Nat}{ops:Array Oper}{y:Code}{F:FF}{s:St}{Q:FOut→Prop}(h:OpsW P I ops.toList ops.toList F s fun F s=>CodeW P I y F s Q):CodeW P I (.seq (.region id ops false) y) F s Q:=
 yE (yA h)
theorem yT{id:Nat}{ops:Array Oper}{y:Code}{F:FF}{s:St}{Q:FOut→Prop}(l:List Drawn)(hb:planB ops.toList (plan ops.toList)=true)(hl:plan ops.toList=l)
  (h:kC P I ops.toList l F s fun F s=>CodeW P I y F s Q):CodeW P I (.seq (.region id ops true) y) F s Q:=
 yE (wT l hb hl h)
def Slots(F:FF):List (Nat×Value)→Prop
 | []=>True
 |(d,v)::l=>F d=v∧Slots F l
def lay(G:FF):List (Nat×Value)→FF
 | []=>G
 |(d,v)::l=>upd (lay G l) (some d) v
theorem lay_self{F:FF}:∀{l:List (Nat×Value)},Slots F l→lay F l=F
 | [],_=>rfl
 |(d,v)::l,h=>by
  funext t
  simp only[lay,upd_eq,lay_self h.2]
  split
  ·next e=>rw[e];exact h.1.symm
  ·rfl
theorem yZ{F:FF}{l:List (Nat×Value)}(h:Slots F l):F=lay F l:=(lay_self h).symm
theorem cw_frame{c:Code}{F:FF}{s:St}{Q:FOut→Prop}(l:List (Nat×Value))(h:Slots F l)(k:∀G,CodeW P I c (lay G l) s Q):CodeW P I c F s Q:=by
 have:=k F
 rwa[lay_self h]at this
theorem ow_frame{ops r:List Oper}{F:FF}{s:St}{Q:FF→St→Prop}(l:List (Nat×Value))(h:Slots F l)(k:∀G,OpsW P I ops r (lay G l) s Q):OpsW P I ops r F s Q:=by
 have:=k F
 rwa[lay_self h]at this
def fillF:List Value→Nat→FF→FF
 | [],_,F=>F
 |v::l,n,F=>fillF l (n+1) (upd F (some n) v)
def frameOf(args:Array Value):FF:=fillF args.toList 0 fun _=>undef
theorem agrees_fill:∀(l:List Value) (n N:Nat) (F:FF) (t:Tr Value),n+l.length≤N→Agrees N F ⟨N,t⟩→Agrees N (fillF l n F) ⟨N,fillT l n t⟩
 | [],_,_,_,_,_,h=>h
 |v::l,n,N,F,t,hn,h=>by
  simp only[List.length_cons]at hn
  simp only[fillF,fillT]
  refine agrees_fill l (n+1) N _ _ O ?_
  have:=h.put (some n) v
  have hb:Nat.blt n N=true:=blt_true O
  simpa only[Fr.put,hb]using this
theorem agrees_make{args:Array Value}{N:Nat}(h1:args.toList.length≤N)(h2:N≤65534):Agrees N (frameOf args) (Fr.make args N):=by
 refine agrees_fill _ 0 N _ _ O ⟨J,h2,fun t _=>?_⟩
 simp[Fr.get,Tr.get]
def vD(P:Program)(F:FF)(s:St):List ResultVar→Option (List Value)
 | []=>some []
 | .tmp t::l=>match vD P F s l with
  |some r=>some (F t::r)
  |none=>none
 | .cell t ty::l=>match loadV P ty (F t) s,vD P F s l with
  |some v,some r=>some (v::r)
  |_,_=>none
def resultB(N:Nat):ResultVar→Bool
 | .tmp t=>Nat.blt t N
 | .cell t _=>Nat.blt t N
theorem results_sim{N:Nat}{F:FF}{a:Fr}{s:St}(h:Agrees N F a):∀l:List ResultVar,l.all (resultB N)=true→vM P a s l=vD P F s l
 | [],_=>rfl
 | .tmp t::l,hl=>by
  simp only[List.all_cons,Bool.and_eq_true,resultB]at hl
  simp only[vM,vD]
  rw[results_sim h l (by simpa using hl.2),h.get t (Nat.le_of_ble_eq_true hl.1)]
  rfl
 | .cell t ty::l,hl=>by
  simp only[List.all_cons,Bool.and_eq_true,resultB]at hl
  simp only[vM,vD]
  rw[results_sim h l (by simpa using hl.2),h.get t (Nat.le_of_ble_eq_true hl.1)]
  rfl
structure endQ(P:Program)(rs:List ResultVar)(Post:Value→St→Prop)(F:FF)(s:St):Prop where
 ex:match vD P F s rs with
 |some [v]=>Post v s
 |some l=>Post (.tuple ⟨l⟩) s
 |none=>False
def retQ(P:Program)(rs:List ResultVar)(Post:Value→St→Prop):FOut→Prop
 | .normal F s=>endQ P rs Post F s
 | .ret F s=>endQ P rs Post F s
 |_=>False
def xK(fn:Func)(c:Code)(n:Nat):Bool:=
 Nat.ble n fn.ntmps&&Nat.ble fn.ntmps 65534&&vK c&&codeN fn.ntmps c&&fn.results.toList.all (resultB fn.ntmps)
theorem yV{t:Nat}{F:FF}{s:St}{Post:Value→St→Prop}(h:Post (F t) s):endQ P [.tmp t] Post F s:=⟨h⟩
theorem yB{rs:List ResultVar}{F:FF}{s:St}{Post:Value→St→Prop}(h:endQ P rs Post F s):retQ P rs Post (.ret F s):=h
theorem nrm_end{rs:List ResultVar}{F:FF}{s:St}{Post:Value→St→Prop}(h:endQ P rs Post F s):retQ P rs Post (.normal F s):=h
theorem zR{k:FF→St→Prop}{Q:FOut→Prop}{F:FF}{s:St}(h:k F s):seqK k Q (.normal F s):=h
theorem xI{k:FF→St→Prop}{Q:FOut→Prop}{F:FF}{s:St}(h:Q (.ret F s)):seqK k Q (.ret F s):=h
theorem xU{k:FF→St→Prop}{Q:FOut→Prop}{i:Nat}{F:FF}{s:St}(h:Q (.exit i F s)):seqK k Q (.exit i F s):=h
theorem xF{id:Nat}{Q:FOut→Prop}{F:FF}{s:St}(h:Q (.normal F s)):blockQ id Q (.normal F s):=h
theorem qc{id:Nat}{Q:FOut→Prop}{F:FF}{s:St}(h:Q (.ret F s)):blockQ id Q (.ret F s):=h
theorem xX{id:Nat}{Q:FOut→Prop}{F:FF}{s:St}(h:Q (.normal F s)):blockQ id Q (.exit id F s):=by
 simp only[blockQ,Nat.beq_refl];exact h
theorem blk_exit{id i:Nat}{Q:FOut→Prop}{F:FF}{s:St}(hi:Nat.beq i id=false)(h:Q (.exit i F s)):blockQ id Q (.exit i F s):=by
 simp only[blockQ,hi];exact h
theorem xG{Inv:Nat→FF→St→Prop}{k:Nat}{Q:FOut→Prop}{F:FF}{s:St}(h:∃k',k'<k∧Inv k' F s):loopQ Inv k Q (.normal F s):=h
theorem kX{Inv:Nat→FF→St→Prop}{k:Nat}{Q:FOut→Prop}{F:FF}{s:St}(h:Q (.ret F s)):loopQ Inv k Q (.ret F s):=h
theorem xZ{Inv:Nat→FF→St→Prop}{k i:Nat}{Q:FOut→Prop}{F:FF}{s:St}(h:Q (.exit i F s)):loopQ Inv k Q (.exit i F s):=h
theorem zX{f:FuncId}{args:Array Value}{s:St}{fn:Func}{c:Code}{Post:Value→St→Prop}(n:Nat)(hI:I f=none)(hf:P.funcs[f]? = some fn)(hb:fn.body=some c)(hc:xK fn c n=true)
  (hn:args.toList.length=n) (h:CodeW P I c (frameOf args) s (retQ P fn.results.toList Post)) (hlow:Nat.ble qK f=false:=by exact rfl):∃v s',xN P I f args s v s'∧Post v s':=by
 simp only[xK,Bool.and_eq_true]at hc
 replace h:=h.ends
 obtain⟨⟨⟨⟨h1,h2⟩,h3⟩,h4⟩,h5⟩:=hc
 obtain⟨o,hq,k,hk⟩:=h
 have hag:Agrees fn.ntmps (frameOf args) (Fr.make args fn.ntmps):=agrees_make (by rw[hn];exact Nat.le_of_ble_eq_true h1) (Nat.le_of_ble_eq_true h2)
 have hgate:(Nat.ble (ks args.toList 0) fn.ntmps&&Nat.ble fn.ntmps 65534&&vK c)=true:=by
  rw[vB,hn,Nat.add_zero,h1,h2,h3];rfl
 have hfin:∀F s',endQ P fn.results.toList Post F s'→∃v,Post v s'∧∀a,Agrees fn.ntmps F a→finish P fn a s'=.ret v s':=by
  intro F s' he
  replace he:=he.ex
  split at he
  ·next v hv=>exact⟨v,he,fun a ha=>by unfold finish;rw[results_sim ha _ h5,hv]⟩
  ·next l hl hv=>
   refine⟨_,he,fun a ha=>?_⟩
   unfold finish
   rw[results_sim ha _ h5,hv]
   cases l with
   |nil=>rfl
   |cons x l=>cases l with
    |nil=>exact(hl x rfl).elim
    |cons y l=>rfl
  ·exact he.elim
 have hsim:=fun m=>code_sim (P:=P) (I:=I) m c (frameOf args) (Fr.make args fn.ntmps) s h4 hag
 cases o with
 |normal F s'=>
  obtain⟨v,hv2,hv⟩:=hfin F s' hq
  refine⟨v,s',⟨k,fun m hmk=>?_⟩,hv2⟩
  have h0:=hsim m
  rw[hk m hmk]at h0
  simp only[callM,qY,hlow,hI,hf,hb,bodyM,hgate]
  cases hm2:qF P I m c (Fr.make args fn.ntmps) s with
  |normal a₃ s₃=>
   rw[hm2]at h0
   obtain⟨rfl,ha3⟩:=h0
   exact hv a₃ ha3
  |_=>rw[hm2]at h0;exact h0.elim
 |ret F s'=>
  obtain⟨v,hv2,hv⟩:=hfin F s' hq
  refine⟨v,s',⟨k,fun m hmk=>?_⟩,hv2⟩
  have h0:=hsim m
  rw[hk m hmk]at h0
  simp only[callM,qY,hlow,hI,hf,hb,bodyM,hgate]
  cases hm2:qF P I m c (Fr.make args fn.ntmps) s with
  |ret a₃ s₃=>
   rw[hm2]at h0
   obtain⟨rfl,ha3⟩:=h0
   exact hv a₃ ha3
  |_=>rw[hm2]at h0;exact h0.elim
 |exit i F s'=>exact hq.elim
 |stuck=>exact hq.elim
end
end Go.M
namespace Go.M
abbrev Hp':=List (Nat×MObj)
def yC:Nat:=281474976710655
structure HL(W:List Nat)(s0 s:St)(L:Hp')(n:Nat):Prop where
 bar:s.bar=s0.bar
 prot:s.prot=s0.prot
 wfb:s0.bar≤s0.next
 wfp:∀p,p∈s0.prot→p<s0.next
 le:s0.next≤s.next
 most:s.next≤s0.next+n
 own:∀p,p∈L→s.get p.1=some p.2∧p.1<s.next∧s.may p.1=true∧(s0.next≤p.1∨p.1∈W)
 dist:L.Pairwise fun p q=>p.1≠q.1
 kept:∀b,b<s0.next→b∉W→s.get b=s0.get b
structure Fine(s:St):Prop where
 wfb:s.bar≤s.next
 wfp:∀p,p∈s.prot→p<s.next
theorem Fine.hl{s:St}(h:Fine s):HL [] s s [] 0:=
 ⟨rfl,rfl,h.wfb,h.wfp,Nat.le_refl _,Nat.le_refl _,fun _ h=>(by cases h),.nil,fun _ _ _=>rfl⟩
theorem may_of{s:St}{b:Nat}(h1:s.bar≤b)(h2:b∉s.prot):s.may b=true:=by
 simp only[St.may,Bool.and_eq_true,Bool.not_eq_true']
 refine⟨Nat.ble_eq_true_of_le h1,?_⟩
 rw[Bool.eq_false_iff]
 intro h
 rw[List.any_eq_true]at h
 obtain⟨x,hx,he⟩:=h
 have:=Nat.eq_of_beq_eq_true he
 subst this
 exact h2 hx
section
variable{W:List Nat}{s0 s:St}{L:Hp'}{n:Nat}
theorem HL.fine(H:HL W s0 s L n):Fine s:=⟨by have:=H.bar;have:=H.wfb;have:=H.le;omega,fun p hp=>by rw[H.prot]at hp;have:=H.wfp p hp;have:=H.le;omega⟩
theorem HL.up(H:HL W s0 s L n){n':Nat}(h:n≤n'):HL W s0 s L n':={H with most:=by have:=H.most;omega}
theorem HL.sub(H:HL W s0 s L n){L':Hp'}(h:L'.Sublist L):HL W s0 s L' n:=
 {H with own:=fun p hp=>H.own p (h.subset hp),dist:=H.dist.sublist h}
theorem HL.may_next(H:HL W s0 s L n):s.may s.next=true:=by
 refine may_of (by have:=H.bar;have:=H.wfb;have:=H.le;omega) fun h=>?_
 rw[H.prot]at h
 have:=H.wfp _ h
 have:=H.le
 omega
theorem HL.new(H:HL W s0 s L n)(o:MObj)(hr:s0.next+n<yC):HL W s0 (s.new o) ((s.next,o)::L) (n+1):=by
 have hm:=H.most
 have hle:=H.le
 unfold yC at hr
 have hg:=fun b'=>St.get_new (s:=s) O o b'
 refine⟨H.bar,H.prot,H.wfb,H.wfp,by simp only[St.new_next];omega,by simp only[St.new_next];omega,fun p hp=>?_,?_,fun b hb hw=>?_⟩
 ·rcases List.mem_cons.mp hp with rfl|hp
  ·refine⟨by rw[hg];simp,by simp only[St.new_next];omega,?_,.inl hle⟩
   exact H.may_next
  ·obtain⟨h1,h2,h3,h4⟩:=H.own p hp
   refine⟨by rw[hg,if_neg O];exact h1,by simp only[St.new_next];omega,h3,h4⟩
 ·exact List.Pairwise.cons (fun q hq=>by have:=(H.own q hq).2.1;simp only;omega) H.dist
 ·rw[hg,if_neg O];exact H.kept b hb hw
theorem HL.room(H:HL W s0 s L n)(hr:s0.next+n<yC):s.room=true:=by
 have hm:=H.most
 unfold yC at hr
 simp only[St.room,Nat.blt_eq]
 omega
theorem HL.putAt(A:Hp'){B:Hp'}{b:Nat}{o:MObj}(H:HL W s0 s (A++(b,o)::B) n)(o':MObj)(hr:s0.next+n≤yC):HL W s0 (s.put b (some o')) (A++(b,o')::B) n:=by
 have hm:=H.most
 unfold yC at hr
 obtain⟨hb1,hb2,hb3,hb4⟩:=H.own (b,o) Y8
 have hg:=fun b'=>St.get_put (s:=s) (b:=b) (by simp only at hb2;omega) (some o') b'
 have hd:=H.dist
 rw[List.pairwise_append,List.pairwise_cons]at hd
 obtain⟨d1,⟨d2,d3⟩,d4⟩:=hd
 refine⟨H.bar,H.prot,H.wfb,H.wfp,H.le,H.most,fun p hp=>?_,?_,fun b' hb hw=>?_⟩
 ·rcases List.mem_append.mp hp with hp|hp
  ·obtain⟨h1,h2,h3,h4⟩:=H.own p (by simp[hp])
   have hne:p.1≠b:=d4 p hp (b,o) Y8
   exact⟨by rw[hg,if_neg hne];exact h1,h2,h3,h4⟩
  ·rcases List.mem_cons.mp hp with rfl|hp
   ·exact⟨by rw[hg];simp,hb2,hb3,hb4⟩
   ·obtain⟨h1,h2,h3,h4⟩:=H.own p (by simp[hp])
    have hne:p.1≠b:=fun e=>d2 p hp e.symm
    exact⟨by rw[hg,if_neg hne];exact h1,h2,h3,h4⟩
 ·rw[List.pairwise_append,List.pairwise_cons]
  refine⟨d1,⟨fun q hq=>d2 q hq,d3⟩,fun a ha c hc=>?_⟩
  rcases List.mem_cons.mp hc with rfl|hc
  ·exact d4 a ha (b,o) Y8
  ·exact d4 a ha c (by simp[hc])
 ·rw[hg]
  split
  ·next e=>
   subst e
   rcases hb4 with h|h
   ·simp only at h;omega
   ·exact(hw h).elim
  ·exact H.kept b' hb hw
theorem HL.killAt(A:Hp'){B:Hp'}{b:Nat}{o:MObj}(H:HL W s0 s (A++(b,o)::B) n)(hr:s0.next+n≤yC):HL W s0 (s.put b none) (A++B) n:=by
 have hm:=H.most
 unfold yC at hr
 obtain⟨hb1,hb2,hb3,hb4⟩:=H.own (b,o) Y8
 have hg:=fun b'=>St.get_put (s:=s) (b:=b) (by simp only at hb2;omega) none b'
 have hd:=H.dist
 rw[List.pairwise_append,List.pairwise_cons]at hd
 obtain⟨d1,⟨d2,d3⟩,d4⟩:=hd
 refine⟨H.bar,H.prot,H.wfb,H.wfp,H.le,H.most,fun p hp=>?_,?_,fun b' hb hw=>?_⟩
 ·rcases List.mem_append.mp hp with hp|hp
  ·obtain⟨h1,h2,h3,h4⟩:=H.own p (by simp[hp])
   have hne:p.1≠b:=d4 p hp (b,o) Y8
   exact⟨by rw[hg,if_neg hne];exact h1,h2,h3,h4⟩
  ·obtain⟨h1,h2,h3,h4⟩:=H.own p (by simp[hp])
   have hne:p.1≠b:=fun e=>d2 p hp e.symm
   exact⟨by rw[hg,if_neg hne];exact h1,h2,h3,h4⟩
 ·rw[List.pairwise_append]
  exact⟨d1,d3,fun a ha c hc=>d4 a ha c (by simp[hc])⟩
 ·rw[hg]
  split
  ·next e=>
   subst e
   rcases hb4 with h|h
   ·simp only at h;omega
   ·exact(hw h).elim
  ·exact H.kept b' hb hw
theorem HL.call(H:HL W s0 s L n){s':St}{L':Hp'}{k:Nat}(H':HL [] s s' L' k):HL W s0 s' (L'++L) (n+k):=by
 have hm:=H.most
 have hm':=H'.most
 have hle:=H.le
 have hle':=H'.le
 refine⟨H'.bar.trans H.bar,H'.prot.trans H.prot,H.wfb,H.wfp,by omega,by omega,fun p hp=>?_,?_,fun b hb hw=>?_⟩
 ·rcases List.mem_append.mp hp with hp|hp
  ·obtain⟨h1,h2,h3,h4⟩:=H'.own p hp
   refine⟨h1,h2,h3,.inl ?_⟩
   rcases h4 with h|h
   ·omega
   ·cases h
  ·obtain⟨h1,h2,h3,h4⟩:=H.own p hp
   refine⟨by rw[H'.kept _ h2 Y8];exact h1,by omega,?_,h4⟩
   rw[St.may_eq H'.bar H'.prot];exact h3
 ·rw[List.pairwise_append]
  refine⟨H'.dist,H.dist,fun a ha c hc=>?_⟩
  have h1:=(H'.own a ha).2.2.2
  have h2:=(H.own c hc).2.1
  rcases h1 with h|h
  ·omega
  ·cases h
 ·rw[H'.kept b O Y8];exact H.kept b hb hw
theorem HL.call0(H:HL W s0 s L n){s':St}{k:Nat}(H':HL [] s s' [] k):HL W s0 s' L (n+k):=H.call H'
theorem HL.old(H:HL [] s0 s L n){b:Nat}{o:Option MObj}(hb:b<s0.next)(h:s0.get b=o):s.get b=o:=by rw[H.kept b hb Y8];exact h
theorem HL.own0{b:Nat}{o:MObj}(H:HL W s0 s ((b,o)::L) n):s.get b=some o:=(H.own (b,o) Y8).1
theorem HL.lt0{b:Nat}{o:MObj}(H:HL W s0 s ((b,o)::L) n):b<s.next:=(H.own (b,o) Y8).2.1
theorem HL.lim0{b:Nat}{o:MObj}(H:HL W s0 s ((b,o)::L) n)(hr:s0.next+n≤yC):b<yC:=by have h1:=(H.own (b,o) Y8).2.1;have h2:=H.most;simp only at h1;omega
theorem HL.put0{b:Nat}{o:MObj}(H:HL W s0 s ((b,o)::L) n)(o':MObj)(hr:s0.next+n≤yC):HL W s0 (s.put b (some o')) ((b,o')::L) n:=HL.putAt [] H o' hr
theorem HL.drop0{b:Nat}{o:MObj}(H:HL W s0 s ((b,o)::L) n):HL W s0 s (L) n:=H.sub (.cons _ (List.Sublist.refl _))
theorem HL.own1{p0:Nat×MObj}{b:Nat}{o:MObj}(H:HL W s0 s (p0::(b,o)::L) n):s.get b=some o:=(H.own (b,o) Y8).1
theorem HL.lt1{p0:Nat×MObj}{b:Nat}{o:MObj}(H:HL W s0 s (p0::(b,o)::L) n):b<s.next:=(H.own (b,o) Y8).2.1
theorem HL.lim1{p0:Nat×MObj}{b:Nat}{o:MObj}(H:HL W s0 s (p0::(b,o)::L) n)(hr:s0.next+n≤yC):b<yC:=by have h1:=(H.own (b,o) Y8).2.1;have h2:=H.most;simp only at h1;omega
theorem HL.put1{p0:Nat×MObj}{b:Nat}{o:MObj}(H:HL W s0 s (p0::(b,o)::L) n)(o':MObj)(hr:s0.next+n≤yC):HL W s0 (s.put b (some o')) (p0::(b,o')::L) n:=HL.putAt [p0] H o' hr
theorem HL.drop1{p0:Nat×MObj}{b:Nat}{o:MObj}(H:HL W s0 s (p0::(b,o)::L) n):HL W s0 s (p0::L) n:=H.sub (.cons_cons _ (.cons _ (List.Sublist.refl _)))
theorem HL.own2{p0 p1:Nat×MObj}{b:Nat}{o:MObj}(H:HL W s0 s (p0::p1::(b,o)::L) n):s.get b=some o:=(H.own (b,o) Y8).1
theorem HL.lt2{p0 p1:Nat×MObj}{b:Nat}{o:MObj}(H:HL W s0 s (p0::p1::(b,o)::L) n):b<s.next:=(H.own (b,o) Y8).2.1
theorem HL.lim2{p0 p1:Nat×MObj}{b:Nat}{o:MObj}(H:HL W s0 s (p0::p1::(b,o)::L) n)(hr:s0.next+n≤yC):b<yC:=by have h1:=(H.own (b,o) Y8).2.1;have h2:=H.most;simp only at h1;omega
theorem HL.put2{p0 p1:Nat×MObj}{b:Nat}{o:MObj}(H:HL W s0 s (p0::p1::(b,o)::L) n)(o':MObj)(hr:s0.next+n≤yC):HL W s0 (s.put b (some o')) (p0::p1::(b,o')::L) n:=HL.putAt [p0,p1] H o' hr
theorem HL.own3{p0 p1 p2:Nat×MObj}{b:Nat}{o:MObj}(H:HL W s0 s (p0::p1::p2::(b,o)::L) n):s.get b=some o:=(H.own (b,o) Y8).1
theorem HL.lt3{p0 p1 p2:Nat×MObj}{b:Nat}{o:MObj}(H:HL W s0 s (p0::p1::p2::(b,o)::L) n):b<s.next:=(H.own (b,o) Y8).2.1
theorem HL.lim3{p0 p1 p2:Nat×MObj}{b:Nat}{o:MObj}(H:HL W s0 s (p0::p1::p2::(b,o)::L) n)(hr:s0.next+n≤yC):b<yC:=by have h1:=(H.own (b,o) Y8).2.1;have h2:=H.most;simp only at h1;omega
theorem HL.put3{p0 p1 p2:Nat×MObj}{b:Nat}{o:MObj}(H:HL W s0 s (p0::p1::p2::(b,o)::L) n)(o':MObj)(hr:s0.next+n≤yC):HL W s0 (s.put b (some o')) (p0::p1::p2::(b,o')::L) n:=HL.putAt [p0,p1,p2] H o' hr
theorem HL.own4{p0 p1 p2 p3:Nat×MObj}{b:Nat}{o:MObj}(H:HL W s0 s (p0::p1::p2::p3::(b,o)::L) n):s.get b=some o:=(H.own (b,o) Y8).1
theorem HL.lt4{p0 p1 p2 p3:Nat×MObj}{b:Nat}{o:MObj}(H:HL W s0 s (p0::p1::p2::p3::(b,o)::L) n):b<s.next:=(H.own (b,o) Y8).2.1
theorem HL.lim4{p0 p1 p2 p3:Nat×MObj}{b:Nat}{o:MObj}(H:HL W s0 s (p0::p1::p2::p3::(b,o)::L) n)(hr:s0.next+n≤yC):b<yC:=by have h1:=(H.own (b,o) Y8).2.1;have h2:=H.most;simp only at h1;omega
theorem HL.put4{p0 p1 p2 p3:Nat×MObj}{b:Nat}{o:MObj}(H:HL W s0 s (p0::p1::p2::p3::(b,o)::L) n)(o':MObj)(hr:s0.next+n≤yC):HL W s0 (s.put b (some o')) (p0::p1::p2::p3::(b,o')::L) n:=HL.putAt [p0,p1,p2,p3] H o' hr
theorem HL.own5{p0 p1 p2 p3 p4:Nat×MObj}{b:Nat}{o:MObj}(H:HL W s0 s (p0::p1::p2::p3::p4::(b,o)::L) n):s.get b=some o:=(H.own (b,o) Y8).1
theorem HL.lt5{p0 p1 p2 p3 p4:Nat×MObj}{b:Nat}{o:MObj}(H:HL W s0 s (p0::p1::p2::p3::p4::(b,o)::L) n):b<s.next:=(H.own (b,o) Y8).2.1
theorem HL.lim5{p0 p1 p2 p3 p4:Nat×MObj}{b:Nat}{o:MObj}(H:HL W s0 s (p0::p1::p2::p3::p4::(b,o)::L) n)(hr:s0.next+n≤yC):b<yC:=by have h1:=(H.own (b,o) Y8).2.1;have h2:=H.most;simp only at h1;omega
theorem HL.put5{p0 p1 p2 p3 p4:Nat×MObj}{b:Nat}{o:MObj}(H:HL W s0 s (p0::p1::p2::p3::p4::(b,o)::L) n)(o':MObj)(hr:s0.next+n≤yC):HL W s0 (s.put b (some o')) (p0::p1::p2::p3::p4::(b,o')::L) n:=HL.putAt [p0,p1,p2,p3,p4] H o' hr
theorem HL.own6{p0 p1 p2 p3 p4 p5:Nat×MObj}{b:Nat}{o:MObj}(H:HL W s0 s (p0::p1::p2::p3::p4::p5::(b,o)::L) n):s.get b=some o:=(H.own (b,o) Y8).1
theorem HL.lim6{p0 p1 p2 p3 p4 p5:Nat×MObj}{b:Nat}{o:MObj}(H:HL W s0 s (p0::p1::p2::p3::p4::p5::(b,o)::L) n)(hr:s0.next+n≤yC):b<yC:=by have h1:=(H.own (b,o) Y8).2.1;have h2:=H.most;simp only at h1;omega
theorem HL.put6{p0 p1 p2 p3 p4 p5:Nat×MObj}{b:Nat}{o:MObj}(H:HL W s0 s (p0::p1::p2::p3::p4::p5::(b,o)::L) n)(o':MObj)(hr:s0.next+n≤yC):HL W s0 (s.put b (some o')) (p0::p1::p2::p3::p4::p5::(b,o')::L) n:=HL.putAt [p0,p1,p2,p3,p4,p5] H o' hr
theorem HL.own7{p0 p1 p2 p3 p4 p5 p6:Nat×MObj}{b:Nat}{o:MObj}(H:HL W s0 s (p0::p1::p2::p3::p4::p5::p6::(b,o)::L) n):s.get b=some o:=(H.own (b,o) Y8).1
end
section
variable{P:Program}{I:xP}{F:FF}{s:St}{Q:FF→St→Prop}{d:Option Tmp}{ty:TypeId}{pos:String}{af:Array Edge}{g:Option (Nat×Bool)}
theorem qf{o:Oper}{v:Value}{s':St}(h:yX P (yQ F) o.op s=.ok (.value v) s')(k:Q (upd F o.dst v) s'):OpW P I o F s Q:=
 ⟨_,_,k,0,fun m _=>by simp only[opF,h]⟩
theorem op_none{o:Oper}{s':St}(h:yX P (yQ F) o.op s=.ok .skip s')(k:Q (upd F o.dst undef) s'):OpW P I o F s Q:=
 ⟨_,_,k,0,fun m _=>by simp only[opF,h]⟩
theorem op_enter{o:Oper}{f:FuncId}{args:Array Value}{s₁:St}(h:yX P (yQ F) o.op s=.ok (.enter f args) s₁)(hr:∃v s',xN P I f args s₁ v s'∧Q (upd F o.dst v) s')(hlow:Nat.ble qK f=false:=by exact rfl):OpW P I o F s Q:=by
 obtain⟨v,s',⟨n,hn⟩,hq⟩:=hr
 exact⟨_,_,hq,n,fun m hm=>by simp only[opF,h,hlow,hn m hm]⟩
theorem xL{x:Operand}(k:Q (upd F d (yQ F x)) s):OpW P I ⟨d,.move x,ty,pos,af,g⟩ F s Q:=qf rfl k
theorem xT{x:Operand}(k:Q (upd F d (yQ F x)) s):OpW P I ⟨d,.assign x,ty,pos,af,g⟩ F s Q:=qf rfl k
theorem op_pick1{c a b:Operand}(hc:yQ F c=.bool true)(k:Q (upd F d (yQ F a)) s):OpW P I ⟨d,.pick c a b,ty,pos,af,g⟩ F s Q:=qf (by simp only[yX,pickM,hc];rfl) k
theorem op_pick0{c a b:Operand}(hc:yQ F c=.bool false)(k:Q (upd F d (yQ F b)) s):OpW P I ⟨d,.pick c a b,ty,pos,af,g⟩ F s Q:=qf (by simp only[yX,pickM,hc];rfl) k
theorem kB{v:Value}(k:Q (upd F d v) s):OpW P I ⟨d,.move (.const v),ty,pos,af,g⟩ F s Q:=xL k
theorem zG{v:Value}(k:Q (upd F d v) s):OpW P I ⟨d,.assign (.const v),ty,pos,af,g⟩ F s Q:=xT k
theorem xS{y w:Operand}{v:Value}(hc:yQ F y=.bool true)(k:Q (upd F d v) s):OpW P I ⟨d,.pick y (.const v) w,ty,pos,af,g⟩ F s Q:=op_pick1 hc k
theorem yY{y z:Operand}{v:Value}(hc:yQ F y=.bool false)(k:Q (upd F d v) s):OpW P I ⟨d,.pick y z (.const v),ty,pos,af,g⟩ F s Q:=op_pick0 hc k
theorem zC{x:Operand}{kd:IntKind}{a:Int}(hx:yQ F x=.int kd a)(k:Q (upd F d (.int kd a)) s):OpW P I ⟨d,.move x,ty,pos,af,g⟩ F s Q:=xL V9
theorem zL{x:Operand}{kd:IntKind}{a:Int}(hx:yQ F x=.int kd a)(k:Q (upd F d (.int kd a)) s):OpW P I ⟨d,.assign x,ty,pos,af,g⟩ F s Q:=xT V9
theorem zI{x:Operand}{b:Bool}(hx:yQ F x=.bool b)(k:Q (upd F d (.bool b)) s):OpW P I ⟨d,.move x,ty,pos,af,g⟩ F s Q:=xL V9
theorem zK{x:Operand}{b:Bool}(hx:yQ F x=.bool b)(k:Q (upd F d (.bool b)) s):OpW P I ⟨d,.assign x,ty,pos,af,g⟩ F s Q:=xT V9
theorem yD{y z w:Operand}{b:Bool}(hc:yQ F y=.bool true)(hx:yQ F z=.bool b)(k:Q (upd F d (.bool b)) s):OpW P I ⟨d,.pick y z w,ty,pos,af,g⟩ F s Q:=op_pick1 hc V9
theorem yG{y z w:Operand}{b:Bool}(hc:yQ F y=.bool false)(hx:yQ F w=.bool b)(k:Q (upd F d (.bool b)) s):OpW P I ⟨d,.pick y z w,ty,pos,af,g⟩ F s Q:=op_pick0 hc V9
theorem zH{x:Operand}{a:Option Addr}{m c:Nat}(hx:yQ F x=.slice a m c)(k:Q (upd F d (.slice a m c)) s):OpW P I ⟨d,.move x,ty,pos,af,g⟩ F s Q:=xL V9
theorem yU{x:Operand}{a:Option Addr}{m c:Nat}(hx:yQ F x=.slice a m c)(k:Q (upd F d (.slice a m c)) s):OpW P I ⟨d,.assign x,ty,pos,af,g⟩ F s Q:=xT V9
theorem op_moveP{x:Operand}{a:Option Addr}(hx:yQ F x=.pointer a)(k:Q (upd F d (.pointer a)) s):OpW P I ⟨d,.move x,ty,pos,af,g⟩ F s Q:=xL V9
theorem op_assignP{x:Operand}{a:Option Addr}(hx:yQ F x=.pointer a)(k:Q (upd F d (.pointer a)) s):OpW P I ⟨d,.assign x,ty,pos,af,g⟩ F s Q:=xT V9
theorem op_moveF{x:Operand}{fn:Fn}{a b:Array Value}(hx:yQ F x=.func fn a b)(k:Q (upd F d (.func fn a b)) s):OpW P I ⟨d,.move x,ty,pos,af,g⟩ F s Q:=xL V9
theorem qo{x:Operand}{vs:Array Value}(hx:yQ F x=.tuple vs)(k:Q (upd F d (.tuple vs)) s):OpW P I ⟨d,.move x,ty,pos,af,g⟩ F s Q:=xL V9
theorem qt{t:TypeId}{x:Operand}{b:Bool}(hx:yQ F x=.bool b)(k:Q (upd F d (.bool (!b))) s):OpW P I ⟨d,.unOp .not t x,ty,pos,af,g⟩ F s Q:=qf (by simp only[yX,unM,hx];rfl) k
theorem op_neg{t:TypeId}{x:Operand}{a:Int}(hx:yQ F x=.int .i64 a)(k:Q (upd F d (.int .i64 (IntKind.i64.wrap (0-a)))) s):OpW P I ⟨d,.unOp .neg t x,ty,pos,af,g⟩ F s Q:=
 qf (by simp only[yX,unM,hx];rfl) k
def qp(n:Int):Prop:= -9223372036854775808≤n∧n≤9223372036854775807
theorem in64_of{n:Int}(h:qp n):inI64 n=true:=by
 obtain⟨h1,h2⟩:=h
 cases n with
 |ofNat a=>simp only[inI64];exact Nat.ble_eq_true_of_le (by simp only[Int.ofNat_eq_natCast]at h2;omega)
 |negSucc a=>simp only[inI64];exact Nat.ble_eq_true_of_le O
theorem wrap_in{n:Int}(h:qp n):IntKind.i64.wrap n=n:=wrap_of_in (in64_of h)
theorem fits_in{n:Int}(h:qp n):fits n=some (.int .i64 n):=by simp only[fits,in64_of h]
theorem yH{t:TypeId}{x y:Operand}{yt:TypeId}{a b:Int}(hx:yQ F x=.int .i64 a)(hy:yQ F y=.int .i64 b)(h:qp (a+b))(k:Q (upd F d (.int .i64 (a+b))) s):OpW P I ⟨d,.binOp .add t x y yt,ty,pos,af,g⟩ F s Q:=
 qf (by simp only[yX,jc,hx,hy,jf,vG,fits_in h];rfl) k
theorem qC{t:TypeId}{x y:Operand}{yt:TypeId}{a b:Int}(hx:yQ F x=.int .i64 a)(hy:yQ F y=.int .i64 b)(h:qp (a-b))(k:Q (upd F d (.int .i64 (a-b))) s):OpW P I ⟨d,.binOp .sub t x y yt,ty,pos,af,g⟩ F s Q:=
 qf (by simp only[yX,jc,hx,hy,jf,vG,fits_in h];rfl) k
theorem op_mul{t:TypeId}{x y:Operand}{yt:TypeId}{a b:Int}(hx:yQ F x=.int .i64 a)(hy:yQ F y=.int .i64 b)(h:qp (a*b))(k:Q (upd F d (.int .i64 (a*b))) s):OpW P I ⟨d,.binOp .mul t x y yt,ty,pos,af,g⟩ F s Q:=
 qf (by simp only[yX,jc,hx,hy,jf,vG,fits_in h];rfl) k
theorem vY(a b:Int):ile a b=decide (a≤b):=by
 cases a<;>cases b<;>simp only[ile]<;>rw[Bool.eq_iff_iff]<;>simp only[Nat.ble_eq,decide_eq_true_eq]<;>(try simp only[Int.ofNat_eq_natCast])<;>(try constructor)<;>(try intro)<;>(try omega)<;>simp_all<;>omega
theorem jj(a b:Int):ieq a b=decide (a=b):=by
 cases a<;>cases b<;>simp only[ieq]<;>rw[Bool.eq_iff_iff]<;>simp only[Nat.beq_eq,decide_eq_true_eq]<;>(try simp only[Int.ofNat_eq_natCast])<;>(try constructor)<;>(try intro)<;>(try omega)<;>simp_all
theorem xB{t:TypeId}{x y:Operand}{yt:TypeId}{a b:Int}(hx:yQ F x=.int .i64 a)(hy:yQ F y=.int .i64 b)(k1:a<b→Q (upd F d (.bool true)) s)(k0:¬(a<b)→Q (upd F d (.bool false)) s):OpW P I ⟨d,.binOp .lss t x y yt,ty,pos,af,g⟩ F s Q:=by
 by_cases h:a<b
 ·refine qf (v:=.bool true) (s':=s) ?_ (k1 h)
  have:(!(ile b a))=true:=by simp only[vY,jj,Bool.not_eq_true',decide_eq_true_eq,decide_eq_false_iff_not];omega
  simp only[yX,jc,hx,hy,jf,vG,this];rfl
 ·refine qf (v:=.bool false) (s':=s) ?_ (k0 h)
  have:(!(ile b a))=false:=by simp only[vY,jj,Bool.not_eq_false',decide_eq_true_eq,decide_eq_false_iff_not];omega
  simp only[yX,jc,hx,hy,jf,vG,this];rfl
theorem op_lss'{t:TypeId}{x y:Operand}{yt:TypeId}{a b:Int}(hx:yQ F x=.int .i64 a)(hy:yQ F y=.int .i64 b)(k:Q (upd F d (.bool (decide (a<b)))) s):OpW P I ⟨d,.binOp .lss t x y yt,ty,pos,af,g⟩ F s Q:=by
 refine xB hx hy (fun h=>?_) (fun h=>?_)
 ·rwa[decide_eq_true h]at k
 ·rwa[decide_eq_false h]at k
theorem op_leq{t:TypeId}{x y:Operand}{yt:TypeId}{a b:Int}(hx:yQ F x=.int .i64 a)(hy:yQ F y=.int .i64 b)(k1:a≤b→Q (upd F d (.bool true)) s)(k0:¬(a≤b)→Q (upd F d (.bool false)) s):OpW P I ⟨d,.binOp .leq t x y yt,ty,pos,af,g⟩ F s Q:=by
 by_cases h:a≤b
 ·refine qf (v:=.bool true) (s':=s) ?_ (k1 h)
  have:(ile a b)=true:=by simp only[vY,jj,Bool.not_eq_true',decide_eq_true_eq,decide_eq_false_iff_not];omega
  simp only[yX,jc,hx,hy,jf,vG,this];rfl
 ·refine qf (v:=.bool false) (s':=s) ?_ (k0 h)
  have:(ile a b)=false:=by simp only[vY,jj,Bool.not_eq_false',decide_eq_true_eq,decide_eq_false_iff_not];omega
  simp only[yX,jc,hx,hy,jf,vG,this];rfl
theorem qv{t:TypeId}{x y:Operand}{yt:TypeId}{a b:Int}(hx:yQ F x=.int .i64 a)(hy:yQ F y=.int .i64 b)(k1:b<a→Q (upd F d (.bool true)) s)(k0:¬(b<a)→Q (upd F d (.bool false)) s):OpW P I ⟨d,.binOp .gtr t x y yt,ty,pos,af,g⟩ F s Q:=by
 by_cases h:b<a
 ·refine qf (v:=.bool true) (s':=s) ?_ (k1 h)
  have:(!(ile a b))=true:=by simp only[vY,jj,Bool.not_eq_true',decide_eq_true_eq,decide_eq_false_iff_not];omega
  simp only[yX,jc,hx,hy,jf,vG,this];rfl
 ·refine qf (v:=.bool false) (s':=s) ?_ (k0 h)
  have:(!(ile a b))=false:=by simp only[vY,jj,Bool.not_eq_false',decide_eq_true_eq,decide_eq_false_iff_not];omega
  simp only[yX,jc,hx,hy,jf,vG,this];rfl
theorem k7{t:TypeId}{x y:Operand}{yt:TypeId}{a b:Int}(hx:yQ F x=.int .i64 a)(hy:yQ F y=.int .i64 b)(k1:b≤a→Q (upd F d (.bool true)) s)(k0:¬(b≤a)→Q (upd F d (.bool false)) s):OpW P I ⟨d,.binOp .geq t x y yt,ty,pos,af,g⟩ F s Q:=by
 by_cases h:b≤a
 ·refine qf (v:=.bool true) (s':=s) ?_ (k1 h)
  have:(ile b a)=true:=by simp only[vY,jj,Bool.not_eq_true',decide_eq_true_eq,decide_eq_false_iff_not];omega
  simp only[yX,jc,hx,hy,jf,vG,this];rfl
 ·refine qf (v:=.bool false) (s':=s) ?_ (k0 h)
  have:(ile b a)=false:=by simp only[vY,jj,Bool.not_eq_false',decide_eq_true_eq,decide_eq_false_iff_not];omega
  simp only[yX,jc,hx,hy,jf,vG,this];rfl
theorem qh{t:TypeId}{x y:Operand}{yt:TypeId}{a b:Int}(hx:yQ F x=.int .i64 a)(hy:yQ F y=.int .i64 b)(k1:a=b→Q (upd F d (.bool true)) s)(k0:¬(a=b)→Q (upd F d (.bool false)) s):OpW P I ⟨d,.binOp .eql t x y yt,ty,pos,af,g⟩ F s Q:=by
 by_cases h:a=b
 ·refine qf (v:=.bool true) (s':=s) ?_ (k1 h)
  have:(ieq a b)=true:=by simp only[vY,jj,Bool.not_eq_true',decide_eq_true_eq,decide_eq_false_iff_not];omega
  simp only[yX,jc,hx,hy,jf,vG,this];rfl
 ·refine qf (v:=.bool false) (s':=s) ?_ (k0 h)
  have:(ieq a b)=false:=by simp only[vY,jj,Bool.not_eq_false',decide_eq_true_eq,decide_eq_false_iff_not];omega
  simp only[yX,jc,hx,hy,jf,vG,this];rfl
theorem k6{t:TypeId}{x y:Operand}{yt:TypeId}{a b:Int}(hx:yQ F x=.int .i64 a)(hy:yQ F y=.int .i64 b)(k1:a≠b→Q (upd F d (.bool true)) s)(k0:¬(a≠b)→Q (upd F d (.bool false)) s):OpW P I ⟨d,.binOp .neq t x y yt,ty,pos,af,g⟩ F s Q:=by
 by_cases h:a≠b
 ·refine qf (v:=.bool true) (s':=s) ?_ (k1 h)
  have:(!(ieq a b))=true:=by simp only[vY,jj,Bool.not_eq_true',decide_eq_true_eq,decide_eq_false_iff_not];omega
  simp only[yX,jc,hx,hy,jf,vG,this];rfl
 ·refine qf (v:=.bool false) (s':=s) ?_ (k0 h)
  have:(!(ieq a b))=false:=by simp only[vY,jj,Bool.not_eq_false',decide_eq_true_eq,decide_eq_false_iff_not];omega
  simp only[yX,jc,hx,hy,jf,vG,this];rfl
theorem op_eqb{t:TypeId}{x y:Operand}{yt:TypeId}{a b:Bool}(hu:P.underlying t=some .bool)(hx:yQ F x=.bool a)(hy:yQ F y=.bool b)(k:Q (upd F d (.bool (a==b))) s):OpW P I ⟨d,.binOp .eql t x y yt,ty,pos,af,g⟩ F s Q:=
 qf (by simp only[yX,jc,hx,hy,eqM,hu,eqV];rfl) k
theorem kR{t:TypeId}{x y:Operand}{yt:TypeId}{a b:Bool}(hu:P.underlying t=some .bool)(hx:yQ F x=.bool a)(hy:yQ F y=.bool b)(k:Q (upd F d (.bool (!(a==b)))) s):OpW P I ⟨d,.binOp .neq t x y yt,ty,pos,af,g⟩ F s Q:=
 qf (by simp only[yX,jc,hx,hy,eqM,hu,eqV];rfl) k
theorem kE{t:TypeId}{x y:Operand}{yt:TypeId}{a b:Int}(hx:yQ F x=.int .i64 a)(hy:yQ F y=.int .i64 b)(h:b≠0)(k:Q (upd F d (.int .i64 (a.tmod b))) s):OpW P I ⟨d,.binOp .rem t x y yt,ty,pos,af,g⟩ F s Q:=by
 refine qf (v:=.int .i64 (a.tmod b)) (s':=s) ?_ k
 simp only[yX,jc,hx,hy,jf,vG,Go.binOp,Op.intDiv,if_neg h]
 rfl
theorem wY{t:TypeId}{x y:Operand}{yt:TypeId}{a b:Int}(hx:yQ F x=.int .i64 a)(hy:yQ F y=.int .i64 b)(h:b≠0)(h2:qp (a.tdiv b))(k:Q (upd F d (.int .i64 (a.tdiv b))) s):OpW P I ⟨d,.binOp .quo t x y yt,ty,pos,af,g⟩ F s Q:=by
 refine qf (v:=.int .i64 (a.tdiv b)) (s':=s) ?_ k
 simp only[yX,jc,hx,hy,jf,vG,Go.binOp,Op.intDiv,if_neg h,wrap_in h2]
 rfl
theorem zJ{t:TypeId}{x:Operand}{b off:Nat}{c:List Value}{e:TypeId}{v:Value}(hs:qw P t=some none)(hx:yQ F x=.pointer (some ⟨b,off,none⟩))(hg:s.get b=some (.cells c e))(hc:qG c off=some v)
  (k:Q (upd F d v) s):OpW P I ⟨d,.load t x,ty,pos,af,g⟩ F s Q:=
 qf (by simp only[yX,loadM,loadV,hx,hg,hs,cutL,hc];rfl) k
theorem zN{t:TypeId}{x:Operand}{b off n:Nat}{c:List Value}{e:TypeId}{l:List Value}(hs:qw P t=some (some n))(hx:yQ F x=.pointer (some ⟨b,off,none⟩))(hg:s.get b=some (.cells c e))(hc:qX n (kw off c)=some l)
  (k:Q (upd F d (.agg ⟨l⟩)) s):OpW P I ⟨d,.load t x,ty,pos,af,g⟩ F s Q:=
 qf (by simp only[yX,loadM,loadV,hx,hg,hs,cutL,hc];rfl) k
theorem zB{t:TypeId}{x:Operand}{f b off n:Nat}(hf:wZ P t f=some n)(hx:yQ F x=.pointer (some ⟨b,off,none⟩))(k:Q (upd F d (.pointer (some ⟨b,off+n,none⟩))) s):OpW P I ⟨d,.fieldAddr t x f,ty,pos,af,g⟩ F s Q:=
 qf (by simp only[yX,fieldM,hx,hf];rfl) k
theorem zP{t:TypeId}{x i:Operand}{b off len cap z sz:Nat}{kd:IntKind}{a:Int}(he:elemF P t=some (true,z,sz))(hx:yQ F x=.slice (some ⟨b,off,none⟩) len cap)(hi:yQ F i=.int kd a)(h0:0≤a)(h1:a<len)
  (k:Q (upd F d (.pointer (some ⟨b,off+a.toNat*sz,none⟩))) s):OpW P I ⟨d,.indexAddr t x i,ty,pos,af,g⟩ F s Q:=by
 obtain⟨n,rfl⟩:=Int.eq_ofNat_of_zero_le h0
 have hb:Nat.blt n len=true:=blt_true O
 refine qf (v:=.pointer (some ⟨b,off+n*sz,none⟩)) (s':=s) ?_ k
 simp only[yX,indexM,hi,he,hx]
 show vO n len b off sz s=_
 simp only[vO,hb]
 rfl
theorem vR{t:TypeId}{x i:Operand}{b off len sz:Nat}{kd:IntKind}{a:Int}(he:elemF P t=some (false,len,sz))(hx:yQ F x=.pointer (some ⟨b,off,none⟩))(hi:yQ F i=.int kd a)(h0:0≤a)(h1:a<len)
  (k:Q (upd F d (.pointer (some ⟨b,off+a.toNat*sz,none⟩))) s):OpW P I ⟨d,.indexAddr t x i,ty,pos,af,g⟩ F s Q:=by
 obtain⟨n,rfl⟩:=Int.eq_ofNat_of_zero_le h0
 have hb:Nat.blt n len=true:=blt_true O
 refine qf (v:=.pointer (some ⟨b,off+n*sz,none⟩)) (s':=s) ?_ k
 simp only[yX,indexM,hi,he,hx]
 show vO n len b off sz s=_
 simp only[vO,hb]
 rfl
theorem yI{x:Operand}{i:Nat}{vs:Array Value}{v:Value}(hx:yQ F x=.tuple vs)(hv:qG vs.toList i=some v)(k:Q (upd F d v) s):OpW P I ⟨d,.extract x i,ty,pos,af,g⟩ F s Q:=
 qf (by simp only[yX,extractM,hx,hv];rfl) k
theorem op_makeFunc{fn:Fn}{a b:Array Operand}(k:Q (upd F d (.func fn ⟨vJ (yQ F) a.toList⟩ ⟨vJ (yQ F) b.toList⟩)) s)(hk:keysF fn=false:=by rfl):OpW P I ⟨d,.makeFunc fn a b,ty,pos,af,g⟩ F s Q:=qf (by simp only[yX,hk];rfl) k
theorem yF{as:Array Operand}{ts:Array TypeId}{t e:TypeId}{tr:List TypeId}{x:Operand}{a:Option Addr}{n c:Nat}(hu:P.underlying t=some (.slice e))(ht:ts.toList=t::tr)(ha:as.toList=[x])(hx:yQ F x=.slice a n c)
  (k:Q (upd F d (.int .i64 (n:Int))) s):OpW P I ⟨d,.call ⟨.builtin .len,as,ts⟩,ty,pos,af,g⟩ F s Q:=
 qf (v:=.int .i64 (n:Int)) (s':=s) (by simp only[yX,kO,lenM,ht,ha,vJ,hu,hx];rfl) k
theorem op_min{as:Array Operand}{ts:Array TypeId}{x y:Operand}{a b:Int}(ha:as.toList=[x,y])(hx:yQ F x=.int .i64 a)(hy:yQ F y=.int .i64 b)
  (k:Q (upd F d (.int .i64 (min a b))) s):OpW P I ⟨d,.call ⟨.builtin .min,as,ts⟩,ty,pos,af,g⟩ F s Q:=by
 refine qf (v:=.int .i64 (min a b)) (s':=s) ?_ k
 simp only[yX,kO,ha,vJ,hx,hy,minM,vY]
 by_cases h:a≤b
 ·simp only[h,decide_true,Int.min_eq_left h];rfl
 ·simp only[h,decide_false,show min a b=b by omega];rfl
theorem op_max{as:Array Operand}{ts:Array TypeId}{x y:Operand}{a b:Int}(ha:as.toList=[x,y])(hx:yQ F x=.int .i64 a)(hy:yQ F y=.int .i64 b)
  (k:Q (upd F d (.int .i64 (max a b))) s):OpW P I ⟨d,.call ⟨.builtin .max,as,ts⟩,ty,pos,af,g⟩ F s Q:=by
 refine qf (v:=.int .i64 (max a b)) (s':=s) ?_ k
 simp only[yX,kO,ha,vJ,hx,hy,maxM,vY]
 by_cases h:b≤a
 ·simp only[h,decide_true,Int.max_eq_left h];rfl
 ·simp only[h,decide_false,show max a b=b by omega];rfl
theorem zF{as:Array Operand}{ts:Array TypeId}{f:Operand}{n:FuncId}{a b:Array Value}{args:Array Value}(hf:yQ F f=.func (.func n) a b)(hb:xJ P n=true)(ha:(⟨a.toList++vJ (yQ F) as.toList++b.toList⟩:Array Value)=args)
  (h:∃v s',xN P I n args s v s'∧Q (upd F d v) s') (hlow:Nat.ble qK n=false:=by exact rfl):OpW P I ⟨d,.call ⟨.value f,as,ts⟩,ty,pos,af,g⟩ F s Q:=
 op_enter (f:=n) (args:=args) (s₁:=s) (by simp only[yX,kn,hf,hb,←ha]) h hlow
variable{W:List Nat}{s0:St}{L:Hp'}{n:Nat}
def zeroF(P:Program)(t:TypeId):Option (List Value):=
 match zeroB P t,P.info? t with
 |true,some i=>match i.zero with
  |some z=>some (qM z)
  |none=>none
 |_,_=>none
theorem zS{e:TypeId}{c:List Value}(H:HL W s0 s L n)(hz:zeroF P e=some c)(hr:s0.next+n<yC)
  (k:∀b s',HL W s0 s' ((b,.cells c e)::L) (n+1)→Q (upd F d (.pointer (some ⟨b,0,none⟩))) s'):OpW P I ⟨d,.alloc e,ty,pos,af,g⟩ F s Q:=by
 refine qf (v:=.pointer (some ⟨s.next,0,none⟩)) (s':=s.new (.cells c e)) ?_ (k _ _ (H.new _ hr))
 have hroom:=H.room hr
 simp only[zeroF]at hz
 split at hz
 ·next i hb hi=>
  split at hz
  ·next z hz2=>
   cases hz
   simp only[yX,hb,guarded,allocM,hi,hz2,boxM,hroom]
   rfl
  ·cases hz
 ·cases hz
theorem op_box{e:TypeId}{x:Operand}{c:List Value}(H:HL W s0 s L n)(hc:qM (yQ F x)=c)(hr:s0.next+n<yC)
  (k:∀b s',HL W s0 s' ((b,.cells c e)::L) (n+1)→Q (upd F d (.pointer (some ⟨b,0,none⟩))) s'):OpW P I ⟨d,.box e x,ty,pos,af,g⟩ F s Q:=by
 refine qf (v:=.pointer (some ⟨s.next,0,none⟩)) (s':=s.new (.cells c e)) ?_ (k _ _ (H.new _ hr))
 have hroom:=H.room hr
 simp only[yX,boxM,hroom,hc]
 rfl
theorem zY{e:TypeId}{x:Operand}{l:List Value}(H:HL W s0 s L n)(hx:yQ F x=.agg ⟨l⟩)(hr:s0.next+n<yC)
  (k:∀b s',HL W s0 s' ((b,.cells l e)::L) (n+1)→Q (upd F d (.pointer (some ⟨b,0,none⟩))) s'):OpW P I ⟨d,.box e x,ty,pos,af,g⟩ F s Q:=op_box H (by rw[hx];rfl) hr k
theorem op_boxI{e:TypeId}{x:Operand}{kd:IntKind}{a:Int}(H:HL W s0 s L n)(hx:yQ F x=.int kd a)(hr:s0.next+n<yC)
  (k:∀bl s',HL W s0 s' ((bl,.cells [.int kd a] e)::L) (n+1)→Q (upd F d (.pointer (some ⟨bl,0,none⟩))) s'):OpW P I ⟨d,.box e x,ty,pos,af,g⟩ F s Q:=op_box H (by rw[hx];rfl) hr k
theorem op_boxP{e:TypeId}{x:Operand}{a:Option Addr}(H:HL W s0 s L n)(hx:yQ F x=.pointer a)(hr:s0.next+n<yC)
  (k:∀bl s',HL W s0 s' ((bl,.cells [.pointer a] e)::L) (n+1)→Q (upd F d (.pointer (some ⟨bl,0,none⟩))) s'):OpW P I ⟨d,.box e x,ty,pos,af,g⟩ F s Q:=op_box H (by rw[hx];rfl) hr k
def kD(P:Program)(t:TypeId):Option Nat:=(P.info? t).map (·.size)
theorem vL{t:TypeId}{x v:Operand}{b off sz:Nat}{c c':List Value}{e:TypeId}{vs:List Value}(hs:kD P t=some sz)(hx:yQ F x=.pointer (some ⟨b,off,none⟩))(hv:qM (yQ F v)=vs)
  (hl:Nat.beq (ks vs 0) sz=true) (hp:vs.all plainCell=true) (hg:s.get b=some (.cells c e)) (hm:s.may b=true) (hc:ky off vs c=some c'):yX P (yQ F) (.store t x v) s=.ok .skip (s.put b (some (.cells c' e))):=by
 simp only[kD]at hs
 cases hi:P.info? t with
 |none=>rw[hi]at hs;cases hs
 |some i=>
  rw[hi]at hs
  simp only[Option.map_some,Option.some.injEq]at hs
  simp only[yX,storeM,hx,hi,hv,hs,hl,kZ,hg,hp,hm,Bool.and_self,hc]
theorem zT{t:TypeId}{x v:Operand}{b off sz:Nat}{c c':List Value}{e:TypeId}{vs:List Value}(H:HL W s0 s ((b,.cells c e)::L) n)(hs:kD P t=some sz)(hx:yQ F x=.pointer (some ⟨b,off,none⟩))(hv:qM (yQ F v)=vs)
  (hl:Nat.beq (ks vs 0) sz=true) (hp:vs.all plainCell=true) (hc:ky off vs c=some c') (hr:s0.next+n≤yC) (k:∀s',HL W s0 s' ((b,.cells c' e)::L) n→Q (upd F d undef) s'):OpW P I ⟨d,.store t x v,ty,pos,af,g⟩ F s Q:=
 op_none (vL hs hx hv hl hp H.own0 (H.own (b,.cells c e) Y8).2.2.1 hc) (k _ (H.put0 _ hr))
theorem qu{p0:Nat×MObj}{t:TypeId}{x v:Operand}{b off sz:Nat}{c c':List Value}{e:TypeId}{vs:List Value}(H:HL W s0 s (p0::(b,.cells c e)::L) n)(hs:kD P t=some sz)(hx:yQ F x=.pointer (some ⟨b,off,none⟩))(hv:qM (yQ F v)=vs)
  (hl:Nat.beq (ks vs 0) sz=true) (hp:vs.all plainCell=true) (hc:ky off vs c=some c') (hr:s0.next+n≤yC) (k:∀s',HL W s0 s' (p0::(b,.cells c' e)::L) n→Q (upd F d undef) s'):OpW P I ⟨d,.store t x v,ty,pos,af,g⟩ F s Q:=
 op_none (vL hs hx hv hl hp H.own1 (H.own (b,.cells c e) Y8).2.2.1 hc) (k _ (H.put1 _ hr))
theorem vQ{p0 p1:Nat×MObj}{t:TypeId}{x v:Operand}{b off sz:Nat}{c c':List Value}{e:TypeId}{vs:List Value}(H:HL W s0 s (p0::p1::(b,.cells c e)::L) n)(hs:kD P t=some sz)(hx:yQ F x=.pointer (some ⟨b,off,none⟩))(hv:qM (yQ F v)=vs)
  (hl:Nat.beq (ks vs 0) sz=true) (hp:vs.all plainCell=true) (hc:ky off vs c=some c') (hr:s0.next+n≤yC) (k:∀s',HL W s0 s' (p0::p1::(b,.cells c' e)::L) n→Q (upd F d undef) s'):OpW P I ⟨d,.store t x v,ty,pos,af,g⟩ F s Q:=
 op_none (vL hs hx hv hl hp H.own2 (H.own (b,.cells c e) Y8).2.2.1 hc) (k _ (H.put2 _ hr))
theorem vP{p0 p1 p2:Nat×MObj}{t:TypeId}{x v:Operand}{b off sz:Nat}{c c':List Value}{e:TypeId}{vs:List Value}(H:HL W s0 s (p0::p1::p2::(b,.cells c e)::L) n)(hs:kD P t=some sz)(hx:yQ F x=.pointer (some ⟨b,off,none⟩))(hv:qM (yQ F v)=vs)
  (hl:Nat.beq (ks vs 0) sz=true) (hp:vs.all plainCell=true) (hc:ky off vs c=some c') (hr:s0.next+n≤yC) (k:∀s',HL W s0 s' (p0::p1::p2::(b,.cells c' e)::L) n→Q (upd F d undef) s'):OpW P I ⟨d,.store t x v,ty,pos,af,g⟩ F s Q:=
 op_none (vL hs hx hv hl hp H.own3 (H.own (b,.cells c e) Y8).2.2.1 hc) (k _ (H.put3 _ hr))
theorem jw{p0 p1 p2 p3:Nat×MObj}{t:TypeId}{x v:Operand}{b off sz:Nat}{c c':List Value}{e:TypeId}{vs:List Value}(H:HL W s0 s (p0::p1::p2::p3::(b,.cells c e)::L) n)(hs:kD P t=some sz)(hx:yQ F x=.pointer (some ⟨b,off,none⟩))(hv:qM (yQ F v)=vs)
  (hl:Nat.beq (ks vs 0) sz=true) (hp:vs.all plainCell=true) (hc:ky off vs c=some c') (hr:s0.next+n≤yC) (k:∀s',HL W s0 s' (p0::p1::p2::p3::(b,.cells c' e)::L) n→Q (upd F d undef) s'):OpW P I ⟨d,.store t x v,ty,pos,af,g⟩ F s Q:=
 op_none (vL hs hx hv hl hp H.own4 (H.own (b,.cells c e) Y8).2.2.1 hc) (k _ (H.put4 _ hr))
theorem op_store5{p0 p1 p2 p3 p4:Nat×MObj}{t:TypeId}{x v:Operand}{b off sz:Nat}{c c':List Value}{e:TypeId}{vs:List Value}(H:HL W s0 s (p0::p1::p2::p3::p4::(b,.cells c e)::L) n)(hs:kD P t=some sz)(hx:yQ F x=.pointer (some ⟨b,off,none⟩))(hv:qM (yQ F v)=vs)
  (hl:Nat.beq (ks vs 0) sz=true) (hp:vs.all plainCell=true) (hc:ky off vs c=some c') (hr:s0.next+n≤yC) (k:∀s',HL W s0 s' (p0::p1::p2::p3::p4::(b,.cells c' e)::L) n→Q (upd F d undef) s'):OpW P I ⟨d,.store t x v,ty,pos,af,g⟩ F s Q:=
 op_none (vL hs hx hv hl hp H.own5 (H.own (b,.cells c e) Y8).2.2.1 hc) (k _ (H.put5 _ hr))
theorem op_store6{p0 p1 p2 p3 p4 p5:Nat×MObj}{t:TypeId}{x v:Operand}{b off sz:Nat}{c c':List Value}{e:TypeId}{vs:List Value}(H:HL W s0 s (p0::p1::p2::p3::p4::p5::(b,.cells c e)::L) n)(hs:kD P t=some sz)(hx:yQ F x=.pointer (some ⟨b,off,none⟩))(hv:qM (yQ F v)=vs)
  (hl:Nat.beq (ks vs 0) sz=true) (hp:vs.all plainCell=true) (hc:ky off vs c=some c') (hr:s0.next+n≤yC) (k:∀s',HL W s0 s' (p0::p1::p2::p3::p4::p5::(b,.cells c' e)::L) n→Q (upd F d undef) s'):OpW P I ⟨d,.store t x v,ty,pos,af,g⟩ F s Q:=
 op_none (vL hs hx hv hl hp H.own6 (H.own (b,.cells c e) Y8).2.2.1 hc) (k _ (H.put6 _ hr))
end
end Go.M
