/- Frames; and that block numbers only grow. -/
/- Operations one behind the other; calls. -/
/- What the abstract machine's steps leave as it was, by themselves. -/
/- The orders in which a region may run. -/
import Derived.Test.YtocnbjjmmgolfaaGreatA03
import Derived.TacticsIn
namespace Go.M
def Res.nextLe{α:Type}(s:St):Res α→Prop
  | .ok _ s'=>s.next≤s'.next
  | .panic _ s'=>s.next≤s'.next
  | .stuck=>True
def Out.nextLe(s:St):Out→Prop
  | .normal _ s' | .exit _ _ s' | .ret _ s' | .panic _ _ s'=>s.next≤s'.next
  | .stuck=>True
def CallOut.nextLe(s:St):CallOut→Prop
  | .ret _ s' | .panic _ s'=>s.next≤s'.next
  | .stuck=>True
section
variable{P:Program}{s:St}
theorem qJ{v:Value}:(okV v s).nextLe s:=Nat.le_refl _
theorem xH{α:Type}:(Res.stuck:Res α).nextLe s:=trivial
theorem runA_nextLe{α γ:Type}(f:α→γ)(x:Sem α):((wX P x s).map f).nextLe s:=by
  have h:=runA_next (P:=P) x s
  cases hx:wX P x s with
  |ok a s'=>exact h.1 a s' hx
  |panic v s'=>exact h.2 v s' hx
  |stuck=>trivial
theorem storeS_next{b off:Nat}{vs:List Value}:(kZ b off vs s).nextLe s:=by
  unfold kZ
  (repeat' split)<;>first|exact xH|exact Nat.le_refl _
theorem newS_next{e:TypeId}{c:List Value}{n:Nat}:(newS e c n s).nextLe s:=by
  unfold newS
  split
  · exact Nat.le_succ _
  · exact xH
theorem newK_next{e:TypeId}{c:List Value}{n k:Nat}:(newK e c n k s).nextLe s:=by
  unfold newK
  split
  · exact Nat.le_succ _
  · exact xH
theorem boxM_next{e:TypeId}{c:List Value}:(boxM e c s).nextLe s:=by
  unfold boxM
  split
  · exact Nat.le_succ _
  · exact xH
theorem sliceS_next{sz:Nat}{a:Option Addr}{len c:Nat}{known:Bool}{lo hi mx:Option Value}:(jp sz a len c known lo hi mx s).nextLe s:=by
  unfold jp
  (repeat' split)<;>first|exact xH|exact qJ
theorem eqM_next{op:BinOp}{t:TypeId}{x y:Value}:(eqM P op t x y s).nextLe s:=by
  unfold eqM
  (repeat' split)<;>first|exact xH|exact qJ
theorem intM_next{op:BinOp}{t:TypeId}{k k':IntKind}{a b:Int}:(jf P op t k k' a b s).nextLe s:=by
  unfold jf
  (repeat' split)<;>first|exact qJ|exact runA_nextLe _ _
theorem textM_next{x:Value}:(textM x s).nextLe s:=by
  unfold textM
  (repeat' split)<;>first|exact xH|exact qJ
theorem cutB_next{b:ByteArray}{lo hi:Option Value}:(cutB b lo hi s).nextLe s:=by
  unfold cutB
  (repeat' split)<;>first|exact xH|exact qJ
theorem growM_next{e:TypeId}{a:Option Addr}{cap need:Nat}{c:List Value}:(growM e a cap need c s).nextLe s:=by
  unfold growM
  split
  · rename_i s' hk
    have:s'.next=s.next:=by
      unfold killM at hk
      (repeat' split at hk)<;>cases hk<;>rfl
    have h:=newS_next (s:=s') (e:=e) (c:=c) (n:=need)
    cases hr:newS e c need s' with
    |ok a s''=>rw[hr]at h;simp only[Res.nextLe]at h ⊢;omega
    |panic v s''=>rw[hr]at h;simp only[Res.nextLe]at h ⊢;omega
    |stuck=>trivial
  · exact xH
theorem appendS_next{e:TypeId}{inf:TypeInfo}{base:Option Addr}{sLen cap n:Nat}{new:List Value}:(jI e inf base sLen cap n new s).nextLe s:=by
  unfold jI
  split
  · split
    · rename_i b off
      split
      · rename_i nx s' hst
        have:=storeS_next (s:=s) (b:=b) (off:=off+sLen*inf.size) (vs:=new)
        rw[hst]at this
        exact this
      · exact xH
    · split
      · exact qJ
      · exact xH
  · split
    · exact growM_next
    · exact xH
theorem appendM_next{ts:List TypeId}{args:List Value}:(wV P ts args s).nextLe s:=by
  unfold wV
  (repeat' split)<;>first|exact xH|exact appendS_next
theorem storeS_same{b off:Nat}{vs:List Value}{n:Next}{s':St}(h:kZ b off vs s=.ok n s'):s'.next=s.next:=by
  unfold kZ at h
  (repeat' split at h)<;>cases h
  all_goals rfl
theorem copyM_next{ts:List TypeId}{args:List Value}:(copyM P ts args s).nextLe s:=by
  unfold copyM
  repeat' split
  all_goals first
    |exact xH
    |(rename_i hst;exact Nat.le_of_eq (storeS_same hst).symm)
theorem builtinM_next{b:Builtin}{ts:List TypeId}{args:List Value}:(kO P b ts args s).nextLe s:=by
  unfold kO
  split
  · exact appendM_next
  · unfold capM;(repeat' split)<;>first|exact xH|exact qJ
  · unfold lenM;(repeat' split)<;>first|exact xH|exact qJ
  · unfold minM;(repeat' split)<;>first|exact xH|exact qJ
  · unfold maxM;(repeat' split)<;>first|exact xH|exact qJ
  · exact copyM_next
  · unfold clearM;(repeat' split)<;>first|exact xH|exact qJ|(rename_i hst;exact Nat.le_of_eq (storeS_same hst).symm)
  · exact xH
theorem okPair_next{a b:Bool}{v:Value}:(okPair a v b s).nextLe s:=by
  unfold okPair
  split<;>exact qJ
theorem setM_next{r:Nat}{es:Array MapEntry}{c:Nat}:(setM r es c s).nextLe s:=by
  unfold setM
  split
  · exact Nat.le_refl _
  · exact xH
theorem stepM_next(ρ:Operand→Value)(o:Op):(yX P ρ o s).nextLe s:=by
  cases o with
  |move x=>exact qJ
  |assign x=>exact qJ
  |pick c a b=>simp only[yX];unfold pickM;(repeat' split)<;>first|exact xH|exact qJ
  |load t a=>simp only[yX];unfold loadM;(repeat' split)<;>first|exact xH|exact qJ
  |store t a v=>simp only[yX];unfold storeM;(repeat' split)<;>first|exact xH|exact storeS_next
  |box e x=>exact boxM_next
  |alloc e=>simp only[yX];unfold guarded allocM;(repeat' split)<;>first|exact xH|exact boxM_next
  |fieldAddr t x f=>simp only[yX];unfold fieldM;(repeat' split)<;>first|exact xH|exact qJ
  |indexAddr t x i=>simp only[yX];unfold indexM vO;(repeat' split)<;>first|exact xH|exact qJ
  |binOp op t x y yt=>simp only[yX];unfold jc;(repeat' split)<;>first|exact intM_next|exact runA_nextLe _ _|exact eqM_next
  |unOp op t x=>simp only[yX];unfold unM;(repeat' split)<;>first|exact xH|exact qJ|exact runA_nextLe _ _
  |extract x i=>simp only[yX];unfold extractM;(repeat' split)<;>first|exact xH|exact qJ
  |nilCheck x=>simp only[yX];unfold nilM;(repeat' split)<;>first|exact xH|exact qJ
  |sliceToArrayPointer t x=>simp only[yX];unfold arrM;(repeat' split)<;>first|exact xH|exact qJ
  |convert src dst x=>simp only[yX];unfold convertM;(repeat' split)<;>first|exact xH|exact qJ|exact textM_next|exact newS_next
  |makeInterface t x=>simp only[yX];unfold ifaceM;(repeat' split)<;>first|exact xH|exact qJ
  |makeFunc fn f c=>simp only[yX];(repeat' split)<;>first|exact xH|exact qJ
  |makeMap t r=>
    cases r with
    |none=>
      simp only[yX];unfold mapM
      split
      · exact Nat.le_succ _
      · exact xH
    |some r=>exact xH
  |slice t x lo hi mx=>simp only[yX];unfold sliceM;(repeat' split)<;>first|exact xH|exact sliceS_next|exact cutB_next
  |field t x f=>simp only[yX];unfold fieldV;(repeat' split)<;>first|exact xH|exact qJ
  |index t x i=>simp only[yX];unfold indexV;(repeat' split)<;>first|exact xH|exact qJ
  |panic x=>simp only[yX];unfold panicM;(repeat' split)<;>first|exact xH|exact Nat.le_refl _
  |call c=>
    simp only[yX]
    split
    · unfold kn;(repeat' split)<;>first|exact xH|exact Nat.le_refl _
    · exact builtinM_next
    · exact xH
  |build t parts=>simp only[yX];unfold buildM;(repeat' split)<;>first|exact xH|exact qJ
  |buildSlice t len parts=>simp only[yX];unfold wO;(repeat' split)<;>first|exact xH|exact newK_next
  |makeSlice t l c=>simp only[yX];unfold makeSliceM;(repeat' split)<;>first|exact xH|exact newK_next
  |lookup t x i ok=>simp only[yX];unfold lookupM;(repeat' split)<;>first|exact xH|exact okPair_next
  |mapUpdate t m k x=>simp only[yX];unfold updateM;(repeat' split)<;>first|exact xH|exact setM_next
  |insert t m k x=>simp only[yX];unfold updateM;(repeat' split)<;>first|exact xH|exact setM_next
  |_=>exact xH
end
structure FRel(P:Program)(β:Ren)(a:Fr)(a':Act):Prop where
  size:a'.tmps.size=a.size
  small:a.size≤65534
  get:∀t,VRel P β (a.get t) (a'.tmps.getD t undef)
section
variable{P:Program}{β:Ren}
theorem FRel.mono{β':Ren}(hb:β.le β'){a:Fr}{a':Act}(h:FRel P β a a'):FRel P β' a a':=⟨h.size,h.small,fun t=>(h.get t).mono hb⟩
theorem undef_rel:VRel P β undef undef:=.tuple .nil
theorem FRel.eval{a:Fr}{a':Act}(h:FRel P β a a'){x:Operand}(hx:je x=true):VRel P β (a.eval x) (a'.eval x):=by
  cases x with
  |tmp t=>exact h.get t
  |const v=>exact plainZ_rel hx
  |global g=>simp[je]at hx
  |func f=>exact .func .nil .nil rfl
theorem FRel.put{a:Fr}{a':Act}(h:FRel P β a a')(dst:Option Tmp){v v':Value}(hv:VRel P β v v'):FRel P β (a.put dst v) (a'.put dst v'):=by
  cases dst with
  |none=>exact h
  |some d=>
    change Nat at d
    unfold Fr.put Act.put
    simp only
    cases hd:Nat.blt d a.size with
    |true=>
      have hlt:d<a.size:=by simpa[Nat.blt_eq]using hd
      have hsm:=h.small
      refine⟨by simpa using h.size,hsm,fun t=>?_⟩
      have e1:({a with tmps:=a.tmps.put fdepth d (some v)}:Fr).get t=if t=d then v else a.get t:=by
        unfold Fr.get
        rw [Tr.get_put fdepth _ _ _ _ (by have : (2 : Nat) ^ fdepth = 65536 := by decide
                                          omega)]
        by_cases htd:t=d<;>simp[htd]
      simp only at e1 ⊢
      rw[e1]
      have hsz:=h.size
      by_cases htd:t=d
      · subst htd
        rw[if_pos rfl]
        have:(a'.tmps.setIfInBounds t v').getD t undef=v':=by
          rw[Array.getD_eq_getD_getElem?,Array.getElem?_setIfInBounds_self_of_lt O]
          rfl
        rw[this];exact hv
      · rw[if_neg htd]
        have:(a'.tmps.setIfInBounds d v').getD t undef=a'.tmps.getD t undef:=by
          rw[Array.getD_eq_getD_getElem?,Array.getD_eq_getD_getElem?,Array.getElem?_setIfInBounds_ne (Ne.symm htd)]
        rw[this];exact h.get t
    |false=>
      have hge:¬d<a.size:=by
        intro hh
        have:Nat.blt d a.size=true:=by simpa[Nat.blt_eq]using hh
        rw[this]at hd;cases hd
      refine⟨by simpa using h.size,h.small,fun t=>?_⟩
      have hsz:=h.size
      have:a'.tmps.setIfInBounds d v'=a'.tmps:=Array.setIfInBounds_eq_of_size_le O
      rw[this];exact h.get t
theorem fillT_get:∀(l:List Value) (n:Nat) (t:Tr Value) (i:Nat),n+l.length≤65534→(fillT l n t).get i=if n≤i∧i<n+l.length then l[i-n]? else t.get i
  | [],n,t,i,h=>by simp[fillT];omega
  |v::l,n,t,i,h=>by
    simp only[List.length_cons]at h
    rw[fillT,fillT_get l (n+1) _ i O]
    rw [Tr.get_put fdepth _ _ _ _ (by have : (2 : Nat) ^ fdepth = 65536 := by decide
                                      omega)]
    simp only[List.length_cons]
    by_cases h1:n+1≤i∧i<n+1+l.length
    · rw[if_pos h1,if_pos O,show i-n=(i-(n+1))+1 by omega]
      simp
    · rw[if_neg h1]
      by_cases h2:i=n
      · subst h2
        rw[if_pos rfl,if_pos O]
        simp
      · rw[if_neg h2,if_neg O]
theorem FRel.make{args args':Array Value}{n:Nat}(ha:LRel P β args.toList args'.toList)(h1:args.toList.length≤n)(h2:n≤65534) :
    FRel P β (Fr.make args n) {tmps:=args'++Array.replicate (n-args'.size) undef,defers:=[]}:=by
  have hl:=ha.length
  rw[Array.length_toList,Array.length_toList]at hl
  rw[Array.length_toList]at h1
  refine⟨by simp[Fr.make];omega,h2,fun t=>?_⟩
  have e1:(Fr.make args n).get t=if t<args.size then args.toList.getD t undef else undef:=by
    unfold Fr.get Fr.make
    simp only
    rw[fillT_get _ _ _ _ (by simpa using by omega)]
    by_cases ht:t<args.size
    · rw[if_pos ⟨Nat.zero_le _,by simpa using ht⟩,if_pos ht]
      simp[ht]
    · rw[if_neg (by simp;omega),if_neg ht]
      rfl
  rw[e1]
  by_cases ht:t<args.size
  · rw[if_pos ht]
    obtain⟨v',hv',hr⟩:=ha.get (i:=t) (v:=args[t]) (by simp[ht])
    have:(args'++Array.replicate (n-args'.size) undef).getD t undef=v':=by
      rw[Array.getD_eq_getD_getElem?,Array.getElem?_append_left O]
      rw[Array.getElem?_toList]at hv'
      rw[hv'];rfl
    rw[this]
    simpa[ht]using hr
  · rw[if_neg ht]
    have:(args'++Array.replicate (n-args'.size) undef).getD t undef=undef:=by
      rw[Array.getD_eq_getD_getElem?,Array.getElem?_append_right O]
      by_cases hr:t-args'.size<n-args'.size
      · simp[hr]
      · simp[hr]
    rw[this];exact undef_rel
theorem Fr.get_eq(a:Fr)(t:Nat):a.get t=(a.tmps.get t).getD undef:=by
  unfold Fr.get
  cases a.tmps.get t<;>rfl
theorem FRel.trel{a:Fr}{a':Act}(h:FRel P β a a'):TRel P β a a'.tmps:=⟨h.size,h.small,fun t=>by rw[←Fr.get_eq];exact h.get t⟩
theorem TRel.frel{a:Fr}{t':Array Value}(h:TRel P β a t')(ds:List Deferred):FRel P β a {tmps:=t',defers:=ds}:=⟨h.size,h.small,fun t=>by rw[Fr.get_eq];exact h.get t⟩
theorem wanted_eq{a:Fr}{a':Act}(h:FRel P β a a')(ops:Array Oper)(o:Oper):kQ ops.toList a o=Region.wanted o (yielded ops a'.tmps):=by
  unfold kQ Region.wanted
  split
  · rename_i hg;rw[hg]
  · rename_i j want hg
    rw[hg]
    simp only[yielded]
    rw[qR]
    cases hq:ops[j]? with
    |none=>
      have:ops.toList[j]? = none:=by simpa using hq
      rw[this]
      simp
    |some q=>
      have:ops.toList[j]? = some q:=by simpa using hq
      rw[this]
      simp only[Option.bind_some]
      cases hd:q.dst with
      |none=>simp
      |some d=>
        simp only[Option.bind_some]
        have hg:=h.get d
        cases ht:a'.tmps[d]? with
        |none=>
          rw[Array.getD_eq_getD_getElem?,ht]at hg
          simp only[Option.getD_none]at hg
          have:∀b,a.get d≠.bool b:=fun b hb=>by rw[hb]at hg;cases hg
          cases hv:a.get d<;>first|rfl|exact(this _ hv).elim
        |some v=>
          rw[Array.getD_eq_getD_getElem?,ht]at hg
          simp only[Option.getD_some]at hg
          generalize a.get d=u at hg
          cases hg<;>first|rfl|(cases want<;>rename_i b<;>cases b<;>rfl)
end
end Go.M
namespace Go.M
def ChRel(P:Program)(β:Ren):List PanicEntry→List PanicEntry→Prop
 | [],[]=>True
 |p::l,p'::l'=>VRel P β p.v p'.v∧p'.recovered=p.recovered∧p'.goexit=p.goexit∧ChRel P β l l'
 |_,_=>False
def Marks(lo:Nat)(β:Ren)(s:St)(w:World):List Deferred→Prop
 | []=>True
 |d::ds=>(∃r,d={target:=.collected r,args:= #[]}∧lo≤r∧w.heap[r]? = some (.deferred (some []))∧(∀b m,β b=some m→b<s.next→m.blk≠r)∧∀d'∈ds,d'.target≠.collected r)∧Marks lo β s w ds
theorem Marks.ext{P:Program}{lo:Nat}{β β':Ren}{s s':St}{w w':World}(h:Ext P β s w β' s' w')(hf:Free β s s'):∀{ds:List Deferred},Marks lo β s w ds→Marks lo β' s' w' ds
 | [],_=>trivial
 |_::_,⟨⟨r,h1,h0,h2,h3,h4⟩,hr⟩=>by
  have hlt:r<w.heap.size:=(Array.getElem?_eq_some_iff.1 h2).1
  refine⟨⟨r,h1,h0,?_,fun b m hb hbn=>?_,h4⟩,hr.ext h hf⟩
  ·rw[h.out r hlt fun b m _ hb hbn _ _=>h3 b m hb hbn];exact h2
  ·cases hb0:β b with
   |some m₀=>
    have e:=h.le b m₀ hb0
    rw[hb]at e;cases e
    refine h3 b m hb0 ?_
    rcases Nat.lt_or_ge b s.next with hh|hh
    ·exact hh
    ·have:=hf b hh hbn
     rw[hb0]at this;cases this
   |none=>
    rcases h.fresh b m hb hb0 with hh|⟨b₀,m₀,_,g1,g2,_,_,g5⟩
    ·omega
    ·rw[←g5];exact h3 b₀ m₀ g1 g2
theorem Marks.same{lo:Nat}{β:Ren}{s:St}{w w':World}(h:w'.heap=w.heap):∀{ds:List Deferred},Marks lo β s w ds→Marks lo β s w' ds
 | [],_=>trivial
 |_::_,⟨⟨r,h1,h0,h2,h3,h4⟩,hr⟩=>⟨⟨r,h1,h0,by rw[h];exact h2,h3,h4⟩,hr.same h⟩
abbrev FW(ro:Option Nat):Fence:={fn:=fun _=>True,depth:=none,alive:=false,round:=ro}
theorem callsFW{ro:Option Nat}{n:Nat}{P:Program}{f:FuncId}{args:Array Value}{w:World}{R:Ending→World→Prop}:CallsIn (FW ro) n P f args w R↔Calls P f args w R:=callsIn_wide (n:=n)
def OutP(P:Program)(lo:Nat)(β:Ren)(s:St)(w:World):Out→Exit→Act→World→Prop
 | .normal a s',e,a',w'=>e=.normal∧∃β',Ext P β s w β' s' w'∧FRel P β' a a'∧Marks lo β' s' w' a'.defers
 | .exit id a s',e,a',w'=>e=.exit id∧∃β',Ext P β s w β' s' w'∧FRel P β' a a'∧Marks lo β' s' w' a'.defers
 | .ret a s',e,a',w'=>e=.ret∧∃β',Ext P β s w β' s' w'∧FRel P β' a a'∧Marks lo β' s' w' a'.defers
 | .panic chain _ s',e,a',w'=>∃chain' β',e=.panic chain'∧Ext P β s w β' s' w'∧ChRel P β' chain chain'∧Marks lo β' s' w' a'.defers
 | .stuck,_,_,_=>False
def Out.free(β:Ren)(s:St):Out→Prop
 | .normal _ s' | .exit _ _ s' | .ret _ s' | .panic _ _ s'=>Free β s s'
 | .stuck=>True
def CallP(P:Program)(β:Ren)(s:St)(w:World):CallOut→Ending→World→Prop
 | .ret v s',e,w'=>∃β' v',e=.returned v'∧Ext P β s w β' s' w'∧VRel P β' v v'
 | .panic chain s',e,w'=>∃β' chain',e=.panicked chain'∧Ext P β s w β' s' w'∧ChRel P β' chain chain'
 | .stuck,_,_=>False
def CallOut.free(β:Ren)(s:St):CallOut→Prop
 | .ret _ s' | .panic _ s'=>Free β s s'
 | .stuck=>True
def CallS(P:Program)(call:FuncId→Array Value→St→CallOut):Prop:=
 (∀f args s,(call f args s).nextLe s) ∧
 (∀f args args' s β w,Nat.ble qK f=false→Rel P β s w→LRel P β args.toList args'.toList→call f args s≠.stuck→(call f args s).free β s→Calls P f args' w (CallP P β s w (call f args s))) ∧
 ∀b args args' s β w m r,Rel P β s w→LRel P β args.toList args'.toList→β b=some m→w.heap[m.blk]? = some (.loop r)→call (qK+b) args s≠.stuck→(call (qK+b) args s).free β s →
  RoundIn Fence.wide 0 P m.blk r.fn (roundT r args') r.assign r.body w (CallP P β s w (call (qK+b) args s))
theorem Ext.freeOf{P:Program}{β β₁:Ren}{s s₁ s₂:St}{w w₁:World}(h:Ext P β s w β₁ s₁ w₁)(hf:Free β s s₂):Free β₁ s₁ s₂:=fun b l u=>by
 cases hb:β₁ b with
 |none=>rfl
 |some m=>
  have h0:=hf b (Nat.le_trans h.next l) u
  have:=(h.dom b m hb h0).2
  omega
theorem Free.sub{β:Ren}{s s₁ s₂:St}(hf:Free β s s₂)(h:s₁.next≤s₂.next):Free β s s₁:=fun b l u=>hf b l O
theorem OutP.trans{P:Program}{lo:Nat}{β β₁:Ren}{s s₁:St}{w w₁:World}(h:Ext P β s w β₁ s₁ w₁){r:Out}(hf:r.free β s){e:Exit}{a':Act}{w':World}(hr:OutP P lo β₁ s₁ w₁ r e a' w'):OutP P lo β s w r e a' w':=by
 cases r with
 |normal a s'=>obtain⟨h1,β',h2,h3⟩:=hr;exact⟨h1,β',h.trans h2 hf,h3⟩
 |exit id a s'=>obtain⟨h1,β',h2,h3⟩:=hr;exact⟨h1,β',h.trans h2 hf,h3⟩
 |ret a s'=>obtain⟨h1,β',h2,h3⟩:=hr;exact⟨h1,β',h.trans h2 hf,h3⟩
 |panic c a s'=>obtain⟨c',β',h1,h2,h3,h4⟩:=hr;exact⟨c',β',h1,h.trans h2 hf,h3,h4⟩
 |stuck=>exact hr
theorem Ext.outFree{P:Program}{β β₁:Ren}{s s₁:St}{w w₁:World}(h:Ext P β s w β₁ s₁ w₁){r:Out}(hf:r.free β s):r.free β₁ s₁:=by
 cases r<;>first|exact h.freeOf hf|trivial
theorem act_put_defers{a':Act}{dst:Option Tmp}{v':Value}:(a'.put dst v').defers=a'.defers:=by
 unfold Act.put
 split<;>rfl
section
variable{P:Program}{lo:Nat}{call:FuncId→Array Value→St→CallOut}
theorem opM_next(hc:∀f args s,(call f args s).nextLe s)(o:Oper)(a:Fr)(s:St):(opM P call o a s).nextLe s:=by
 unfold opM
 have h:=stepM_next (P:=P) (s:=s) a.eval o.op
 cases hs:yX P a.eval o.op s with
 |stuck=>trivial
 |panic v s'=>rw[hs]at h;exact h
 |ok n s'=>
  rw[hs]at h
  cases n<;>simp only[]<;>first|exact h|trivial|skip
  ·rename_i f args
   have h2:=hc f args s'
   split
   ·trivial
   ·cases hr:call f args s' with
    |ret v s''=>rw[hr]at h2;exact Nat.le_trans h h2
    |panic c s''=>rw[hr]at h2;exact Nat.le_trans h h2
    |stuck=>trivial
  ·rename_i b _ args _ _
   have h2:=hc (qK+b) args s'
   cases hr:call (qK+b) args s' with
   |ret v s''=>rw[hr]at h2;exact Nat.le_trans h h2
   |panic c s''=>rw[hr]at h2;exact Nat.le_trans h h2
   |stuck=>trivial
theorem op_sound(hc:CallS P call){o:Oper}{a:Fr}{a':Act}{s:St}{β:Ren}{w:World}(h:Rel P β s w)(hρ:∀x∈o.op.operands.toList,VRel P β (a.eval x) (a'.eval x))
  (hne:opM P call o a s≠.stuck) (hfree:(opM P call o a s).free β s) (K:Act→World→Prop) (Q:Exit→Act→World→Prop)
  (hK:∀v v' s' β' w',opM P call o a s=.normal (a.put o.dst v) s'→Ext P β s w β' s' w'→VRel P β' v v'→K (a'.put o.dst v') w')
  (hQ:∀chain chain' s' β' w',opM P call o a s=.panic chain a s'→Ext P β s w β' s' w'→ChRel P β' chain chain'→Q (.panic chain') a' w') (ro:Option Nat):o.wpIn (FW ro) 0 P a' w K Q:=by
 have hs:=step_sound h (ρ:=a.eval) (ρ':=a'.eval) o hρ
 unfold Oper.wpIn
 refine⟨fun _ _=>trivial,?_⟩
 have hnd:∀c,o.op≠.defer c:=fun c hh=>by
  apply hne
  unfold opM
  rw[hh]
  rfl
 rw[Oper.semAt_eq _ _ _ hnd]
 unfold opM at hne hfree hK hQ
 cases hst:yX P a.eval o.op s with
 |stuck=>rw[hst]at hne;exact(hne rfl).elim
 |panic v s'=>
  rw[hst]at hs hfree hQ
  obtain⟨β',w',v',h1,h2,h3⟩:=hs hfree
  rw[h1]
  exact hQ _ [{v:=v',recovered:=false}] s' β' w' rfl h2 ⟨h3,rfl,rfl,trivial⟩
 |ok n s₁=>
  have hn1:=stepM_next (P:=P) (s:=s) a.eval o.op
  rw[hst]at hs hne hfree hK hQ hn1
  cases n with
  |value v=>
   obtain⟨β',w',n',h1,h2,v',rfl,h3⟩:=hs hfree
   rw[h1]
   exact hK v v' s₁ β' w' rfl h2 h3
  |skip=>
   obtain⟨β',w',n',h1,h2,rfl⟩:=hs hfree
   rw[h1]
   exact hK undef undef s₁ β' w' rfl h2 undef_rel
  |enter f args=>
   have hn2:=hc.1 f args s₁
   simp only at hne hfree hK hQ
   cases hlow:Nat.ble qK f with
   |true=>rw[hlow]at hne;exact(hne rfl).elim
   |false=>
   rw[hlow]at hne hfree hK hQ
   simp only at hne hfree hK hQ
   cases hr:call f args s₁ with
   |stuck=>rw[hr]at hne;exact(hne rfl).elim
   |ret v s₂=>
    rw[hr]at hfree hK hn2
    simp only at hfree hK
    obtain⟨β',w',n',h1,h2,args',rfl,h3⟩:=hs (hfree.sub hn2)
    rw[h1]
    have hcall:=hc.2.1 f args args' s₁ β' w' hlow h2.rel h3 (by rw[hr];simp) (by rw[hr];exact h2.freeOf hfree)
    rw[hr]at hcall
    refine⟨nofun,?_⟩
    refine(callsFW.2 hcall).mono fun e w'' ⟨β'',v',he,hx,hv⟩=>by
     subst he
     exact hK v v' s₂ β'' w'' rfl (h2.trans hx hfree) hv
   |panic c s₂=>
    rw[hr]at hfree hQ hn2
    simp only at hfree hQ
    obtain⟨β',w',n',h1,h2,args',rfl,h3⟩:=hs (hfree.sub hn2)
    rw[h1]
    have hcall:=hc.2.1 f args args' s₁ β' w' hlow h2.rel h3 (by rw[hr];simp) (by rw[hr];exact h2.freeOf hfree)
    rw[hr]at hcall
    refine⟨nofun,?_⟩
    refine(callsFW.2 hcall).mono fun e w'' ⟨β'',c',he,hx,hv⟩=>by
     subst he
     exact hQ c c' s₂ β'' w'' rfl (h2.trans hx hfree) hv
  |round b f0 args x0 y0=>
   have hn2:=hc.1 (qK+b) args s₁
   simp only at hne hfree hK hQ
   cases hr:call (qK+b) args s₁ with
   |stuck=>rw[hr]at hne;exact(hne rfl).elim
   |ret v s₂=>
    rw[hr]at hfree hK hn2
    simp only at hfree hK
    obtain⟨β',w',n',h1,h2,m,r,args',hb,hg,rfl,h3⟩:=hs (hfree.sub hn2)
    rw[h1]
    have hcall:=hc.2.2 b args args' s₁ β' w' m r h2.rel h3 hb hg (by rw[hr];simp) (by rw[hr];exact h2.freeOf hfree)
    rw[hr]at hcall
    refine⟨nofun,?_⟩
    refine RoundIn.mono (F:=FW ro) hcall fun e w'' ⟨β'',v',he,hx,hv⟩=>by
     subst he
     exact hK v v' s₂ β'' w'' rfl (h2.trans hx hfree) hv
   |panic c s₂=>
    rw[hr]at hfree hQ hn2
    simp only at hfree hQ
    obtain⟨β',w',n',h1,h2,m,r,args',hb,hg,rfl,h3⟩:=hs (hfree.sub hn2)
    rw[h1]
    have hcall:=hc.2.2 b args args' s₁ β' w' m r h2.rel h3 hb hg (by rw[hr];simp) (by rw[hr];exact h2.freeOf hfree)
    rw[hr]at hcall
    refine⟨nofun,?_⟩
    refine RoundIn.mono (F:=FW ro) hcall fun e w'' ⟨β'',c',he,hx,hv⟩=>by
     subst he
     exact hQ c c' s₂ β'' w'' rfl (h2.trans hx hfree) hv
  |_=>exact(hne rfl).elim
theorem opM_frame{o:Oper}{a:Fr}{s:St}:(∀a₁ s₁,opM P call o a s=.normal a₁ s₁→∃v,a₁=a.put o.dst v)∧(∀c a₁ s₁,opM P call o a s=.panic c a₁ s₁→a₁=a) ∧
  (∀id a₁ s₁,opM P call o a s≠.exit id a₁ s₁)∧(∀a₁ s₁,opM P call o a s≠.ret a₁ s₁):=by
 unfold opM
 cases yX P a.eval o.op s with
 |stuck=>simp
 |panic v s'=>simp
 |ok n s'=>
  cases n with
  |value v=>exact⟨fun a₁ s₁ h=>by cases h;exact⟨v,rfl⟩,by simp,by simp,by simp⟩
  |skip=>exact⟨fun a₁ s₁ h=>by cases h;exact⟨undef,rfl⟩,by simp,by simp,by simp⟩
  |enter f args=>
   simp only
   split
   ·simp
   ·cases call f args s' with
    |ret v s''=>exact⟨fun a₁ s₁ h=>by cases h;exact⟨v,rfl⟩,by simp,by simp,by simp⟩
    |panic c s''=>simp
    |stuck=>simp
  |round b f0 args x0 y0=>
   simp only
   cases call (qK+b) args s' with
   |ret v s''=>exact⟨fun a₁ s₁ h=>by cases h;exact⟨v,rfl⟩,by simp,by simp,by simp⟩
   |panic c s''=>simp
   |stuck=>simp
  |_=>simp
theorem opsM_next(hc:∀f args s,(call f args s).nextLe s)(ops:List Oper):∀(l:List Oper) (a:Fr) (s:St),(opsM P call ops l a s).nextLe s
 | [],a,s=>Nat.le_refl _
 |o::l,a,s=>by
  unfold opsM
  split
  ·have h1:=opM_next (P:=P) hc o a s
   cases hr:opM P call o a s with
   |normal a₁ s₁=>
    rw[hr]at h1
    have h2:=opsM_next hc ops l a₁ s₁
    simp only
    cases hr2:opsM P call ops l a₁ s₁<;>rw[hr2]at h2<;>first|exact Nat.le_trans h1 h2|trivial
   |exit id a₁ s₁=>rw[hr]at h1;exact h1
   |ret a₁ s₁=>rw[hr]at h1;exact h1
   |panic c a₁ s₁=>rw[hr]at h1;exact h1
   |stuck=>trivial
  ·exact opsM_next hc ops l _ s
theorem Out.free_of{β:Ren}{s s₁:St}{r:Out}(h:r.nextLe s₁)(hf:r.free β s)(hr:r≠.stuck):Free β s s₁:=by
 cases r with
 |stuck=>exact(hr rfl).elim
 |normal a s'=>exact hf.sub h
 |exit id a s'=>exact hf.sub h
 |ret a s'=>exact hf.sub h
 |panic c a s'=>exact hf.sub h
theorem ops_sound(hc:CallS P call)(ro:Option Nat)(ops:Array Oper):∀(l:List Oper),(∀o∈l,o.op.operands.toList.all je=true)→∀(a:Fr) (a':Act) (s:St) (β:Ren) (w:World),Rel P β s w→FRel P β a a'→Marks lo β s w a'.defers →
  opsM P call ops.toList l a s≠.stuck→(opsM P call ops.toList l a s).free β s→∀Q:Exit→Act→World→Prop,(∀e a₂ w₂,OutP P lo β s w (opsM P call ops.toList l a s) e a₂ w₂→Q e a₂ w₂) →
  wpListIn (FW ro) 0 P ops Q l a' w
 | [],_,a,a',s,β,w,h,hf,hm,_,_,Q,hQ=>hQ _ _ _ ⟨rfl,β,Ext.refl h,hf,hm⟩
 |o::l,hok,a,a',s,β,w,h,hf,hm,hne,hfree,Q,hQ=>by
  unfold wpListIn
  unfold opsM at hne hfree hQ
  rw[←wanted_eq hf ops o]
  cases hw:kQ ops.toList a o with
  |false=>
   rw[hw]at hne hfree hQ
   simp only at hne hfree hQ
   simp only[Bool.false_eq_true,if_false]
   exact⟨fun _ _=>trivial,ops_sound hc ro ops l (fun o' h'=>hok o' (by simp[h'])) _ _ s β w h (hf.put o.dst undef_rel) (by rw[act_put_defers];exact hm) hne hfree Q hQ⟩
  |true=>
   rw[hw]at hne hfree hQ
   simp only at hne hfree hQ
   simp only[if_true]
   have hall:=hok o Y8
   rw[List.all_eq_true]at hall
   have hρ:∀x∈o.op.operands.toList,VRel P β (a.eval x) (a'.eval x):=fun x hx=>hf.eval (hall x hx)
   have hn1:=opM_next (P:=P) hc.1 o a s
   obtain⟨fr1,fr2,fr3,fr4⟩:=opM_frame (P:=P) (call:=call) (o:=o) (a:=a) (s:=s)
   cases hr:opM P call o a s with
   |stuck=>rw[hr]at hne;exact(hne rfl).elim
   |exit id a₁ s₁=>exact(fr3 _ _ _ hr).elim
   |ret a₁ s₁=>exact(fr4 _ _ hr).elim
   |panic c a₁ s₁=>
    rw[hr]at hfree hQ
    simp only at hfree hQ
    have:=fr2 _ _ _ hr
    subst this
    refine op_sound hc h hρ (by rw[hr];simp) (by rw[hr];exact hfree) _ Q (fun v v' s' β' w' e=>by rw[hr]at e;cases e) (fun chain chain' s' β' w' e hx hch=>?_) ro
    rw[hr]at e
    cases e
    exact hQ _ _ _ ⟨chain',β',rfl,hx,hch,hm.ext hx hfree⟩
   |normal a₁ s₁=>
    rw[hr]at hfree hQ hne hn1
    simp only at hfree hQ hne
    have hn2:=opsM_next (P:=P) hc.1 ops.toList l a₁ s₁
    have hfr:=Out.free_of hn2 hfree hne
    refine op_sound hc h hρ (by rw[hr];simp) (by rw[hr];exact hfr) _ Q (fun v v' s' β' w' e hx hv=>?_) (fun chain chain' s' β' w' e=>by rw[hr]at e;cases e) ro
    rw[hr]at e
    simp only[Out.normal.injEq]at e
    obtain⟨rfl,rfl⟩:=e
    exact ops_sound hc ro ops l (fun o' h'=>hok o' (by simp[h'])) _ _ s₁ β' w' hx.rel ((hf.mono hx.le).put o.dst hv) (by rw[act_put_defers];exact hm.ext hx hfr) hne (hx.outFree hfree) Q
     fun e a₂ w₂ ho=>hQ e a₂ w₂ (ho.trans hx hfree)
end
end Go.M
namespace Go.M
structure WF(s:St):Prop where
 room:s.next≤281474976710655
 top:∀b,s.next≤b→s.get b=none
structure Kp(s s':St):Prop where
 wf:WF s'
 next:s.next≤s'.next
 bar:s'.bar=s.bar
 prot:s'.prot=s.prot
 same:∀b,b<s.next→s.may b=false→s'.get b=s.get b
 dead:∀b,b<s.next→s.get b=none→s'.get b=none
def Res.keeps{α:Type}(s:St):Res α→Prop
 | .ok _ s' | .panic _ s'=>Kp s s'
 | .stuck=>True
def Out.keeps(s:St):Out→Prop
 | .normal _ s' | .exit _ _ s' | .ret _ s' | .panic _ _ s'=>Kp s s'
 | .stuck=>True
def CallOut.keeps(s:St):CallOut→Prop
 | .ret _ s' | .panic _ s'=>Kp s s'
 | .stuck=>True
theorem Kp.refl{s:St}(h:WF s):Kp s s:=⟨h,Nat.le_refl _,rfl,rfl,fun _ _ _=>rfl,fun _ _ h=>h⟩
theorem Kp.trans{s s₁ s₂:St}(h:Kp s s₁)(h':Kp s₁ s₂):Kp s s₂ where
 wf:=h'.wf
 next:=Nat.le_trans h.next h'.next
 bar:=h'.bar.trans h.bar
 prot:=h'.prot.trans h.prot
 same:=fun b hb hm=>by
  rw[h'.same b (Nat.lt_of_lt_of_le hb h.next) (by rw[St.may_eq h.bar h.prot];exact hm),h.same b hb hm]
 dead:=fun b hb hg=>h'.dead b (Nat.lt_of_lt_of_le hb h.next) (h.dead b hb hg)
theorem WF.lt{s:St}(h:WF s){b:Nat}{o:MObj}(hg:s.get b=some o):b<s.next:=
 Classical.byContradiction fun hc=>by rw[h.top b O]at hg;cases hg
theorem Kp.put{s:St}(h:WF s){b:Nat}{o:MObj}(hg:s.get b=some o)(hm:s.may b=true)(o':Option MObj):Kp s (s.put b o'):=by
 have hlt:=h.lt hg
 have hr:=h.room
 have gp:=fun b'=>St.get_put (s:=s) (b:=b) O o' b'
 refine⟨⟨h.room,fun b' hb'=>?_⟩,Nat.le_refl _,rfl,rfl,fun b' hb' hm'=>?_,fun b' hb' hd=>?_⟩
 ·simp at hb';rw[gp,if_neg O];exact h.top b' hb'
 ·rw[gp,if_neg (fun e=>by rw[e,hm]at hm';cases hm')]
 ·rw[gp,if_neg (fun e=>by rw[e,hg]at hd;cases hd)];exact hd
theorem Kp.new{s:St}(h:WF s)(hroom:s.room=true)(o:MObj):Kp s (s.new o):=by
 have hr:=room_lt hroom
 have gp:=fun b'=>St.get_new (s:=s) O o b'
 refine⟨⟨by simp;omega,fun b' hb'=>?_⟩,by simp,rfl,rfl,fun b' hb' hm'=>?_,fun b' hb' hd=>?_⟩
 ·simp at hb';rw[gp,if_neg O];exact h.top b' O
 ·rw[gp,if_neg O]
 ·rw[gp,if_neg O];exact hd
section
variable{P:Program}{s:St}
theorem qz(h:WF s){v:Value}:(okV v s).keeps s:=Kp.refl h
theorem yW{α:Type}:(Res.stuck:Res α).keeps s:=trivial
theorem runA_scalar{x:Sem Value}(hx:Scalar x)(h:WF s):((wX P x s).map Next.value).keeps s:=by
 cases hx with
 |val hv=>exact Kp.refl h
 |err m=>exact Kp.refl h
 |stuck m=>trivial
 |unsupported u=>trivial
theorem storeS_keeps(h:WF s){b off:Nat}{vs:List Value}:(kZ b off vs s).keeps s:=by
 unfold kZ
 split
 ·rename_i c e hg
  split
  ·rename_i c' hm _
   simp only[Bool.and_eq_true]at hm
   exact Kp.put h hg hm.2 _
  ·split
   ·exact Kp.refl h
   ·exact yW
 ·exact yW
theorem storeS_kp(h:WF s){b off:Nat}{vs:List Value}{n:Next}{s':St}(hst:kZ b off vs s=.ok n s'):Kp s s':=by
 have:=storeS_keeps h (b:=b) (off:=off) (vs:=vs)
 rw[hst]at this
 exact this
theorem newS_keeps(h:WF s){e:TypeId}{c:List Value}{n:Nat}:(newS e c n s).keeps s:=by
 unfold newS
 split
 ·rename_i hr;exact Kp.new h hr _
 ·exact yW
theorem newK_keeps(h:WF s){e:TypeId}{c:List Value}{n k:Nat}:(newK e c n k s).keeps s:=by
 unfold newK
 split
 ·rename_i hr;exact Kp.new h hr _
 ·exact yW
theorem boxM_keeps(h:WF s){e:TypeId}{c:List Value}:(boxM e c s).keeps s:=by
 unfold boxM
 split
 ·rename_i hr;exact Kp.new h hr _
 ·exact yW
theorem sliceS_keeps(h:WF s){sz:Nat}{a:Option Addr}{len c:Nat}{known:Bool}{lo hi mx:Option Value}:(jp sz a len c known lo hi mx s).keeps s:=by
 unfold jp
 (repeat' split)<;>first|exact yW|exact qz h
theorem eqM_keeps(h:WF s){op:BinOp}{t:TypeId}{x y:Value}:(eqM P op t x y s).keeps s:=by
 unfold eqM
 (repeat' split)<;>first|exact yW|exact qz h
theorem intM_keeps(h:WF s){op:BinOp}{t:TypeId}{k k':IntKind}{a b:Int}:(jf P op t k k' a b s).keeps s:=by
 unfold jf
 (repeat' split)<;>first|exact qz h|exact runA_scalar (scalar_int op t _ _ a b) h
theorem textM_keeps(h:WF s){x:Value}:(textM x s).keeps s:=by
 unfold textM
 (repeat' split)<;>first|exact yW|exact qz h
theorem cutB_keeps(h:WF s){b:ByteArray}{lo hi:Option Value}:(cutB b lo hi s).keeps s:=by
 unfold cutB
 (repeat' split)<;>first|exact yW|exact qz h
theorem Res.keeps_trans{α:Type}{s₁:St}{r:Res α}(h:Kp s s₁)(hr:r.keeps s₁):r.keeps s:=by
 cases r with
 |ok a s'=>exact h.trans hr
 |panic v s'=>exact h.trans hr
 |stuck=>trivial
theorem growM_keeps(h:WF s){e:TypeId}{a:Option Addr}{cap need:Nat}{c:List Value}(hrow:rowB e a cap s=true):(growM e a cap need c s).keeps s:=by
 unfold growM
 split
 ·rename_i s' hk
  have hkp:Kp s s':=by
   unfold killM at hk
   split at hk
   ·cases hk;exact Kp.refl h
   ·rename_i hodd
    split at hk
    ·rename_i a
     split at hk
     ·rename_i hmay
      cases hk
      unfold rowB at hrow
      split at hrow
      ·rename_i h0;exact(hodd h0).elim
      ·simp only at hrow
       split at hrow
       ·rename_i cc e' hg
        exact Kp.put h hg hmay _
       ·cases hrow
     ·cases hk
    ·cases hk
  exact Res.keeps_trans hkp (newS_keeps hkp.wf)
 ·exact yW
theorem appendS_keeps(h:WF s){e:TypeId}{inf:TypeInfo}{base:Option Addr}{sLen cap n:Nat}{new:List Value}:(jI e inf base sLen cap n new s).keeps s:=by
 unfold jI
 split
 ·split
  ·rename_i b off
   split
   ·rename_i nx s' hst
    have:=storeS_keeps h (b:=b) (off:=off+sLen*inf.size) (vs:=new)
    rw[hst]at this
    exact this
   ·exact yW
  ·split
   ·exact qz h
   ·exact yW
 ·split
  ·rename_i old hb _
   simp only[Bool.and_eq_true]at hb
   exact growM_keeps h hb.2
  ·exact yW
theorem appendM_keeps(h:WF s){ts:List TypeId}{args:List Value}:(wV P ts args s).keeps s:=by
 unfold wV
 (repeat' split)<;>first|exact yW|exact appendS_keeps h
theorem copyM_keeps(h:WF s){ts:List TypeId}{args:List Value}:(copyM P ts args s).keeps s:=by
 unfold copyM
 repeat' split
 all_goals first
  |exact yW
  |(rename_i hst;exact storeS_kp h hst)
theorem builtinM_keeps(h:WF s){b:Builtin}{ts:List TypeId}{args:List Value}:(kO P b ts args s).keeps s:=by
 unfold kO
 split
 ·exact appendM_keeps h
 ·unfold capM;(repeat' split)<;>first|exact yW|exact qz h
 ·unfold lenM;(repeat' split)<;>first|exact yW|exact qz h
 ·unfold minM;(repeat' split)<;>first|exact yW|exact qz h
 ·unfold maxM;(repeat' split)<;>first|exact yW|exact qz h
 ·exact copyM_keeps h
 ·unfold clearM;(repeat' split)<;>first|exact yW|exact qz h|(rename_i hst;exact storeS_kp h hst)
 ·exact yW
theorem okPair_keeps(h:WF s){a b:Bool}{v:Value}:(okPair a v b s).keeps s:=by
 unfold okPair
 split<;>exact qz h
theorem stepM_keeps(h:WF s)(ρ:Operand→Value)(o:Op):(yX P ρ o s).keeps s:=by
 cases o with
 |move x=>exact qz h
 |assign x=>exact qz h
 |pick c a b=>simp only[yX];unfold pickM;(repeat' split)<;>first|exact yW|exact qz h
 |load t a=>simp only[yX];unfold loadM;(repeat' split)<;>first|exact yW|exact qz h
 |store t a v=>simp only[yX];unfold storeM;(repeat' split)<;>first|exact yW|exact storeS_keeps h
 |box e x=>exact boxM_keeps h
 |alloc e=>simp only[yX];unfold guarded allocM;(repeat' split)<;>first|exact yW|exact boxM_keeps h
 |fieldAddr t x f=>simp only[yX];unfold fieldM;(repeat' split)<;>first|exact yW|exact qz h
 |indexAddr t x i=>simp only[yX];unfold indexM vO;(repeat' split)<;>first|exact yW|exact qz h
 |binOp op t x y yt=>simp only[yX];unfold jc;(repeat' split)<;>first|exact intM_keeps h|exact runA_scalar (scalar_string _ _ _ _) h|exact eqM_keeps h
 |unOp op t x=>simp only[yX];unfold unM;(repeat' split)<;>first|exact yW|exact qz h|exact runA_scalar (scalar_unary _ _ _) h
 |extract x i=>simp only[yX];unfold extractM;(repeat' split)<;>first|exact yW|exact qz h
 |nilCheck x=>simp only[yX];unfold nilM;(repeat' split)<;>first|exact yW|exact qz h
 |sliceToArrayPointer t x=>simp only[yX];unfold arrM;(repeat' split)<;>first|exact yW|exact qz h
 |convert src dst x=>simp only[yX];unfold convertM;(repeat' split)<;>first|exact yW|exact qz h|exact textM_keeps h|exact newS_keeps h
 |makeInterface t x=>simp only[yX];unfold ifaceM;(repeat' split)<;>first|exact yW|exact qz h
 |makeFunc fn f c=>simp only[yX];(repeat' split)<;>first|exact yW|exact qz h
 |makeMap t r=>
  cases r with
  |none=>
   simp only[yX];unfold mapM
   split
   ·rename_i hr;exact Kp.new h hr _
   ·exact yW
  |some r=>exact yW
 |slice t x lo hi mx=>simp only[yX];unfold sliceM;(repeat' split)<;>first|exact yW|exact sliceS_keeps h|exact cutB_keeps h
 |field t x f=>simp only[yX];unfold fieldV;(repeat' split)<;>first|exact yW|exact qz h
 |index t x i=>simp only[yX];unfold indexV;(repeat' split)<;>first|exact yW|exact qz h
 |panic x=>simp only[yX];unfold panicM;(repeat' split)<;>first|exact yW|exact Kp.refl h
 |call c=>
  simp only[yX]
  split
  ·unfold kn;(repeat' split)<;>first|exact yW|exact Kp.refl h
  ·exact builtinM_keeps h
  ·exact yW
 |build t parts=>simp only[yX];unfold buildM;(repeat' split)<;>first|exact yW|exact qz h
 |buildSlice t len parts=>simp only[yX];unfold wO;(repeat' split)<;>first|exact yW|exact newK_keeps h
 |makeSlice t l c=>simp only[yX];unfold makeSliceM;(repeat' split)<;>first|exact yW|exact newK_keeps h
 |lookup t x i ok=>simp only[yX];unfold lookupM;(repeat' split)<;>first|exact yW|exact okPair_keeps h
 |mapUpdate t m k x=>
  simp only[yX];unfold updateM
  split
  ·split
   ·rename_i hg
    (repeat' split)<;>first|exact yW|(unfold setM;split<;>first|exact yW|(rename_i hm;exact Kp.put h hg hm _))
   ·exact yW
  ·exact yW
 |insert t m k x=>
  simp only[yX];unfold updateM
  split
  ·split
   ·rename_i hg
    (repeat' split)<;>first|exact yW|(unfold setM;split<;>first|exact yW|(rename_i hm;exact Kp.put h hg hm _))
   ·exact yW
  ·exact yW
 |_=>exact yW
theorem CallOut.keeps_trans{s₁:St}{r:CallOut}(h:Kp s s₁)(hr:r.keeps s₁):r.keeps s:=by
 cases r with
 |ret a s'=>exact h.trans hr
 |panic v s'=>exact h.trans hr
 |stuck=>trivial
theorem Out.keeps_trans{s₁:St}{r:Out}(h:Kp s s₁)(hr:r.keeps s₁):r.keeps s:=by
 cases r with
 |normal a s'=>exact h.trans hr
 |exit id a s'=>exact h.trans hr
 |ret a s'=>exact h.trans hr
 |panic c a s'=>exact h.trans hr
 |stuck=>trivial
variable{call:FuncId→Array Value→St→CallOut}
theorem opM_keeps(hc:∀f args s,WF s→(call f args s).keeps s)(h:WF s)(o:Oper)(a:Fr):(opM P call o a s).keeps s:=by
 unfold opM
 have hk:=stepM_keeps (P:=P) h a.eval o.op
 cases hs:yX P a.eval o.op s with
 |stuck=>trivial
 |panic v s'=>rw[hs]at hk;exact hk
 |ok n s'=>
  rw[hs]at hk
  cases n<;>simp only[]<;>first|exact hk|trivial|skip
  ·rename_i f args
   have hk:Kp s s':=hk
   have h2:=hc f args s' hk.wf
   split
   ·trivial
   ·cases hr:call f args s' with
    |ret v s''=>rw[hr]at h2;exact hk.trans h2
    |panic c s''=>rw[hr]at h2;exact hk.trans h2
    |stuck=>trivial
  ·rename_i b _ args _ _
   have hk:Kp s s':=hk
   have h2:=hc (qK+b) args s' hk.wf
   cases hr:call (qK+b) args s' with
   |ret v s''=>rw[hr]at h2;exact hk.trans h2
   |panic c s''=>rw[hr]at h2;exact hk.trans h2
   |stuck=>trivial
theorem opsM_keeps(hc:∀f args s,WF s→(call f args s).keeps s)(ops:List Oper):∀(l:List Oper) (a:Fr) (s:St),WF s→(opsM P call ops l a s).keeps s
 | [],a,s,h=>Kp.refl h
 |o::l,a,s,h=>by
  unfold opsM
  split
  ·have h1:=opM_keeps (P:=P) hc h o a
   cases hr:opM P call o a s with
   |normal a₁ s₁=>
    rw[hr]at h1
    have h1:Kp s s₁:=h1
    exact Out.keeps_trans h1 (opsM_keeps hc ops l a₁ s₁ h1.wf)
   |exit id a₁ s₁=>rw[hr]at h1;exact h1
   |ret a₁ s₁=>rw[hr]at h1;exact h1
   |panic c a₁ s₁=>rw[hr]at h1;exact h1
   |stuck=>trivial
  ·exact opsM_keeps hc ops l _ s h
theorem Kp.relax{s s₀ s₁:St}(hh:s₀.heap=s.heap)(hn:s₀.next=s.next)(hm:∀b,s.may b=false→b<s.next→s₀.may b=false)(h:Kp s₀ s₁) :
  Kp s {next:=s₁.next,bar:=s.bar,prot:=s.prot,heap:=s₁.heap}:=by
 have hg:∀b,s₀.get b=s.get b:=fun b=>by simp only[St.get,hh]
 refine⟨⟨h.wf.room,h.wf.top⟩,by have:=h.next;simp only;omega,rfl,rfl,fun b hb hmb=>?_,fun b hb hd=>?_⟩
 ·have:=h.same b O (hm b hmb hb)
  rw[hg]at this
  exact this
 ·have:=h.dead b O (by rw[hg];exact hd)
  exact this
theorem WF.of_heap{s s₀:St}(h:WF s)(hh:s₀.heap=s.heap)(hn:s₀.next=s.next):WF s₀:=
 ⟨by rw[hn];exact h.room,fun b hb=>by
  have:=h.top b O
  simpa only[St.get,hh]using this⟩
theorem drawOp_keeps(hc:∀f args s,WF s→(call f args s).keeps s)(h:WF s)(ops:List Oper)(d:Drawn)(o:Oper)(a:Fr):(qW P call ops d o a s).keeps s:=by
 unfold qW
 split
 ·split
  ·split
   ·split
    ·exact Kp.refl h
    ·trivial
   ·trivial
  ·have h0:WF {s with prot:=qZ ops a d.free++s.prot}:=h.of_heap rfl rfl
   have h1:=opM_keeps (P:=P) hc h0 o a
   split
   ·rename_i a₁ s' hr
    rw[hr]at h1
    exact Kp.relax (s:=s) (s₀:={s with prot:=qZ ops a d.free++s.prot}) rfl rfl (fun b hb _=>by
     unfold St.may at hb ⊢
     simp only[Bool.and_eq_false_iff,Bool.not_eq_false',List.any_append,Bool.or_eq_true]at hb ⊢
     rcases hb with hb|hb
     ·exact .inl hb
     ·exact .inr (.inr hb)) h1
   ·rename_i c a₁ s' hr
    rw[hr]at h1
    exact Kp.relax (s:=s) (s₀:={s with prot:=qZ ops a d.free++s.prot}) rfl rfl (fun b hb _=>by
     unfold St.may at hb ⊢
     simp only[Bool.and_eq_false_iff,Bool.not_eq_false',List.any_append,Bool.or_eq_true]at hb ⊢
     rcases hb with hb|hb
     ·exact .inl hb
     ·exact .inr (.inr hb)) h1
   ·trivial
  ·have h0:WF {s with bar:=s.next}:=h.of_heap rfl rfl
   have h1:=opM_keeps (P:=P) hc h0 o a
   split
   ·rename_i a₁ s' hr
    rw[hr]at h1
    exact Kp.relax (s:=s) (s₀:={s with bar:=s.next}) rfl rfl (fun b _ hb=>by
     unfold St.may
     simp only[Bool.and_eq_false_iff]
     left
     rw[Bool.eq_false_iff]
     intro hh
     have:=Nat.le_of_ble_eq_true hh
     omega) h1
   ·trivial
  ·split
   ·split
    ·rename_i hn _ _
     split
     ·exact Kp.new h (by rw[Bool.and_eq_true]at hn;exact hn.2) _
     ·trivial
    ·trivial
   ·trivial
 ·exact Kp.refl h
theorem drawM_keeps(hc:∀f args s,WF s→(call f args s).keeps s)(ops:List Oper):∀(l:List Drawn) (a:Fr) (s:St),WF s→(drawM P call ops l a s).keeps s
 | [],a,s,h=>Kp.refl h
 |d::l,a,s,h=>by
  unfold drawM
  split
  ·rename_i o _
   have h1:=drawOp_keeps (P:=P) hc h ops d o a
   cases hr:qW P call ops d o a s with
   |normal a₁ s₁=>
    rw[hr]at h1
    have h1:Kp s s₁:=h1
    exact Out.keeps_trans h1 (drawM_keeps hc ops l a₁ s₁ h1.wf)
   |exit id a₁ s₁=>rw[hr]at h1;exact h1
   |ret a₁ s₁=>rw[hr]at h1;exact h1
   |panic c a₁ s₁=>rw[hr]at h1;exact h1
   |stuck=>trivial
  ·trivial
end
end Go.M
namespace Go.M
inductive Sched(ops:Array Oper):(Nat→Prop)→List Nat→Prop where
 |nil {L:Nat→Prop} (h:∀i,i<ops.size→L i):Sched ops L []
 |cons {L:Nat→Prop} {i:Nat} {rest:List Nat} (hi:i<ops.size) (hn:¬L i) (he:∀o,ops[i]? = some o→∀e∈o.after.toList,Region.binds .any e=true→L e.on)
   (h:Sched ops (fun k=>L k∨k=i) rest):Sched ops L (i::rest)
theorem filter_lt{p q:Nat→Bool}:∀(l:List Nat),(∀x,q x=true→p x=true)→(∃x∈l,p x=true∧q x=false)→(l.filter q).length<(l.filter p).length
 | [],_,h=>by obtain⟨x,hx,_⟩:=h;simp at hx
 |y::l,hpq,h=>by
  have le:∀l:List Nat,(l.filter q).length≤(l.filter p).length:=by
   intro l
   induction l with
   |nil=>simp
   |cons z l ih=>
    simp only[List.filter_cons]
    cases hq:q z with
    |true=>rw[hpq z hq];simp;exact ih
    |false=>cases p z<;>simp<;>omega
  obtain⟨x,hx,h1,h2⟩:=h
  simp only[List.filter_cons]
  rcases List.mem_cons.1 hx with rfl|hx
  ·rw[h1,h2]
   have:=le l
   simp;omega
  ·have ih:=filter_lt l hpq ⟨x,hx,h1,h2⟩
   cases hq:q y with
   |true=>rw[hpq y hq];simp;exact ih
   |false=>cases p y<;>simp<;>omega
section
variable(ops:Array Oper)
def readyAt(listed:Array Bool)(i:Nat):Bool:=
 !listed.getD i true&&((ops[i]?).map (·.after.all fun e=> !Region.binds .any e||listed.getD e.on false)).getD false
theorem go_sched(hb:∀i o,ops[i]? = some o→∀e∈o.after.toList,Region.binds .any e=true→e.on<i):∀(fuel t:Nat) (listed:Array Bool) (acc:List Nat),listed.size=ops.size →
  ((List.range ops.size).filter fun i=> !listed.getD i true).length≤fuel →
  ∃rest,Region.linearise.go .any ops fuel t listed acc=acc.reverse++rest∧Sched ops (fun i=>listed.getD i false=true) rest
 |0,t,listed,acc,hs,hc=>by
  refine⟨[],by simp[Region.linearise.go],.nil fun i hi=>?_⟩
  have h0:(List.range ops.size).filter (fun i=> !listed.getD i true)=[]:=List.eq_nil_of_length_eq_zero O
  have:=List.filter_eq_nil_iff.1 h0 i (by simpa using hi)
  simp only[Bool.not_eq_true',Bool.not_eq_false]at this
  rw[Array.getD_eq_getD_getElem?]at this ⊢
  rw[Array.getElem?_eq_getElem O]at this ⊢
  exact this
 |fuel+1,t,listed,acc,hs,hc=>by
  have inb:∀i,i<ops.size→∀d,listed.getD i d=listed.getD i false:=fun i hi d=>by
   rw[Array.getD_eq_getD_getElem?,Array.getD_eq_getD_getElem?,Array.getElem?_eq_getElem O];rfl
  unfold Region.linearise.go
  have hrs:((List.range ops.size).filter fun i=> !listed.getD i true&&((ops[i]?).map (·.after.all fun e=> !Region.binds .any e||listed.getD e.on false)).getD false)=(List.range ops.size).filter (readyAt ops listed):=rfl
  simp only[hrs]
  cases hr:((List.range ops.size).filter (readyAt ops listed))[t % ((List.range ops.size).filter (readyAt ops listed)).length]? with
  |none=>
   -- nothing is ready: everything is listed
   have hnil:(List.range ops.size).filter (readyAt ops listed)=[]:=by
    cases hl:(List.range ops.size).filter (readyAt ops listed)with
    |nil=>rfl
    |cons x xs=>
     rw[hl]at hr
     have:t % (x::xs).length<(x::xs).length:=Nat.mod_lt _ Y8
     rw[List.getElem?_eq_getElem this]at hr
     cases hr
   have all:∀i,i<ops.size→listed.getD i false=true:=by
    intro i
    induction i using Nat.strongRecOn with
    |_ i ih=>
     intro hi
     cases hv:listed.getD i false with
     |true=>rfl
     |false=>
      exfalso
      have hno:=List.filter_eq_nil_iff.1 hnil i (by simpa using hi)
      apply hno
      unfold readyAt
      rw[inb i hi true,hv]
      simp only[Bool.not_false,Bool.true_and]
      rw[Array.getElem?_eq_getElem hi]
      simp only[Option.map_some,Option.getD_some,Array.all_eq_true_iff_forall_mem]
      intro e he
      cases hbd:Region.binds .any e with
      |false=>rfl
      |true=>
       have hlt:=hb i ops[i] (by simp[hi]) e (by simpa using he) hbd
       simp[ih e.on hlt O]
   exact⟨[],by simp,.nil all⟩
  |some i=>
   have hmem:i∈(List.range ops.size).filter (readyAt ops listed):=List.mem_of_getElem? hr
   simp only[List.mem_filter,List.mem_range]at hmem
   obtain⟨hi,hrdy⟩:=hmem
   unfold readyAt at hrdy
   simp only[Bool.and_eq_true]at hrdy
   obtain⟨h1,h2⟩:=hrdy
   rw[inb i hi true]at h1
   have hnl:listed.getD i false=false:=by simpa using h1
   have hget:∀k d,(listed.setIfInBounds i true).getD k d=if k=i then true else listed.getD k d:=fun k d=>by
    rw[Array.getD_eq_getD_getElem?,Array.getD_eq_getD_getElem?]
    by_cases hk:k=i
    ·subst hk
     rw[Array.getElem?_setIfInBounds_self_of_lt O,if_pos rfl];rfl
    ·rw[Array.getElem?_setIfInBounds_ne (Ne.symm hk),if_neg hk]
   obtain⟨rest,g1,g2⟩:=go_sched hb fuel (t / ((List.range ops.size).filter (readyAt ops listed)).length) (listed.setIfInBounds i true) (i::acc) (by simpa using hs) (by
    have:=filter_lt (p:=fun k=> !listed.getD k true) (q:=fun k=> !(listed.setIfInBounds i true).getD k true) (List.range ops.size) (fun x hx=>by
      rw[hget]at hx
      split at hx
      ·simp at hx
      ·exact hx)
     ⟨i,by simpa using hi,by rw[inb i hi true,hnl];rfl,by rw[hget,if_pos rfl];rfl⟩
    omega)
   refine⟨i::rest,by simp[g1],.cons hi (by rw[hnl];simp) (fun o ho e he hbd=>?_) ?_⟩
   ·rw[ho]at h2
    simp only[Option.map_some,Option.getD_some,Array.all_eq_true_iff_forall_mem]at h2
    have:=h2 e (by simpa using he)
    rw[hbd]at this
    simpa using this
   ·have e1:(fun k=>listed.getD k false=true∨k=i)=(fun k=>(listed.setIfInBounds i true).getD k false=true):=by
     funext k
     rw[hget]
     by_cases hk:k=i<;>simp[hk]
    rw[e1];exact g2
theorem linearise_sched(hb:∀i o,ops[i]? = some o→∀e∈o.after.toList,Region.binds .any e=true→e.on<i)(t:Nat):Sched ops (fun _=>False) (Region.linearise .any ops t):=by
 obtain⟨rest,h1,h2⟩:=go_sched ops hb ops.size t (Array.replicate ops.size false) [] Y8 (by
  refine Nat.le_trans (List.length_filter_le _ _) ?_
  simp)
 unfold Region.linearise
 rw[h1]
 simp only[List.reverse_nil,List.nil_append]
 have e1:(fun i=>(Array.replicate ops.size false).getD i false=true)=(fun _=>False):=by
  funext i
  rw[Array.getD_eq_getD_getElem?,Array.getElem?_replicate]
  split<;>simp
 rw[e1]at h2
 exact h2
end
end Go.M
