/- Frames; and that block numbers only grow. -/
import Derived.Test.YtocnbjjmmgolfaaGreatA06
namespace Go.M
def Res.nextLe{α:Type}(s:St):Res α→Prop
  | .ok _ s'=>s.next≤s'.next
  | .panic _ s'=>s.next≤s'.next
  | .stuck=>True
def Out.nextLe(s:St):Out→Prop
  | .normal _ s' | .exit _ _ s' | .ret _ s' | .panic _ _ s'=>s.next≤s'.next
  | .stuck=>True
def CallOut.nextLe(s:St):CallOut→Prop
  | .ret _ s' | .panic _ s'=>s.next≤s'.next
  | .stuck=>True
section
variable{P:Program}{s:St}
theorem zP{v:Value}:(okV v s).nextLe s:=Nat.le_refl _
theorem zk{α:Type}:(Res.stuck:Res α).nextLe s:=trivial
theorem runA_nextLe{α γ:Type}(f:α→γ)(x:Sem α):((xR P x s).map f).nextLe s:=by
  have h:=runA_next (P:=P) x s
  cases hx:xR P x s with
  |ok a s'=>exact h.1 a s' hx
  |panic v s'=>exact h.2 v s' hx
  |stuck=>trivial
theorem storeS_next{b off:Nat}{vs:List Value}:(yB b off vs s).nextLe s:=by
  unfold yB
  (repeat' split)<;>first|exact zk|exact Nat.le_refl _
theorem newS_next{e:TypeId}{c:List Value}{n:Nat}:(newS e c n s).nextLe s:=by
  unfold newS
  split
  · exact Nat.le_succ _
  · exact zk
theorem newK_next{e:TypeId}{c:List Value}{n k:Nat}:(newK e c n k s).nextLe s:=by
  unfold newK
  split
  · exact Nat.le_succ _
  · exact zk
theorem boxM_next{e:TypeId}{c:List Value}:(boxM e c s).nextLe s:=by
  unfold boxM
  split
  · exact Nat.le_succ _
  · exact zk
theorem sliceS_next{sz:Nat}{a:Option Addr}{len c:Nat}{known:Bool}{lo hi mx:Option Value}:(y9 sz a len c known lo hi mx s).nextLe s:=by
  unfold y9
  (repeat' split)<;>first|exact zk|exact zP
theorem eqM_next{op:BinOp}{t:TypeId}{x y:Value}:(eqM P op t x y s).nextLe s:=by
  unfold eqM
  (repeat' split)<;>first|exact zk|exact zP
theorem intM_next{op:BinOp}{t:TypeId}{k k':IntKind}{a b:Int}:(intM P op t k k' a b s).nextLe s:=by
  unfold intM
  (repeat' split)<;>first|exact zP|exact runA_nextLe _ _
theorem textM_next{x:Value}:(textM x s).nextLe s:=by
  unfold textM
  (repeat' split)<;>first|exact zk|exact zP
theorem cutB_next{b:ByteArray}{lo hi:Option Value}:(cutB b lo hi s).nextLe s:=by
  unfold cutB
  (repeat' split)<;>first|exact zk|exact zP
theorem growM_next{e:TypeId}{a:Option Addr}{cap need:Nat}{c:List Value}:(growM e a cap need c s).nextLe s:=by
  unfold growM
  split
  · rename_i s' hk
    have:s'.next=s.next:=by
      unfold killM at hk
      (repeat' split at hk)<;>cases hk<;>rfl
    have h:=newS_next (s:=s') (e:=e) (c:=c) (n:=need)
    cases hr:newS e c need s' with
    |ok a s''=>rw[hr]at h;simp only[Res.nextLe]at h ⊢;omega
    |panic v s''=>rw[hr]at h;simp only[Res.nextLe]at h ⊢;omega
    |stuck=>trivial
  · exact zk
theorem appendS_next{e:TypeId}{inf:TypeInfo}{base:Option Addr}{sLen cap n:Nat}{new:List Value}:(yX e inf base sLen cap n new s).nextLe s:=by
  unfold yX
  split
  · split
    · rename_i b off
      split
      · rename_i nx s' hst
        have:=storeS_next (s:=s) (b:=b) (off:=off+sLen*inf.size) (vs:=new)
        rw[hst]at this
        exact this
      · exact zk
    · split
      · exact zP
      · exact zk
  · split
    · exact growM_next
    · exact zk
theorem appendM_next{ts:List TypeId}{args:List Value}:(yi P ts args s).nextLe s:=by
  unfold yi
  (repeat' split)<;>first|exact zk|exact appendS_next
theorem storeS_same{b off:Nat}{vs:List Value}{n:Next}{s':St}(h:yB b off vs s=.ok n s'):s'.next=s.next:=by
  unfold yB at h
  (repeat' split at h)<;>cases h
  all_goals rfl
theorem copyM_next{ts:List TypeId}{args:List Value}:(copyM P ts args s).nextLe s:=by
  unfold copyM
  repeat' split
  all_goals first
    |exact zk
    |(rename_i hst;exact Nat.le_of_eq (storeS_same hst).symm)
theorem builtinM_next{b:Builtin}{ts:List TypeId}{args:List Value}:(yy P b ts args s).nextLe s:=by
  unfold yy
  split
  · exact appendM_next
  · unfold capM;(repeat' split)<;>first|exact zk|exact zP
  · unfold lenM;(repeat' split)<;>first|exact zk|exact zP
  · unfold minM;(repeat' split)<;>first|exact zk|exact zP
  · unfold maxM;(repeat' split)<;>first|exact zk|exact zP
  · exact copyM_next
  · unfold clearM;(repeat' split)<;>first|exact zk|exact zP|(rename_i hst;exact Nat.le_of_eq (storeS_same hst).symm)
  · exact zk
theorem okPair_next{a b:Bool}{v:Value}:(okPair a v b s).nextLe s:=by
  unfold okPair
  split<;>exact zP
theorem setM_next{r:Nat}{es:Array MapEntry}{c:Nat}:(setM r es c s).nextLe s:=by
  unfold setM
  split
  · exact Nat.le_refl _
  · exact zk
theorem stepM_next(ρ:Operand→Value)(o:Op):(zh P ρ o s).nextLe s:=by
  cases o with
  |move x=>exact zP
  |assign x=>exact zP
  |pick c a b=>simp only[zh];unfold pickM;(repeat' split)<;>first|exact zk|exact zP
  |load t a=>simp only[zh];unfold loadM;(repeat' split)<;>first|exact zk|exact zP
  |store t a v=>simp only[zh];unfold storeM;(repeat' split)<;>first|exact zk|exact storeS_next
  |box e x=>exact boxM_next
  |alloc e=>simp only[zh];unfold guarded allocM;(repeat' split)<;>first|exact zk|exact boxM_next
  |fieldAddr t x f=>simp only[zh];unfold fieldM;(repeat' split)<;>first|exact zk|exact zP
  |indexAddr t x i=>simp only[zh];unfold qB yP;(repeat' split)<;>first|exact zk|exact zP
  |binOp op t x y yt=>simp only[zh];unfold qt;(repeat' split)<;>first|exact intM_next|exact runA_nextLe _ _|exact eqM_next
  |unOp op t x=>simp only[zh];unfold unM;(repeat' split)<;>first|exact zk|exact zP|exact runA_nextLe _ _
  |extract x i=>simp only[zh];unfold extractM;(repeat' split)<;>first|exact zk|exact zP
  |nilCheck x=>simp only[zh];unfold nilM;(repeat' split)<;>first|exact zk|exact zP
  |sliceToArrayPointer t x=>simp only[zh];unfold arrM;(repeat' split)<;>first|exact zk|exact zP
  |convert src dst x=>simp only[zh];unfold qE;(repeat' split)<;>first|exact zk|exact zP|exact textM_next|exact newS_next
  |makeInterface t x=>simp only[zh];unfold ifaceM;(repeat' split)<;>first|exact zk|exact zP
  |makeFunc fn f c=>simp only[zh];(repeat' split)<;>first|exact zk|exact zP
  |makeMap t r=>
    cases r with
    |none=>
      simp only[zh];unfold mapM
      split
      · exact Nat.le_succ _
      · exact zk
    |some r=>exact zk
  |slice t x lo hi mx=>simp only[zh];unfold xa;(repeat' split)<;>first|exact zk|exact sliceS_next|exact cutB_next
  |field t x f=>simp only[zh];unfold fieldV;(repeat' split)<;>first|exact zk|exact zP
  |index t x i=>simp only[zh];unfold indexV;(repeat' split)<;>first|exact zk|exact zP
  |panic x=>simp only[zh];unfold panicM;(repeat' split)<;>first|exact zk|exact Nat.le_refl _
  |call c=>
    simp only[zh]
    split
    · unfold callV;(repeat' split)<;>first|exact zk|exact Nat.le_refl _
    · exact builtinM_next
    · exact zk
  |build t parts=>simp only[zh];unfold buildM;(repeat' split)<;>first|exact zk|exact zP
  |buildSlice t len parts=>simp only[zh];unfold xE;(repeat' split)<;>first|exact zk|exact newK_next
  |makeSlice t l c=>simp only[zh];unfold xw;(repeat' split)<;>first|exact zk|exact newK_next
  |lookup t x i ok=>simp only[zh];unfold lookupM;(repeat' split)<;>first|exact zk|exact okPair_next
  |mapUpdate t m k x=>simp only[zh];unfold updateM;(repeat' split)<;>first|exact zk|exact setM_next
  |insert t m k x=>simp only[zh];unfold updateM;(repeat' split)<;>first|exact zk|exact setM_next
  |_=>exact zk
end
structure FRel(P:Program)(β:Ren)(a:Fr)(a':Act):Prop where
  size:a'.tmps.size=a.size
  small:a.size≤65534
  get:∀t,VRel P β (a.get t) (a'.tmps.getD t undef)
section
variable{P:Program}{β:Ren}
theorem FRel.mono{β':Ren}(hb:β.le β'){a:Fr}{a':Act}(h:FRel P β a a'):FRel P β' a a':=⟨h.size,h.small,fun t=>(h.get t).mono hb⟩
theorem undef_rel:VRel P β undef undef:=.tuple .nil
theorem FRel.eval{a:Fr}{a':Act}(h:FRel P β a a'){x:Operand}(hx:xY x=true):VRel P β (a.eval x) (a'.eval x):=by
  cases x with
  |tmp t=>exact h.get t
  |const v=>exact plainZ_rel hx
  |global g=>simp[xY]at hx
  |func f=>exact .func .nil .nil rfl
theorem FRel.put{a:Fr}{a':Act}(h:FRel P β a a')(dst:Option Tmp){v v':Value}(hv:VRel P β v v'):FRel P β (a.put dst v) (a'.put dst v'):=by
  cases dst with
  |none=>exact h
  |some d=>
    change Nat at d
    unfold Fr.put Act.put
    simp only
    cases hd:Nat.blt d a.size with
    |true=>
      have hlt:d<a.size:=by simpa[Nat.blt_eq]using hd
      have hsm:=h.small
      refine⟨by simpa using h.size,hsm,fun t=>?_⟩
      have e1:({a with tmps:=a.tmps.put fdepth d (some v)}:Fr).get t=if t=d then v else a.get t:=by
        unfold Fr.get
        rw [Tr.get_put fdepth _ _ _ _ (by have : (2 : Nat) ^ fdepth = 65536 := by decide
                                          omega)]
        by_cases htd:t=d<;>simp[htd]
      simp only at e1 ⊢
      rw[e1]
      have hsz:=h.size
      by_cases htd:t=d
      · subst htd
        rw[if_pos rfl]
        have:(a'.tmps.setIfInBounds t v').getD t undef=v':=by
          rw[Array.getD_eq_getD_getElem?,Array.getElem?_setIfInBounds_self_of_lt O]
          rfl
        rw[this];exact hv
      · rw[if_neg htd]
        have:(a'.tmps.setIfInBounds d v').getD t undef=a'.tmps.getD t undef:=by
          rw[Array.getD_eq_getD_getElem?,Array.getD_eq_getD_getElem?,Array.getElem?_setIfInBounds_ne (Ne.symm htd)]
        rw[this];exact h.get t
    |false=>
      have hge:¬d<a.size:=by
        intro hh
        have:Nat.blt d a.size=true:=by simpa[Nat.blt_eq]using hh
        rw[this]at hd;cases hd
      refine⟨by simpa using h.size,h.small,fun t=>?_⟩
      have hsz:=h.size
      have:a'.tmps.setIfInBounds d v'=a'.tmps:=Array.setIfInBounds_eq_of_size_le O
      rw[this];exact h.get t
theorem fillT_get:∀(l:List Value) (n:Nat) (t:Tr Value) (i:Nat),n+l.length≤65534→(fillT l n t).get i=if n≤i∧i<n+l.length then l[i-n]? else t.get i
  | [],n,t,i,h=>by simp[fillT];omega
  |v::l,n,t,i,h=>by
    simp only[List.length_cons]at h
    rw[fillT,fillT_get l (n+1) _ i O]
    rw [Tr.get_put fdepth _ _ _ _ (by have : (2 : Nat) ^ fdepth = 65536 := by decide
                                      omega)]
    simp only[List.length_cons]
    by_cases h1:n+1≤i∧i<n+1+l.length
    · rw[if_pos h1,if_pos O,show i-n=(i-(n+1))+1 by omega]
      simp
    · rw[if_neg h1]
      by_cases h2:i=n
      · subst h2
        rw[if_pos rfl,if_pos O]
        simp
      · rw[if_neg h2,if_neg O]
theorem FRel.make{args args':Array Value}{n:Nat}(ha:LRel P β args.toList args'.toList)(h1:args.toList.length≤n)(h2:n≤65534) :
    FRel P β (Fr.make args n) {tmps:=args'++Array.replicate (n-args'.size) undef,defers:=[]}:=by
  have hl:=ha.length
  rw[Array.length_toList,Array.length_toList]at hl
  rw[Array.length_toList]at h1
  refine⟨by simp[Fr.make];omega,h2,fun t=>?_⟩
  have e1:(Fr.make args n).get t=if t<args.size then args.toList.getD t undef else undef:=by
    unfold Fr.get Fr.make
    simp only
    rw[fillT_get _ _ _ _ (by simpa using by omega)]
    by_cases ht:t<args.size
    · rw[if_pos ⟨Nat.zero_le _,by simpa using ht⟩,if_pos ht]
      simp[ht]
    · rw[if_neg (by simp;omega),if_neg ht]
      rfl
  rw[e1]
  by_cases ht:t<args.size
  · rw[if_pos ht]
    obtain⟨v',hv',hr⟩:=ha.get (i:=t) (v:=args[t]) (by simp[ht])
    have:(args'++Array.replicate (n-args'.size) undef).getD t undef=v':=by
      rw[Array.getD_eq_getD_getElem?,Array.getElem?_append_left O]
      rw[Array.getElem?_toList]at hv'
      rw[hv'];rfl
    rw[this]
    simpa[ht]using hr
  · rw[if_neg ht]
    have:(args'++Array.replicate (n-args'.size) undef).getD t undef=undef:=by
      rw[Array.getD_eq_getD_getElem?,Array.getElem?_append_right O]
      by_cases hr:t-args'.size<n-args'.size
      · simp[hr]
      · simp[hr]
    rw[this];exact undef_rel
theorem Fr.get_eq(a:Fr)(t:Nat):a.get t=(a.tmps.get t).getD undef:=by
  unfold Fr.get
  cases a.tmps.get t<;>rfl
theorem normL_eq(g:Nat→Value):∀(n:Nat) (l:List Value),normL g n l=(List.range n).map g++l
  |0,l=>by simp[normL]
  |n+1,l=>by rw[normL,normL_eq g n,List.range_succ,List.map_append,List.append_assoc];rfl
theorem Fr.norm_get{a:Fr}(h:a.size≤65534)(t:Nat):a.norm.get t=if t<a.size then a.get t else undef:=by
  unfold Fr.norm Fr.make
  rw[normL_eq,List.append_nil]
  show(match (fillT ((List.range a.size).map a.get) 0 .nil).get t with|some v=>v|none=>undef)=_
  rw[fillT_get _ _ _ _ (by simp;omega)]
  by_cases ht:t<a.size
  · rw[if_pos (by simp;omega),if_pos ht]
    simp[ht]
  · rw[if_neg (by simp;omega),if_neg ht]
    rfl
theorem FRel.norm{a:Fr}{a':Act}(h:FRel P β a a'):TRel P β a.norm a'.tmps:=by
  refine⟨h.size,h.small,fun t=>?_⟩
  rw[←Fr.get_eq,Fr.norm_get h.small]
  by_cases ht:t<a.size
  · rw[if_pos ht];exact h.get t
  · rw[if_neg ht]
    have:a'.tmps.getD t undef=undef:=by
      rw[Array.getD_eq_getD_getElem?,Array.getElem?_eq_none (by have:=h.size;omega)]
      rfl
    rw[this];exact undef_rel
theorem FRel.trel{a:Fr}{a':Act}(h:FRel P β a a'):TRel P β a a'.tmps:=⟨h.size,h.small,fun t=>by rw[←Fr.get_eq];exact h.get t⟩
theorem TRel.frel{a:Fr}{t':Array Value}(h:TRel P β a t')(ds:List Deferred):FRel P β a {tmps:=t',defers:=ds}:=⟨h.size,h.small,fun t=>by rw[Fr.get_eq];exact h.get t⟩
theorem wanted_eq{a:Fr}{a':Act}(h:FRel P β a a')(ops:Array Oper)(o:Oper):yT ops.toList a o=Region.wanted o (yielded ops a'.tmps):=by
  unfold yT Region.wanted
  split
  · rename_i hg;rw[hg]
  · rename_i j want hg
    rw[hg]
    simp only[yielded]
    rw[zC]
    cases hq:ops[j]? with
    |none=>
      have:ops.toList[j]? = none:=by simpa using hq
      rw[this]
      simp
    |some q=>
      have:ops.toList[j]? = some q:=by simpa using hq
      rw[this]
      simp only[Option.bind_some]
      cases hd:q.dst with
      |none=>simp
      |some d=>
        simp only[Option.bind_some]
        have hg:=h.get d
        cases ht:a'.tmps[d]? with
        |none=>
          rw[Array.getD_eq_getD_getElem?,ht]at hg
          simp only[Option.getD_none]at hg
          have:∀b,a.get d≠.bool b:=fun b hb=>by rw[hb]at hg;cases hg
          cases hv:a.get d<;>first|rfl|exact(this _ hv).elim
        |some v=>
          rw[Array.getD_eq_getD_getElem?,ht]at hg
          simp only[Option.getD_some]at hg
          generalize a.get d=u at hg
          cases hg<;>first|rfl|(cases want<;>rename_i b<;>cases b<;>rfl)
end
end Go.M
