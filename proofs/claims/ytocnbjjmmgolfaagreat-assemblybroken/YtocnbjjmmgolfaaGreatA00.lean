/- AssemblyBroken is proved: for all inputs the law returns true, without any condition; here the machine on which the proof stands begins. -/
import Derived.KernelRfl
set_option linter.unusedSimpArgs false
set_option linter.unusedVariables false
set_option linter.unusedSectionVars false
namespace Go
theorem J{α:Sort _}{a:α}:a=a:=rfl
theorem O{p:Prop}(h:p:=by omega):p:=h
theorem U{p:Prop}(h:p:=by decide):p:=h
theorem V0{p:Prop}(h:p:=by simp[Builtin.len_,h0,run_underlying hu,goInt]):p:=h
theorem V1{p:Prop}(h:p:=by(intro p hp;cases hp)):p:=h
theorem V3{p:Prop}(h:p:=by(rw[bR];omega)):p:=h
theorem V4{p:Prop}(h:p:=by(rw[bI];omega)):p:=h
theorem V5{p:Prop}(h:p:=by exact λb m h1 h2=>by rw[h2]at h1;cases h1):p:=h
theorem V6{p:Prop}(h:p:=by exact λq=>by simp[Op.equalIn,run_underlying hu]):p:=h
theorem V7{p:Prop}(h:p:=by(simp[Op.operands];exact⟨p.1,by simpa using hp⟩)):p:=h
theorem V9{p:Prop}(h:p:=by(rw[hx];exact k)):p:=h
theorem W0{p:Prop}(h:p:=by exact qD hgt rfl):p:=h
theorem W1{p:Prop}(h:p:=by exact List.subset_append_left _ _):p:=h
theorem W2{p:Prop}(h:p:=by exact dK _ _):p:=h
theorem W9{p:Prop}(h:p:=by(rw[aQ,List.length_singleton];omega)):p:=h
theorem X7{p:Prop}(h:p:=by exact HL.wider H.fine (aN _) (λ_ h=>bA _ h) Hc):p:=h
theorem X9{p:Prop}(h:p:=by(have h9:=H.le;first|exact bL hb1 h9|exact bL hb2 h9)):p:=h
theorem Y{p:Prop}(h:p:=by unfold xc;omega):p:=h
theorem Y0{p:Prop}(h:p:=by exact H.lim0 (by omega)):p:=h
theorem Y1{p:Prop}(h:p:=by exact H.lim1 (by omega)):p:=h
theorem Y5{p:Prop}(h:p:=by simp[Op.operands]):p:=h
theorem Y8{p:Prop}(h:p:=by simp):p:=h
theorem Z{p:Prop}(h:p:=by exact H.rm (by omega)):p:=h
theorem Z0{p:Prop}(h:p:=by kernel_rfl):p:=h
theorem Z1{p:Prop}(h:p:=by assumption):p:=h
theorem Z2{p:Prop}(h:p:=by(have hd:=H.dist;simp only[List.pairwise_cons,aJ,aY,or_false,forall_eq_or_imp,forall_eq,false_imp_iff,implies_true]at hd |-;try omega)):p:=h
theorem Z3{p:Prop}(h:p:=by exact aN _):p:=h
theorem Z4{p:Prop}(h:p:=by(have:=H.most;(try dsimp only at this);(try dsimp only);omega)):p:=h
theorem Z5{p:Prop}(h:p:=by exact λ_ h=>bA _ h):p:=h
theorem Z8{p:Prop}(h:p:=by(intro p hp;simp[hp])):p:=h
theorem aA.{u,v}:∀{α:Type u} {β:Type v} (a:α) (f:α->Option β),(Option.some a).bind f=f a:= @Option.bind_some
theorem aB.{u}:∀{α:Type u} {l:List α} {i:Nat} {a:α},l.getD i a=l[i]?.getD a:= @List.getD_eq_getElem?_getD
theorem aC:∀{p:Prop} [inst:Decidable p],(Decidable.decide p=Bool.true)=p:= @decide_eq_true_eq
theorem aD.{u}:∀{c:Prop} {h:Decidable c},¬c->∀{α:Sort u} {t e:α},(if c then t else e)=e:= @if_neg
theorem aE.{u}:∀{α:Type u} {l:List α} {i:Nat} (h:i<l.length),l[i]? = Option.some l[i]:= @List.getElem?_eq_getElem
theorem aF:∀(a b:Bool),((a&&b)=Bool.true)=(a=Bool.true/\b=Bool.true):= @Bool.and_eq_true
theorem aG.{u}:∀{c:Prop} {h:Decidable c},c->∀{α:Sort u} {t e:α},(if c then t else e)=t:= @if_pos
theorem aH:∀{p:Prop} [inst:Decidable p],p->Decidable.decide p=Bool.true:= @decide_eq_true
theorem aJ.{u}:∀{α:Type u} {b:α} {l:List α} {a:α},a∈b::l↔a=b\/a∈l:= @List.mem_cons
theorem aK:∀{n m:Nat},n.beq m=Bool.true->n=m:= @Nat.eq_of_beq_eq_true
theorem aL.{u}:∀{α:Type u} {l:List α} {n:Nat} (h:n<l.length),l[n]∈l:= @List.getElem_mem
theorem aM.{u}:∀{α:Type u} {i:Nat} {a:α} {l:List α},l[i]? = Option.some a↔∃h,l[i]=a:= @List.getElem?_eq_some_iff
theorem aN:∀(n:Nat),n<=n:= @Nat.le_refl
theorem aO.{u}:∀{α:Type u} {a:α} {l:List α},a∈a::l:= @List.mem_cons_self
theorem aP.{u}:∀{α:Type u} (y:α) {a:α} {l:List α},a∈l->a∈y::l:= @List.mem_cons_of_mem
theorem aQ.{u}:∀{α:Type u} {as bs:List α},(as++bs).length=as.length+bs.length:= @List.length_append
theorem aR:∀{n m:Nat},n.ble m=Bool.true->n<=m:= @Nat.le_of_ble_eq_true
theorem aU.{u}:∀{α:Type u} {a:α} {as:List α},(a::as).length=as.length+1:= @List.length_cons
theorem aV:(Bool.false=Bool.true)=False:= @Bool.false_eq_true
theorem aW.{u}:∀{α:Type u} {a:α} {s t:List α},a∈s++t↔a∈s\/a∈t:= @List.mem_append
theorem aX:∀{p:Prop} [inst:Decidable p],¬p->Decidable.decide p=Bool.false:= @decide_eq_false
theorem aY.{u}:∀{α:Type u} {a:α},¬a∈[]:= @List.not_mem_nil
theorem aZ:∀{n m:Nat},n<=m->n.ble m=Bool.true:= @Nat.ble_eq_true_of_le
theorem bA.{u}:∀{α:Type u} {b:α} (as:List α) {bs:List α},b∈bs->b∈as++bs:= @List.mem_append_right
theorem bB:∀(b:Bool),((!b)=Bool.true)=(b=Bool.false):= @Bool.not_eq_true'
theorem bC.{u}:∀{α:Type u} {a b:α},a∈[b]↔a=b:= @List.mem_singleton
theorem bD.{u}:∀{α:Type u} {xs:Array α} {i:Nat} {d:α},xs.getD i d=xs[i]?.getD d:= @Array.getD_eq_getD_getElem?
theorem bE.{u}:∀{α:Type u} {l:List α},List.take l.length l=l:= @List.take_length
theorem bF.{u}:∀{α:Type u} (as bs cs:List α),as++bs++cs=as++(bs++cs):= @List.append_assoc
theorem bH.{u}:∀{α:Type u} (val a:α),(Option.some val=Option.some a)=(val=a):= @Option.some.injEq
theorem bI.{u,v}:∀{α:Type u} {β:Type v} {as:List α} (f:α->β),(List.map f as).length=as.length:= @List.length_map
theorem bJ.{u}:∀{α:Type u} {a:α} {as:List α} (bs:List α),a∈as->a∈as++bs:= @List.mem_append_left
theorem bK:∀{n m k:Nat},n<=m->m<=k->n<=k:= @Nat.le_trans
theorem bL:∀{n m k:Nat},n<m->m<=k->n<k:= @Nat.lt_of_lt_of_le
theorem bM:∀(n:Nat),n+0=n:= @Nat.add_zero
theorem bN.{u}:∀{α:Type u} {a b:α},(Option.some a).getD b=a:= @Option.getD_some
theorem bO:∀{p:Prop} {x:Decidable p},Decidable.decide p=Bool.false↔¬p:= @decide_eq_false_iff_not
theorem bP.{u}:∀{α:Type u} (as:List α),as++[]=as:= @List.append_nil
theorem bQ:∀{n m:Nat} (k:Nat),n<=m->n*k<=m*k:= @Nat.mul_le_mul_right
theorem bR.{u}:∀{α:Type u} {as:List α} {i:Nat} {a:α},(as.set i a).length=as.length:= @List.length_set
theorem bV.{u}:∀{α:Type u} {l:List α},l.length=0↔l=[]:= @List.length_eq_zero_iff
theorem bX.{u}:∀{α:Type u} {i:Nat} {l:List α},(List.take i l).length=Min.min i l.length:= @List.length_take
theorem bY.{u}:∀{α:Type u} {a:α} {as bs:List α},a::as++bs=a::(as++bs):= @List.cons_append
theorem bZ.{u}:∀{α:Type u} {i:Nat} {l:List α},(List.drop i l).length=l.length-i:= @List.length_drop
theorem cA.{u}:∀{α:Type u} {a b:List α} {i:Nat},i<a.length->(a++b)[i]? = a[i]? := @List.getElem?_append_left
theorem cB:∀(n:Nat),0+n=n:= @Nat.zero_add
theorem cD:∀{n m k:Nat},n<=m->m<k->n<k:= @Nat.lt_of_le_of_lt
theorem cG:∀(n:Nat),n*1=n:= @Nat.mul_one
theorem cH:∀(n:Nat),0<=n:= @Nat.zero_le
theorem cI:∀{n m:Nat} (k:Nat),n<=m->k*n<=k*m:= @Nat.mul_le_mul_left
theorem cJ.{u}:∀{α:Type u} (as:List α),[]++as=as:= @List.nil_append
theorem cK.{u}:∀{α:Sort u} {x:Decidable False} (t e:α),(if False then t else e)=e:= @if_false
theorem cM:∀{b:Bool},b=Bool.false↔b≠Bool.true:= @Bool.eq_false_iff
theorem cO:∀{p:Prop} [inst:Decidable p],Decidable.decide p=Bool.true->p:= @of_decide_eq_true
theorem cP:∀(n m:Nat),n<m\/n>=m:= @Nat.lt_or_ge
theorem cQ.{u,v}:∀{α:Type u} {β:Type v} (a:α) (f:α->β),Option.map f (Option.some a)=Option.some (f a):= @Option.map_some
theorem cR.{u}:∀{α:Type u} {a:α} {i:Nat} {l:List α},(a::l)[i+1]? = l[i]? := @List.getElem?_cons_succ
theorem cT.{u}:∀{α:Type u} {l:List α} {L:List (List α)},(l::L).flatten=l++L.flatten:= @List.flatten_cons
theorem cU.{u}:∀{α:Type u} {l:List α} {i:Nat},l.length<=i->l[i]? = Option.none:= @List.getElem?_eq_none
theorem cV.{u}:∀{α:Type u} {i:Nat} {xs:Array α},xs.size<=i->xs[i]? = Option.none:= @Array.getElem?_eq_none
theorem cX:∀{p:Prop} [dec:Decidable p],(¬p->False)->p:= @Decidable.byContradiction
theorem dA:∀(a b:Bool),((a||b)=Bool.true)=(a=Bool.true\/b=Bool.true):= @Bool.or_eq_true
theorem dD.{u}:∀{α:Type u} {val a:α},Option.some val=Option.some a->val=a:= @Option.some.inj
theorem dE.{u}:∀{α:Type u} {n:Nat} {a:α},(List.replicate n a).length=n:= @List.length_replicate
theorem dG.{u}:∀{α:Type u} (a b c:List α),(a++(b++c)).Perm (b++(a++c)):= @List.perm_append_comm_assoc
theorem dH:∀{a:Rat},a<=a:= @Rat.le_refl
theorem dJ.{u}:∀{α:Type u} {i:Nat} {l:List α},l.length<=i->List.take i l=l:= @List.take_of_length_le
theorem dK.{u}:∀{α:Type u} (b a:List α),a⊆b++a:= @List.subset_append_right
theorem dL.{u}:∀{α:Type u} {l:List α},l.length=0->l=[]:= @List.eq_nil_of_length_eq_zero
theorem dM:∀(n m k:Nat),(n+m)*k=n*k+m*k:= @Nat.add_mul
theorem dP:∀{a b c:Rat},a<=b->b<=c->a<=c:= @Rat.le_trans
theorem dQ.{u}:∀{α:Sort u} {x:Decidable True} (t e:α),(if True then t else e)=t:= @if_true
theorem dR:∀(h:Decidable False),Decidable.decide False=Bool.false:= @decide_false
theorem dS:∀{m k n:Nat},m+n=k+n↔m=k:= @Nat.add_right_cancel_iff
theorem dT.{u}:∀{α:Type u} {p:α->Bool} {l:List α},l.any p=Bool.true↔∃x,x∈l/\p x=Bool.true:= @List.any_eq_true
theorem dV.{u}:∀{α:Type u} {xs:List α} {i j:Nat},(List.drop i xs)[j]? = xs[i+j]? := @List.getElem?_drop
theorem dW:∀(a b:Int),(a*b).natAbs=a.natAbs*b.natAbs:= @Int.natAbs_mul
theorem dX:∀{m n:Nat},m∈List.range n↔m<n:= @List.mem_range
theorem dY.{u}:∀{α:Type u} {xs:Array α},xs.toList.length=xs.size:= @Array.length_toList
theorem dZ:∀(c d:Int) (a b:Nat),mkRat c a*mkRat d b=mkRat (c*d) (a*b):= @Rat.mkRat_mul_mkRat
theorem eB:∀{p:Prop},(¬p->False)->p:= @Classical.byContradiction
theorem eE:∀{a m₁ b m₂:Nat},a<=b->m₁<=m₂->a*m₁<=b*m₂:= @Nat.mul_le_mul
theorem eF:∀(n:Nat),0*n=0:= @Nat.zero_mul
theorem eG:∀(n:Nat),1*n=n:= @Nat.one_mul
theorem eI.{u}:∀{α:Type u} {a:α} {l:List α},a∈l->∃s t,l=s++a::t:= @List.append_of_mem
theorem eJ:(!Bool.true)=Bool.false:= @Bool.not_true
theorem eK:∀{x y:Bool},(x&&y)=Bool.false↔x=Bool.false\/y=Bool.false:= @Bool.and_eq_false_iff
theorem eL:∀(a:Nat),a.beq a=Bool.true:= @Nat.beq_refl
theorem eM.{u}:∀{α:Type u} {a:α} {l:List α},(a::l)[0]? = Option.some a:= @List.getElem?_cons_zero
theorem eO:∀(n m:Nat),n+m-n=m:= @Nat.add_sub_cancel_left
theorem eS:∀(n:Nat),Int.ofNat n=↑n:= @Int.ofNat_eq_natCast
theorem eU:∀(b:Bool),((!b)=Bool.false)=(b=Bool.true):= @Bool.not_eq_false'
theorem eW:∀(b:Bool),(Bool.false&&b)=Bool.false:= @Bool.false_and
theorem eX.{u}:∀{α:Type u} {a:α} {l:List α} {i:Nat},List.drop (i+1) (a::l)=List.drop i l:= @List.drop_succ_cons
theorem eY.{u,v}:∀{α:Type u} {β:Type v} {l:List α} {a:α} {f:α->β},a∈l->f a∈List.map f l:= @List.mem_map_of_mem
theorem fA:∀(p:Prop),(p/\True)=p:= @and_true
theorem Oz{p:Prop}(h:p:=by omega):p:=h
theorem Uz{p:Prop}(h:p:=by decide):p:=h
end Go
