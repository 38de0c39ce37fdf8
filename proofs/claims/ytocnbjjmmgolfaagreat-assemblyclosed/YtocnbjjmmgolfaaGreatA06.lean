/- The other operations of the abstract machine. -/
import Derived.Test.YtocnbjjmmgolfaaGreatA05
import Derived.RangeFuncRecord
import Derived.Laws.BytesString
set_option linter.unusedSimpArgs false
set_option linter.unusedVariables false
set_option linter.unusedSectionVars false
namespace Go.M
section
variable{P:Program}{β:Ren}{s:St}{w:World}
theorem JK{argTypes:Array TypeId}{t:TypeId}{l:List TypeId}(h:argTypes.toList=t::l):argTypes[0]? = some t:=by
 rw[←Array.getElem?_toList,h];rfl
theorem cap_sound(h:Rel P β s w){argTypes:Array TypeId}{args args':List Value}(ha:LRel P β args args')(ty:TypeId) :
 OpS P β s w (capM P argTypes.toList args s) ((z3 (Builtin.cap_ argTypes ty ⟨args'⟩)).run P w):=by
 unfold capM
 split
 ·rename_i t rest a len c b
  have h0:=JK b
  cases ha with
  | @cons _ y' _ _ d ha=>
  cases ha
  split
  ·rename_i e hu hc
   have key:∀(a':Option Addr) (len' c':Nat),(z3 (Builtin.cap_ argTypes ty ⟨[.slice a' len' c']⟩)).run P w=.ok (.value (.int .i64 (c':Int))) w:=by
    intro a' len' c'
    refine zW ?_
    simp[Builtin.cap_,h0,run_underlying hu,goInt]
   cases d with
   |snil=>exact .value h (.int _ _) (key _ _ _)
   | @sknown _ _ _ c' _ hb=>
    have:2*c' / 2=c':=by omega
    rw[this]
    exact .value h (.int _ _) (key _ _ _)
   |szero hb=>exact .value h (.int _ _) (key _ _ _)
   |sgrown hb _ _=>omega
   |sempty hb _=>omega
  ·exact .stuck
 ·exact .stuck
theorem len_sound(h:Rel P β s w){argTypes:Array TypeId}{args args':List Value}(ha:LRel P β args args')(ty:TypeId) :
 OpS P β s w (Vc P argTypes.toList args s) ((z3 (Builtin.len_ argTypes ty ⟨args'⟩)).run P w):=by
 unfold Vc
 split
 ·rename_i t rest x d
  have h0:=JK d
  cases ha with
  | @cons _ y' _ _ f ha=>
  cases ha
  split
  ·rename_i e a n c hu
   have key:∀(a':Option Addr) (c':Nat),(z3 (Builtin.len_ argTypes ty ⟨[.slice a' n c']⟩)).run P w=.ok (.value (.int .i64 (n:Int))) w:=fun a' c'=>
    zW V0
   cases f<;>exact .value h (.int _ _) (key _ _)
  ·rename_i b hu
   cases f
   exact .value h (.int _ _) (zW V0)
  ·rename_i n e hu
   exact .value h (.int _ _) (zW V0)
  ·rename_i k e hu
   cases f
   exact .value h (.int _ _) (zW V0)
  ·rename_i k e r hu
   cases f with
   |mref hb=>
    split
    ·rename_i es c hg
     obtain⟨o',ho,g⟩:=h.obj _ _ _ hb (h.lt hg) hg
     cases g with
     |map hlen he=>
      refine .value h (.int _ _) (zW ?_)
      simp[Builtin.len_,h0,run_underlying hu,goInt,getObj,Sem.run,ho,hlen]
    ·exact .stuck
  ·exact .stuck
 ·exact .stuck
theorem min_sound(h:Rel P β s w){argTypes:Array TypeId}{args args':List Value}(ha:LRel P β args args')(ty:TypeId) :
 OpS P β s w (minM args s) ((z3 (Builtin.min_ argTypes ty ⟨args'⟩)).run P w):=by
 unfold minM
 split
 ·rename_i k x k' y
  cases ha with
  | @cons _ _ _ _ hx ha=>cases ha with
   | @cons _ _ _ _ b ha=>
    cases ha;cases hx;cases b
    refine .value h (.int _ _) (zW ?_)
    simp only[Builtin.min_,List.foldlM,Builtin.min2,zeH]
    by_cases a:x≤y
    ·have:¬y<x:=by omega
     simp[a,this]
    ·have:y<x:=by omega
     simp[a,this]
 ·exact .stuck
theorem max_sound(h:Rel P β s w){argTypes:Array TypeId}{args args':List Value}(ha:LRel P β args args')(ty:TypeId) :
 OpS P β s w (maxM args s) ((z3 (Builtin.max_ argTypes ty ⟨args'⟩)).run P w):=by
 unfold maxM
 split
 ·rename_i k x k' y
  cases ha with
  | @cons _ _ _ _ hx ha=>cases ha with
   | @cons _ _ _ _ b ha=>
    cases ha;cases hx;cases b
    refine .value h (.int _ _) (zW ?_)
    simp only[Builtin.max_,List.foldlM,Builtin.max2,zeH]
    by_cases a:y≤x
    ·have:¬y>x:=by omega
     simp[a,this]
    ·have:y>x:=by omega
     simp[a,this]
 ·exact .stuck
theorem zff(h:Rel P β s w){argTypes:Array TypeId}{args args':List Value}(ha:LRel P β args args')(ty:TypeId) :
 OpS P β s w (Qf P argTypes.toList args s) ((z3 (Builtin.copy_ argTypes ty ⟨args'⟩)).run P w):=by
 unfold Qf
 split
 ·rename_i dType rest base dLen dCap src g
  have h0:=JK g
  cases ha with
  | @cons _ y' _ _ q ha=>cases ha with
   | @cons _ src' _ _ hx ha=>
    cases ha
    split
    ·rename_i e hu
     split
     ·rename_i inf n hi hlen
      obtain⟨g1,g2⟩:=Vb (P:=P) hx hlen
      split
      ·rename_i new d
       obtain⟨new',p,o⟩:=uk h hx d (fun a len cap e=>by
        have:=g2 a len cap e
        have:=Nat.min_le_left n dLen
        show Nat.min n dLen≤len
        exact bH this O)
       split
       ·rename_i b off
        split
        ·rename_i nx s₁ j
         intro _
         have key:∀(m:Img) (o' cap':Nat) (w':World),(storeCells ⟨m.blk,o',none⟩ new').run P w=.ok () w' →
          (z3 (Builtin.copy_ argTypes ty ⟨[.slice (some ⟨m.blk,o',none⟩) dLen cap',src']⟩)).run P w=.ok (.value (.int .i64 ((Nat.min n dLen:Nat):Int))) w':=fun m o' cap' w' hs=>
          zW (by simp[Builtin.copy_,h0,run_underlying hu,g1,z6 hi,p,hs,goInt])
         have zero:∀(m:Img) (o' cap':Nat),β b=some m→dLen=0→∃w',(z3 (Builtin.copy_ argTypes ty ⟨[.slice (some ⟨m.blk,o',none⟩) dLen cap',src']⟩)).run P w=.ok (.value (.int .i64 ((Nat.min n dLen:Nat):Int))) w'∧Ext P β s w β s₁ w':=by
          intro m o' cap' hb r
          have k:Nat.min n dLen=0:=by rw[r];exact Nat.min_zero n
          have hl:new=[]:=by
           cases src with
           |slice a l c=>
            apply dK
            have hx':=hx
            rw[vO d (fun _=>k),k,eF]
           |_=>first|(simp[zct]at hlen;done)|simp[xQ]at d
          subst hl
          cases o
          obtain⟨_,w',f,i⟩:=xg h hb .nil j
          have:w'=w:=by
           have:(storeCells ⟨m.blk,off+m.sh,none⟩ []).run P w=.ok () w:=rfl
           rw[this]at f;cases f;rfl
          subst this
          exact⟨w',key m o' cap' w' rfl,i⟩
         cases q with
         |sknown hb=>
          obtain⟨_,w',f,i⟩:=xg h hb o j
          exact⟨β,w',_,key _ _ _ w' f,i,_,rfl,.int _ _⟩
         |sgrown hb _ _=>
          obtain⟨_,w',f,i⟩:=xg h hb o j
          exact⟨β,w',_,key _ _ _ w' f,i,_,rfl,.int _ _⟩
         |sempty hb _=>
          obtain⟨w',f,i⟩:=zero _ _ _ hb rfl
          exact⟨β,w',_,f,i,_,rfl,.int _ _⟩
         |szero hb=>
          obtain⟨w',f,i⟩:=zero _ _ _ hb rfl
          exact⟨β,w',_,f,i,_,rfl,.int _ _⟩
        ·exact .stuck
       ·exact .stuck
      ·exact .stuck
     ·exact .stuck
    ·exact .stuck
 ·exact .stuck
theorem QO{ρ ρ':Operand→Value}{l:List Operand}(h:∀x∈l,VRel P β (ρ x) (ρ' x)):LRel P β (qB ρ l) (l.map ρ'):=by
 induction l with
 |nil=>exact .nil
 |cons x l b=>exact .cons (h x Y8) (b fun y a=>h y (by simp[a]))
theorem Zn{ρ:Operand→Value}(a:Array Operand):a.map ρ=⟨a.toList.map ρ⟩:=by apply Array.ext';simp
theorem VG(h:Rel P β s w){f o:Value}{args args':List Value}(hf:VRel P β f o)(ha:LRel P β args args') :
 OpS P β s w (jL P f args s) ((Deferred.ofValue o ⟨args'⟩ >>= fun d=>invoke d.target d.args).run P w):=by
 unfold jL
 split
 ·rename_i n first captured
  split
  ·rename_i a
   cases hf with
   | @func _ f1 j c1 i h1 h2=>
    intro _
    refine⟨β,w,.enter n ⟨j++args'++i⟩,?_,Ext.refl h,_,rfl,(h1.append ha).append h2⟩
    unfold xH at a
    split at a
    ·rename_i fn p
     simp only[aG,bC]at a
     have hb:¬fn.body=none:=fun c=>by simp[c]at a
     have l : ¬ fn.name = "runtime.NumGoroutine" := fun c => by simp [c] at a
     simp[Deferred.ofValue,invoke,callFunc,p,l,hb]
    ·cases a
  ·exact .stuck
 ·rename_i b
  split
  ·rename_i lp hg
   split
   ·rename_i hlen
    cases hf with
    |func _ _ fl=>cases fl
    | @yield _ m hb=>
     intro _
     obtain⟨o',g,q⟩:=h.obj b m _ hb (h.lt hg) hg
     cases q with
     | @loop _ r hft hp hA hB hs hj=>
      refine⟨β,w,.round m.blk r.fn (u6 r ⟨args'⟩) r.assign r.body,?_,Ext.refl h,m,r,⟨args'⟩,hb,g,rfl,ha⟩
      have k:=ha.length
      have e:=aJ hlen
      simp only[yd,bK]at e
      have hsz:(⟨args'⟩:Array Value).size=r.params.size:=by
       show args'.length=_
       rw[k,e,←hp,eA]
      have:=run_yield (P:=P) (args:=⟨args'⟩) g hsz
      simpa[Deferred.ofValue,invoke,u6]using this
   ·exact .stuck
  ·exact .stuck
 ·exact .stuck
end
section
variable{P:Program}{β:Ren}{s:St}{w:World}
theorem Wg(h:Rel P β s w){src dst:TypeId}{x x':Value}(hx:VRel P β x x'):OpS P β s w (vC P src dst x s) ((z3 (convert src dst x')).run P w):=by
 unfold vC
 split
 ·rename_i d k hs hd
  split
  ·rename_i k' n
   cases hx
   exact .value h (.int _ _) (zW (by simp[convert,run_underlying hs,run_underlying hd,Conv.intToInt]))
  ·exact .stuck
 ·exact .stuck
theorem VC{t:TypeId}{off:Nat}{c c':List Value}{v:Value}(hc:LRel P β c c')(h:jk (zV P t) off c=some v)(w:World) :
 ∃v',(part t ⟨c'⟩ off).run P w=.ok v' w∧VRel P β v v':=by
 unfold jk at h
 split at h
 ·rename_i hs
  rw[zJ]at h
  obtain⟨v',h1,h2⟩:=hc.get h
  exact⟨v',by simp[part,XO hs,h1],h2⟩
 ·rename_i n hs
  split at h
  ·rename_i l hl
   cases h
   rw[y7,yU]at hl
   split at hl
   ·cases hl
    refine⟨.agg ⟨(c'.drop off).take n⟩,?_,.agg ((hc.drop off).take n)⟩
    simp only[part,Sem.run_bind,Yw hs,Result.andThen_ok,dP,Sem.run_pure]
    congr 2
    apply Array.ext'
    simp[List.extract]
   ·cases hl
  ·cases h
 ·cases h
theorem zaC(h:Rel P β s w){t:TypeId}{x x':Value}{f:Nat}(hx:VRel P β x x'):OpS P β s w (ZT P t x f s) ((z3 (Instr.field t x' f)).run P w):=by
 unfold ZT
 split
 ·rename_i cs fields hu
  split
  ·rename_i c a
   rw[zJ]at a
   have b:fields[f]? = some c:=by simpa using a
   split
   ·rename_i v hv
    cases hx with
    |agg hl=>
     obtain⟨v',h1,h2⟩:=VC hl hv w
     exact .value h h2 (zW (by simp[Instr.field,run_underlying hu,b,asAgg,h1]))
   ·exact .stuck
  ·exact .stuck
 ·exact .stuck
theorem zap(h:Rel P β s w){t:TypeId}{x x' i j:Value}(hx:VRel P β x x')(hi:VRel P β i j):OpS P β s w (wC P t x i s) ((z3 (Instr.index t x' j)).run P w):=by
 unfold wC
 split
 ·rename_i k n
  cases hi
  split
  ·rename_i cs len e hu
   split
   ·rename_i inf a d
    have a:n<len:=by simpa[Nat.blt_eq]using a
    split
    ·rename_i v hv
     cases hx with
     |agg hl=>
      obtain⟨v',h1,h2⟩:=VC hl hv w
      refine .value h h2 (zW ?_)
      simp only[Instr.index,asIntOf,Sem.run_bind,Sem.run_pure,Result.andThen_ok,run_underlying hu]
      rw[aF (by constructor;exact Int.natCast_nonneg n;exact Int.ofNat_lt.2 a)]
      simp[z6 d,h1]
    ·exact .stuck
   ·exact .stuck
  ·rename_i b hu
   split
   ·rename_i c hc
    cases hx
    refine .value h (.int _ _) (zW ?_)
    rw[zJ]at hc
    have hb:b[n]? = some c:=by
     rw[Array.getElem?_toList]at hc
     have a:n<b.data.size:=by
      rcases cM n b.data.size with g|g
      ·exact g
      ·rw[cX g]at hc;cases hc
     have f:n<b.size:=a
     rw[getElem?_pos b n f]
     rw[Array.getElem?_eq_getElem a]at hc
     exact hc
    simp[Instr.index,asIntOf,run_underlying hu,hb]
   ·exact .stuck
  ·exact .stuck
 ·exact .stuck
theorem vg{t:TypeId}{z:List Value}(h:we P t=some z):∃i v,P.info? t=some i∧i.zero=some v∧v.cells.toList=z∧v.cells.size=i.size∧z.all ky=true:=by
 unfold we at h
 split at h
 ·rename_i i hi
  split at h
  ·rename_i v hv
   split at h
   ·rename_i hb
    cases h
    simp only[aG]at hb
    have h2:=aJ hb.2
    rw[yd]at h2
    refine⟨i,v,hi,hv,jJ v,?_,hb.1⟩
    rw[←eA,jJ]
    omega
   ·cases h
  ·cases h
 ·cases h
theorem W8(off:Nat):∀(vs:List Value) (k:Nat) (c:Array Value),off+k+vs.length≤c.size →
 ((vs.zipIdx k).foldl (fun cs (p:Value×Nat)=>cs.setIfInBounds (off+p.2) p.1) c).toList=c.toList.take (off+k)++vs++c.toList.drop (off+k+vs.length)
 | [],k,c,h=>by simp
 |v::vs,k,c,h=>by
  simp only[List.zipIdx_cons,List.foldl_cons]
  simp only[aW]at h
  rw[W8 off vs (k+1) (c.setIfInBounds (off+k) v) (by simp;omega)]
  rw[Array.toList_setIfInBounds]
  have a:off+k<c.toList.length:=by simp;omega
  rw[show off+(k+1)=off+k+1 by omega]
  rw[List.take_set,List.drop_set_of_lt O]
  rw[List.take_succ_eq_append_getElem a]
  rw[List.set_append_right _ _ (by simp;omega)]
  have e1:off+k-(List.take (off+k) c.toList).length=0:=by simp;omega
  rw[e1]
  simp only[List.set_cons_zero,aW,bD,bV,cI]
  rw[show off+k+1+vs.length=off+k+(vs.length+1)by omega]
theorem ul{place:Nat→Option (Nat×Nat)}{ρ ρ':Operand→Value}:∀(parts:List (Nat×Operand)) (c c' r:List Value),LRel P β c c'→(∀p∈parts,VRel P β (ρ p.2) (ρ' p.2)) →
 qK place ρ parts c=some r→∃d,Instr.fill place ⟨c'⟩ (parts.map fun p=>(p.1,ρ' p.2))=some ⟨d⟩∧LRel P β r d
 | [],c,c',r,hc,_,h=>by
  simp only[qK,bF]at h
  subst h
  exact⟨c',rfl,hc⟩
 |(i,x)::rest,c,c',r,hc,hp,h=>by
  unfold qK at h
  split at h
  ·rename_i off size f
   split at h
   ·rename_i c₁ hsz a
    have hx:LRel P β (yp (ρ x)) (ρ' x).cells.toList:=(hp (i,x) Y8).cells
    have hsz:=aJ hsz
    rw[yd]at hsz
    obtain⟨hlen,rfl⟩:=WU _ _ _ _ a
    have e:=hx.length
    rw[eA]at e
    have hl2:=hc.length
    have e1:((ρ' x).cells.size≠size||off+(ρ' x).cells.size>(⟨c'⟩:Array Value).size)=false:=by
     have h1:(ρ' x).cells.size=size:=by omega
     have h2:¬off+(ρ' x).cells.size>c'.length:=by omega
     simp[h1]
     omega
    have b:=W8 off (ρ' x).cells.toList 0 ⟨c'⟩ (by simp;omega)
    obtain⟨d,g1,g2⟩:=ul rest (c.take off++yp (ρ x)++c.drop (off+(yp (ρ x)).length)) (c'.take off++(ρ' x).cells.toList++c'.drop (off+(ρ' x).cells.toList.length)) r
     (((hc.take off).append hx).append (by rw[hx.length];exact hc.drop _)) (fun p g=>hp p (by simp[g])) h
    refine⟨d,?_,g2⟩
    rw[←g1]
    simp only[List.map_cons,Instr.fill,f]
    rw[aD (by rw[e1];simp)]
    congr 1
    apply Array.ext'
    rw[←Array.foldl_toList,Array.toList_zipIdx]
    simpa using b
   ·cases h
  ·cases h
theorem Kx:∀(fields:List Field) (w:World),fields.all (fun f=>(P.info? f.type).isSome)=true →
 ∃l:List (Nat×Nat),(fields.mapM fun f=>do pure (f.offset,←sizeOf f.type):Sem (List (Nat×Nat))).run P w=.ok l w∧∀i p,je P fields i=some p→l[i]? = some p
 | [],w,_=>⟨[],rfl,by simp[je,zF]⟩
 |f::b,w,h=>by
  simp only[List.all_cons,aG]at h
  obtain⟨l,h1,h2⟩:=Kx b w h.2
  obtain⟨inf,a⟩:=Option.isSome_iff_exists.1 h.1
  refine⟨(f.offset,inf.size)::l,?_,fun i p hp=>?_⟩
  ·simp only[List.mapM_cons,Sem.run_bind,z6 a,Result.andThen_ok,Sem.run_pure,h1]
  ·cases i with
   |zero=>simpa[je,zF,a]using hp
   |succ i=>simpa using h2 i p (by simpa[je,zF]using hp)
theorem Vo{place place':Nat→Option (Nat×Nat)}:∀(parts:List (Nat×Operand)) (ρ:Operand→Value) (c:List Value) (r:List Value),(∀i p,place i=some p→place' i=some p) →
 qK place ρ parts c=some r→qK place' ρ parts c=some r
 | [],_,_,_,_,h=>h
 |(i,x)::rest,ρ,c,r,hp,h=>by
  unfold qK at h ⊢
  split at h
  ·rename_i off size a
   rw[hp _ _ a]
   split at h
   ·rename_i c₁ e1 e2
    simp only[e1,e2]
    exact Vo rest ρ _ r hp h
   ·cases h
  ·cases h
theorem zdi(h:Rel P β s w){t:TypeId}{parts:Array (Nat×Operand)}{ρ ρ':Operand→Value}(hp:∀p∈parts.toList,VRel P β (ρ p.2) (ρ' p.2)) :
 OpS P β s w (wL P t parts.toList ρ s) ((z3 (Instr.build t (parts.map fun(i,x)=>(i,ρ' x)))).run P w):=by
 have b:(parts.map fun(i,x)=>(i,ρ' x)).toList=parts.toList.map fun p=>(p.1,ρ' p.2):=by simp
 unfold wL
 split
 ·rename_i z fields q hu
  split
  ·rename_i c j a
   obtain⟨i,v,h1,h2,m,y,o⟩:=vg q
   obtain⟨l,g1,g2⟩:=Kx fields.toList w j
   have d:=Vo _ _ _ _ (place':=fun i=>(⟨l⟩:Array (Nat×Nat))[i]?) (fun i p hp=>by simpa using g2 i p hp) a
   obtain⟨B,r,u⟩:=ul _ _ _ _ (kw o) hp d
   refine .value h (.agg u) (zW ?_)
   have g:v.cells=⟨z⟩:=by apply Array.ext';rw[m]
   have A:(fields.mapM fun f=>do pure (f.offset,←sizeOf f.type):Sem (Array (Nat×Nat))).run P w=.ok ⟨l⟩ w:=by
    rw[Array.mapM_eq_mapM_toList,Sem.run_map,g1]
    rfl
   simp only[Instr.build,Sem.run_bind,y6 h1 h2,Result.andThen_ok,run_underlying hu,A,g,b,r,Sem.run_pure]
  ·exact .stuck
 ·rename_i z n e q hu
  split
  ·rename_i inf k
   split
   ·rename_i c a
    obtain⟨i,v,h1,h2,m,y,o⟩:=vg q
    obtain⟨B,r,u⟩:=ul _ _ _ _ (kw o) hp a
    refine .value h (.agg u) (zW ?_)
    have g:v.cells=⟨z⟩:=by apply Array.ext';rw[m]
    simp only[Instr.build,Sem.run_bind,y6 h1 h2,Result.andThen_ok,run_underlying hu,z6 k,g,b,r,Sem.run_pure]
   ·exact .stuck
  ·exact .stuck
 ·exact .stuck
theorem wS(l:List Value):∀k,(kq l k).length=k*l.length
 |0=>by simp[kq]
 |k+1=>by simp[kq,wS l k,dM,Nat.add_comm]
theorem zbM(l:List Value):∀(k i:Nat),i<k*l.length→(kq l k)[i]? = l[i % l.length]?
 |0,i,h=>by simp at h
 |k+1,i,h=>by
  simp only[kq]
  rw[List.getElem?_append]
  split
  ·rename_i c
   rw[Nat.mod_eq_of_lt c]
  ·rename_i hge
   rw[zbM l k (i-l.length) (by rw[dM,dQ]at h;omega)]
   congr 1
   exact(Nat.mod_eq_sub_mod (a:=i) (b:=l.length) O).symm
theorem zeg{z:Array Value}(n:Nat)(c:n*z.size≠0):((Array.range (n*z.size)).map fun i=>z[i % z.size]!).toList=kq z.toList n:=by
 have a:0<z.size:=Nat.pos_of_ne_zero fun e=>c (by rw[e];rfl)
 apply List.ext_getElem?
 intro i
 by_cases hi:i<n*z.size
 ·rw[zbM _ _ _ (by simpa using hi)]
  have b:i % z.size<z.size:=Nat.mod_lt _ a
  simp[hi,b]
 ·rw[cV (by simp;omega),cV (by rw[wS];simpa using hi)]
theorem jY{l:List Value}(h:l.all ky=true):∀k,(kq l k).all ky=true
 |0=>rfl
 |k+1=>by simp[kq,h,jY h k]
theorem KZ(h:Rel P β s w){e:TypeId}{c c':List Value}(hc:LRel P β c c'){len cap:Nat}{d:Result Next}
 (f:d=.ok (.value (.slice (some ⟨w.heap.size,0,none⟩) len cap)) {w with heap:=w.heap.push (.cells ⟨c'⟩ e)}):OpS P β s w (newK e c len cap s) d:=by
 unfold newK
 split
 ·rename_i a
  intro hf
  have b:=Vi hf
  have hx:=Ext.row h a b (c:=c) (c':=⟨c'⟩) e (0,0) Y8 (fun i v hv=>by
   obtain⟨v',g1,g2⟩:=hc.get hv
   exact⟨v',by simpa using g1,g2⟩)
  exact⟨_,_,_,f,hx,_,rfl,VRel.sknown (m:=⟨w.heap.size,0,(⟨c'⟩:Array Value).size,e,false⟩) Ren.add_self⟩
 ·exact .stuck
theorem QW{e:TypeId}{inf:TypeInfo}{z:List Value}(hi:P.info? e=some inf)(c:we P e=some z)(n:Nat) :
 ∃v,inf.zero=some v∧(n*inf.size=0→((Array.range (n*inf.size)).map ((#[]:Array Value)[· % (#[]:Array Value).size]!))=⟨kq z n⟩) ∧
  (n*inf.size≠0→((Array.range (n*inf.size)).map (v.cells[· % v.cells.size]!))=⟨kq z n⟩):=by
 obtain⟨i,v,h1,h2,a,b,h5⟩:=vg c
 rw[hi]at h1;cases h1
 refine⟨v,h2,fun h0=>?_,fun h0=>?_⟩
 ·apply Array.ext'
  have:kq z n=[]:=by
   apply dK
   rw[wS,←a,eA,b,h0]
  simp[h0,this]
 ·apply Array.ext'
  rw[←b]at h0 ⊢
  rw[zeg n h0,a]
theorem XG(h:Rel P β s w){t:TypeId}{len:Nat}{parts:Array (Nat×Operand)}{ρ ρ':Operand→Value}(hp:∀p∈parts.toList,VRel P β (ρ p.2) (ρ' p.2)) :
 OpS P β s w (qL P t len parts.toList ρ s) ((z3 (Instr.buildSlice t len (parts.map fun(i,x)=>(i,ρ' x)))).run P w):=by
 have b:(parts.map fun(i,x)=>(i,ρ' x)).toList=parts.toList.map fun p=>(p.1,ρ' p.2):=by simp
 unfold qL
 split
 ·rename_i e hu
  split
  ·rename_i inf z a j
   split
   ·rename_i c g f
    obtain⟨_,_,_,_,_,_,l⟩:=vg j
    obtain⟨v,q0,m,n⟩:=QW a j len
    obtain⟨r',k,o⟩:=ul _ _ _ _ (kw (jY l len)) hp f
    refine KZ h o (zW ?_)
    have d:¬len*inf.size>2 ^ 24:=by simp only[Nat.ble_eq]at g;omega
    by_cases h0:len*inf.size=0
    ·simp only[Instr.buildSlice,Sem.run_bind,run_underlying hu,Result.andThen_ok,z6 a,d,cK]
     rw[aF h0]
     simp only[Sem.run_pure,Sem.run_bind,Result.andThen_ok,m h0,b,k]
     simp[newRow]
    ·simp only[Instr.buildSlice,Sem.run_bind,run_underlying hu,Result.andThen_ok,z6 a,d,cK]
     rw[aD h0]
     simp only[Sem.run_pure,Sem.run_bind,Result.andThen_ok,y6 a q0,n h0,b,k]
     simp[newRow]
   ·exact .stuck
  ·exact .stuck
 ·exact .stuck
theorem Qr(h:Rel P β s w){t:TypeId}{l c g c':Value}(hl:VRel P β l g)(hc:VRel P β c c'):OpS P β s w (qN P t l c s) ((z3 (Instr.makeSlice t g c')).run P w):=by
 unfold qN
 split
 ·rename_i e hu
  split
  ·rename_i inf z d f
   split
   ·rename_i k a k' b
    split
    ·rename_i hb
     simp only[aG,Nat.ble_eq]at hb
     cases hl;cases hc
     obtain⟨v,q0,j,m⟩:=QW d f b
     obtain⟨_,_,_,_,_,_,i⟩:=vg f
     refine KZ h (kw (jY i b)) (zW ?_)
     have hbs:b≤1073741824:=bH (Nat.le_mul_of_pos_right _ O) hb.2
     have n:IntKind.i64.wrap (a:Int)=a:=IntWalk.i64_in _ O
     have o:IntKind.i64.wrap (b:Int)=b:=IntWalk.i64_in _ O
     have hbb:b*inf.bytes≤1073741824:=bH (bX _ O) hb.2
     have c1:((decide ((b:Int)<0)||decide ((inf.bytes:Int)*(b:Int)>2 ^ 48))||decide ((a:Int)<0)||decide ((a:Int)>(b:Int)))=false:=by
      have h1:((b*inf.bytes:Nat):Int)≤1073741824:=by omega
      rw[Int.natCast_mul,Int.mul_comm]at h1
      simp only[Bool.or_eq_false_iff,bR]
      exact⟨⟨⟨by omega,by omega⟩,by omega⟩,by omega⟩
     simp only[Instr.makeSlice,Sem.run_bind,run_underlying hu,Result.andThen_ok,asInt,asIntOf,Sem.run_pure,qq d,eX,n,o,c1,aX,cK,run_askRoom,Int.toNat_natCast,z6 d]
     by_cases h0:b*inf.size=0
     ·rw[aF h0]
      simp only[Sem.run_pure,Sem.run_bind,Result.andThen_ok,j h0]
      simp[newRow]
     ·rw[aD h0]
      simp only[Sem.run_pure,Sem.run_bind,Result.andThen_ok,y6 d q0,m h0]
      simp[newRow]
    ·exact .stuck
   ·exact .stuck
  ·exact .stuck
 ·exact .stuck
theorem zeros_all{e:TypeId}{inf:TypeInfo}{z:List Value}(hi:P.info? e=some inf)(b:we P e=some z)(n:Nat):∃v,inf.zero=some v∧(Builtin.zeroCells v.cells n).toList=kq z n:=by
 obtain⟨v,q0,q1,d⟩:=QW hi b n
 obtain⟨i,v2,h1,h2,c,a,h5⟩:=vg b
 rw[hi]at h1
 cases h1
 rw[q0]at h2
 cases h2
 refine⟨v,q0,?_⟩
 by_cases h0:n*inf.size=0
 ·have hl:(kq z n).length=0:=by rw[wS,←c,eA,a];exact h0
  rw[dK hl]
  apply dK
  rw[eA,uO,a]
  exact h0
 ·have:=d h0
  unfold Builtin.zeroCells
  rw[←a]at this
  rw[this]
theorem zdb(h:Rel P β s w){argTypes:Array TypeId}{args args':List Value}(ha:LRel P β args args')(ty:TypeId) :
 OpS P β s w (Z6 P argTypes.toList args s) ((z3 (Builtin.clear_ argTypes ty ⟨args'⟩)).run P w):=by
 unfold Z6
 split
 ·rename_i t rest base n cap d
  have h0:=JK d
  cases ha with
  | @cons _ o _ _ j ha=>
   cases ha
   split
   ·rename_i e hu
    split
    ·have key:∀a c,o=.slice a 0 c→OpS P β s w (okV (.tuple ⟨[]⟩) s) ((z3 (Builtin.clear_ argTypes ty ⟨[o]⟩)).run P w):=fun a c e=>by
      subst e
      refine .value h (.tuple .nil) (zW ?_)
      cases a<;>simp[Builtin.clear_,h0,run_underlying hu]
     cases j<;>exact key _ _ rfl
    ·rename_i k
     split
     ·rename_i b off
      split
      ·rename_i inf z f l
       split
       ·rename_i nx s1 i
        obtain⟨v,q0,q⟩:=zeros_all f l (k+1)
        obtain⟨_,_,_,_,_,_,p⟩:=vg l
        have g:=kw (P:=P) (β:=β) (jY p (k+1))
        intro _
        have key:∀(m:Img) (cap':Nat),β b=some m→∃w',(z3 (Builtin.clear_ argTypes ty ⟨[.slice (some ⟨m.blk,off+m.sh,none⟩) (k+1) cap']⟩)).run P w=.ok (.value (.tuple ⟨[]⟩)) w'∧Ext P β s w β s1 w':=by
         intro m cap' hb
         obtain⟨_,w',r,u⟩:=xg h hb g i
         refine⟨w',zW ?_,u⟩
         simp[Builtin.clear_,h0,run_underlying hu,y6 f q0,q,r]
        cases j with
        |sknown hb=>
         obtain⟨w',g1,g2⟩:=key _ _ hb
         exact⟨β,w',_,g1,g2,_,rfl,.tuple .nil⟩
        |sgrown hb _ _=>
         obtain⟨w',g1,g2⟩:=key _ _ hb
         exact⟨β,w',_,g1,g2,_,rfl,.tuple .nil⟩
       ·exact .stuck
      ·exact .stuck
     ·exact .stuck
   ·exact .stuck
 ·exact .stuck
end
section
variable{P:Program}{β:Ren}{s:St}{w:World}
theorem nil_sound(h:Rel P β s w){x x':Value}(hx:VRel P β x x'){o:Oper}{ρ':Operand→Value}{y:Operand}(ho:o.op=.nilCheck y)(a:ρ' y=x'):OpS P β s w (KX x s) ((execOp ρ' o).run P w):=by
 unfold KX
 split
 ·cases hx with
  |ptr hb=>exact .value h (.ptr hb) (by simp[execOp,ho,a])
 ·cases hx with
  |func h1 h2 fl=>exact .value h (.func h1 h2 fl) (by simp[execOp,ho,a])
 ·exact .stuck
theorem arr_sound(h:Rel P β s w){t:TypeId}{x x':Value}(hx:VRel P β x x'){o:Oper}{ρ':Operand→Value}{y:Operand}(ho:o.op=.sliceToArrayPointer t y)(d:ρ' y=x'):OpS P β s w (arrM P t x s) ((execOp ρ' o).run P w):=by
 unfold arrM
 split
 ·rename_i n e b off len c hu
  split
  ·rename_i a
   have a:=aR a
   cases hx with
   |sknown hb=>exact .value h (.ptr hb) (by simp[execOp,ho,d,Instr.arrayAt,run_underlying hu,show ¬len<n+1 by omega])
   |sgrown hb hc hs=>exact .value h (.ptr hb) (by simp[execOp,ho,d,Instr.arrayAt,run_underlying hu,show ¬len<n+1 by omega])
   |sempty hb hs=>omega
   |szero hb=>omega
  ·exact .stuck
 ·exact .stuck
theorem Wi(h:Rel P β s w){b:Builtin}{argTypes:Array TypeId}{args args':List Value}(ha:LRel P β args args')(ty:TypeId)(consts:Array Bool) :
 OpS P β s w (xp P b argTypes.toList args s) ((builtin b argTypes ty consts ⟨args'⟩).run P w):=by
 cases b<;>first
  |exact zaV h ha ty
  |exact cap_sound h ha ty
  |exact len_sound h ha ty
  |exact min_sound h ha ty
  |exact max_sound h ha ty
  |exact zff h ha ty
  |exact zdb h ha ty
  |exact .stuck
theorem zea(h:Rel P β s w){ρ ρ':Operand→Value}(o:Oper)(hρ:∀x∈o.op.operands.toList,VRel P β (ρ x) (ρ' x)) :
 OpS P β s w (zh P ρ o.op s) ((execOp ρ' o).run P w):=by
 obtain⟨dst,op,type,pos,after,guard⟩:=o
 cases op with
 |move x=>exact .value h (hρ x Y5) rfl
 |assign x=>exact .value h (hρ x Y5) rfl
 |pick c a b=>exact zej h (hρ c Y5) (hρ a Y5) (hρ b Y5)
 |load t a=>exact zez h (hρ a Y5)
 |store t a v=>exact zbt h (hρ a Y5) (hρ v Y5)
 |box e x=>exact Jq h (hρ x Y5).cells
 |alloc e=>exact zdv h
 |fieldAddr t x f=>exact zcK h (hρ x Y5)
 |indexAddr t x i=>exact zcA h (hρ x Y5) (hρ i Y5)
 |binOp op t x y yt=>exact bin_sound h (hρ x Y5) (hρ y Y5) x y
 |unOp op t x=>exact un_sound h (hρ x Y5)
 |extract x i=>exact V8 h (hρ x Y5)
 |nilCheck x=>exact nil_sound h (hρ x Y5) rfl rfl
 |sliceToArrayPointer t x=>exact arr_sound h (hρ x Y5) rfl rfl
 |convert src dst x=>exact Wg h (hρ x Y5)
 |makeFunc fn first captured=>
  simp only[zh]
  split
  ·exact .stuck
  next hk=>
  refine .value h (v':=.func fn ⟨first.toList.map ρ'⟩ ⟨captured.toList.map ρ'⟩) (.func (QO fun x hx=>hρ x (by simp[Op.operands];exact .inl (by simpa using hx))) (QO fun x hx=>hρ x (by simp[Op.operands];exact .inr (by simpa using hx))) (flatB_no hk _)) ?_
  show Result.ok (Next.value (Value.func fn (first.map ρ') (captured.map ρ'))) w=_
  rw[Zn,Zn]
 |slice t x lo hi mx=>
  have d:=u9 (P:=P) (β:=β) (ρ:=ρ) (ρ':=ρ') (o:=lo) fun x hx=>hρ x (by simp[Op.operands,hx])
  have g:=u9 (P:=P) (β:=β) (ρ:=ρ) (ρ':=ρ') (o:=hi) fun x hx=>hρ x (by simp[Op.operands,hx])
  have j:=u9 (P:=P) (β:=β) (ρ:=ρ) (ρ':=ρ') (o:=mx) fun x hx=>hρ x (by simp[Op.operands,hx])
  exact zbA h (hρ x Y5) d.1 d.2 g.1 g.2 j.1 j.2
 |field t x f=>exact zaC h (hρ x Y5)
 |index t x i=>exact zap h (hρ x Y5) (hρ i Y5)
 |call c=>
  obtain⟨callee,args,argTypes⟩:=c
  cases callee with
  |value f=>
   have h1:=hρ f (by simp[Op.operands,Call.operands])
   have h2:LRel P β (qB ρ args.toList) (args.toList.map ρ'):=QO fun x hx=>hρ x (by simp[Op.operands,Call.operands];exact .inr (by simpa using hx))
   have:=VG (s:=s) h h1 h2
   rw[←Zn]at this
   exact this
  |builtin b=>
   have h2:LRel P β (qB ρ args.toList) (args.toList.map ρ'):=QO fun x hx=>hρ x (by simp[Op.operands,Call.operands];simpa using hx)
   have:=Wi (s:=s) h (b:=b) (argTypes:=argTypes) h2 type (args.map fun | .const _=>true|_=>false)
   rw[←Zn]at this
   exact this
  |invoke r m=>exact .stuck
 |build t parts=>exact zdi h fun p hp=>hρ p.2 V7
 |buildSlice t len parts=>exact XG h fun p hp=>hρ p.2 V7
 |makeSlice t l c=>exact Qr h (hρ l Y5) (hρ c Y5)
 |_=>exact .stuck
end
def Res.nextLe{α:Type}(s:St):Res α→Prop
 | .ok _ s'=>s.next≤s'.next
 | .panic _ s'=>s.next≤s'.next
 | .stuck=>True
def Out.nextLe(s:St):Out→Prop
 | .normal _ s' | .exit _ _ s' | .ret _ s' | .panic _ _ s'=>s.next≤s'.next
 | .stuck=>True
def CallOut.nextLe(s:St):CallOut→Prop
 | .ret _ s' | .panic _ s'=>s.next≤s'.next
 | .stuck=>True
section
variable{P:Program}{s:St}
theorem yK{v:Value}:(okV v s).nextLe s:=aO _
theorem zr{α:Type}:(Res.stuck:Res α).nextLe s:=trivial
theorem u5{α γ:Type}(f:α→γ)(x:Sem α):((kY P x s).map f).nextLe s:=by
 have h:=runA_next (P:=P) x s
 cases hx:kY P x s with
 |ok a s'=>exact h.1 a s' hx
 |panic v s'=>exact h.2 v s' hx
 |stuck=>trivial
theorem XM{b off:Nat}{vs:List Value}:(xy b off vs s).nextLe s:=by
 unfold xy
 (repeat' split)<;>first|exact zr|exact aO _
theorem newS_next{e:TypeId}{c:List Value}{n:Nat}:(uK e c n s).nextLe s:=by
 unfold uK
 split
 ·exact Nat.le_succ _
 ·exact zr
theorem WR{e:TypeId}{c:List Value}{n k:Nat}:(newK e c n k s).nextLe s:=by
 unfold newK
 split
 ·exact Nat.le_succ _
 ·exact zr
theorem Jr{e:TypeId}{c:List Value}:(XH e c s).nextLe s:=by
 unfold XH
 split
 ·exact Nat.le_succ _
 ·exact zr
theorem zbB{sz:Nat}{a:Option Addr}{len c:Nat}{known:Bool}{lo hi mx:Option Value}:(xU sz a len c known lo hi mx s).nextLe s:=by
 unfold xU
 (repeat' split)<;>first|exact zr|exact yK
theorem eqM_next{op:BinOp}{t:TypeId}{x y:Value}:(eqM P op t x y s).nextLe s:=by
 unfold eqM
 (repeat' split)<;>first|exact zr|exact yK
theorem intM_next{op:BinOp}{t:TypeId}{k k':IntKind}{a b:Int}:(qY P op t k k' a b s).nextLe s:=by
 unfold qY
 (repeat' split)<;>first|exact yK|exact u5 _ _
theorem zeJ{e:TypeId}{a:Option Addr}{cap need:Nat}{c:List Value}:(Zv e a cap need c s).nextLe s:=by
 unfold Zv
 split
 ·rename_i s' hk
  have:s'.next=s.next:=by
   unfold X0 at hk
   (repeat' split at hk)<;>cases hk<;>rfl
  have h:=newS_next (s:=s') (e:=e) (c:=c) (n:=need)
  cases d:uK e c need s' with
  |ok a b=>rw[d]at h;simp only[Res.nextLe]at h ⊢;omega
  |panic v b=>rw[d]at h;simp only[Res.nextLe]at h ⊢;omega
  |stuck=>trivial
 ·exact zr
theorem zaW{e:TypeId}{inf:TypeInfo}{base:Option Addr}{sLen cap n:Nat}{new:List Value}:(qg e inf base sLen cap n new s).nextLe s:=by
 unfold qg
 split
 ·split
  ·rename_i b off
   split
   ·rename_i nx s' a
    have:=XM (s:=s) (b:=b) (off:=off+sLen*inf.size) (vs:=new)
    rw[a]at this
    exact this
   ·exact zr
  ·split
   ·exact yK
   ·exact zr
 ·split
  ·exact zeJ
  ·exact zr
theorem zaX{ts:List TypeId}{args:List Value}:(xd P ts args s).nextLe s:=by
 unfold xd
 (repeat' split)<;>first|exact zr|exact zaW
theorem XL{b off:Nat}{vs:List Value}{n:Next}{s':St}(h:xy b off vs s=.ok n s'):s'.next=s.next:=by
 unfold xy at h
 (repeat' split at h)<;>cases h
 all_goals rfl
theorem zfg{ts:List TypeId}{args:List Value}:(Qf P ts args s).nextLe s:=by
 unfold Qf
 repeat' split
 all_goals first
  |exact zr
  |(rename_i a;exact Nat.le_of_eq (XL a).symm)
theorem Wj{b:Builtin}{ts:List TypeId}{args:List Value}:(xp P b ts args s).nextLe s:=by
 unfold xp
 split
 ·exact zaX
 ·unfold capM;(repeat' split)<;>first|exact zr|exact yK
 ·unfold Vc;(repeat' split)<;>first|exact zr|exact yK
 ·unfold minM;(repeat' split)<;>first|exact zr|exact yK
 ·unfold maxM;(repeat' split)<;>first|exact zr|exact yK
 ·exact zfg
 ·unfold Z6;(repeat' split)<;>first|exact zr|exact yK|(rename_i a;exact Nat.le_of_eq (XL a).symm)
 ·exact zr
theorem Kq(ρ:Operand→Value)(o:Op):(zh P ρ o s).nextLe s:=by
 cases o with
 |move x=>exact yK
 |assign x=>exact yK
 |pick c a b=>simp only[zh];unfold YA;(repeat' split)<;>first|exact zr|exact yK
 |load t a=>simp only[zh];unfold uF;(repeat' split)<;>first|exact zr|exact yK
 |store t a v=>simp only[zh];unfold Xb;(repeat' split)<;>first|exact zr|exact XM
 |box e x=>exact Jr
 |alloc e=>simp only[zh];unfold wW gM;(repeat' split)<;>first|exact zr|exact Jr
 |fieldAddr t x f=>simp only[zh];unfold jj;(repeat' split)<;>first|exact zr|exact yK
 |indexAddr t x i=>simp only[zh];unfold kU xn;(repeat' split)<;>first|exact zr|exact yK
 |binOp op t x y yt=>simp only[zh];unfold qO;(repeat' split)<;>first|exact intM_next|exact u5 _ _|exact eqM_next
 |unOp op t x=>simp only[zh];unfold unM;(repeat' split)<;>first|exact zr|exact yK|exact u5 _ _
 |extract x i=>simp only[zh];unfold vB;(repeat' split)<;>first|exact zr|exact yK
 |nilCheck x=>simp only[zh];unfold KX;(repeat' split)<;>first|exact zr|exact yK
 |sliceToArrayPointer t x=>simp only[zh];unfold arrM;(repeat' split)<;>first|exact zr|exact yK
 |convert src dst x=>simp only[zh];unfold vC;(repeat' split)<;>first|exact zr|exact yK
 |makeFunc fn f c=>simp only[zh];(repeat' split)<;>first|exact zr|exact yK
 |slice t x lo hi mx=>simp only[zh];unfold qk;(repeat' split)<;>first|exact zr|exact zbB
 |field t x f=>simp only[zh];unfold ZT;(repeat' split)<;>first|exact zr|exact yK
 |index t x i=>simp only[zh];unfold wC;(repeat' split)<;>first|exact zr|exact yK
 |call c=>
  simp only[zh]
  split
  ·unfold jL;(repeat' split)<;>first|exact zr|exact aO _
  ·exact Wj
  ·exact zr
 |build t parts=>simp only[zh];unfold wL;(repeat' split)<;>first|exact zr|exact yK
 |buildSlice t len parts=>simp only[zh];unfold qL;(repeat' split)<;>first|exact zr|exact WR
 |makeSlice t l c=>simp only[zh];unfold qN;(repeat' split)<;>first|exact zr|exact WR
 |_=>exact zr
end
structure FRel(P:Program)(β:Ren)(a:Fr)(a':Act):Prop where
 size:a'.tmps.size=a.size
 small:a.size≤65534
 get:∀t,VRel P β (a.get t) (a'.tmps.getD t undef)
section
variable{P:Program}{β:Ren}
theorem FRel.mono{β':Ren}(hb:β.le β'){a:Fr}{a':Act}(h:FRel P β a a'):FRel P β' a a':=⟨h.size,h.small,fun t=>(h.get t).mono hb⟩
theorem wn:VRel P β undef undef:=.tuple .nil
theorem FRel.eval{a:Fr}{a':Act}(h:FRel P β a a'){x:Operand}(hx:kZ x=true):VRel P β (a.eval x) (a'.eval x):=by
 cases x with
 |tmp t=>exact h.get t
 |const v=>exact KI hx
 |global g=>simp[kZ]at hx
 |func f=>exact .func .nil .nil rfl
theorem FRel.put{a:Fr}{a':Act}(h:FRel P β a a')(dst:Option Tmp){v v':Value}(hv:VRel P β v v'):FRel P β (a.put dst v) (a'.put dst v'):=by
 cases dst with
 |none=>exact h
 |some d=>
  change Nat at d
  unfold Fr.put Act.put
  simp only
  cases hd:Nat.blt d a.size with
  |true=>
   have hlt:d<a.size:=by simpa[Nat.blt_eq]using hd
   have c:=h.small
   refine⟨by simpa using h.size,c,fun t=>?_⟩
   have e1:({a with tmps:=a.tmps.put vK d (some v)}:Fr).get t=if t=d then v else a.get t:=by
    unfold Fr.get
    rw[Tr.get_put vK _ _ _ _ (by have:(2:Nat) ^ vK=65536:=U;omega)]
    by_cases b:t=d<;>simp[b]
   simp only at e1 ⊢
   rw[e1]
   have hsz:=h.size
   by_cases b:t=d
   ·subst b
    rw[aF rfl]
    have:(a'.tmps.setIfInBounds t v').getD t undef=v':=by
     rw[bB,Array.getElem?_setIfInBounds_self_of_lt O]
     rfl
    rw[this];exact hv
   ·rw[aD b]
    have:(a'.tmps.setIfInBounds d v').getD t undef=a'.tmps.getD t undef:=by
     rw[bB,bB,Array.getElem?_setIfInBounds_ne (Ne.symm b)]
    rw[this];exact h.get t
  |false=>
   have hge:¬d<a.size:=by
    intro e
    have:Nat.blt d a.size=true:=by simpa[Nat.blt_eq]using e
    rw[this]at hd;cases hd
   refine⟨by simpa using h.size,h.small,fun t=>?_⟩
   have hsz:=h.size
   have:a'.tmps.setIfInBounds d v'=a'.tmps:=Array.setIfInBounds_eq_of_size_le O
   rw[this];exact h.get t
theorem Zl:∀(l:List Value) (n:Nat) (t:Tr Value) (i:Nat),n+l.length≤65534→(YP l n t).get i=if n≤i∧i<n+l.length then l[i-n]? else t.get i
 | [],n,t,i,h=>by simp[YP];omega
 |v::l,n,t,i,h=>by
  simp only[aW]at h
  rw[YP,Zl l (n+1) _ i O]
  rw[Tr.get_put vK _ _ _ _ (by have:(2:Nat) ^ vK=65536:=U;omega)]
  simp only[aW]
  by_cases h1:n+1≤i∧i<n+1+l.length
  ·rw[aF h1,aF O,show i-n=(i-(n+1))+1 by omega]
   simp
  ·rw[aD h1]
   by_cases h2:i=n
   ·subst h2
    rw[aF rfl,aF O]
    simp
   ·rw[aD h2,aD O]
theorem FRel.make{args args':Array Value}{n:Nat}(ha:LRel P β args.toList args'.toList)(h1:args.toList.length≤n)(h2:n≤65534) :
 FRel P β (Fr.make args n) {tmps:=args'++Array.replicate (n-args'.size) undef,defers:=[]}:=by
 have hl:=ha.length
 rw[eA,eA]at hl
 rw[eA]at h1
 refine⟨by simp[Fr.make];omega,h2,fun t=>?_⟩
 have e1:(Fr.make args n).get t=if t<args.size then args.toList.getD t undef else undef:=by
  unfold Fr.get Fr.make
  simp only
  rw[Zl _ _ _ _ (by simpa using by omega)]
  by_cases a:t<args.size
  ·rw[aF ⟨cJ _,by simpa using a⟩,aF a]
   simp[a]
  ·rw[aD (by simp;omega),aD a]
   rfl
 rw[e1]
 by_cases a:t<args.size
 ·rw[aF a]
  obtain⟨v',b,c⟩:=ha.get (i:=t) (v:=args[t]) (by simp[a])
  have:(args'++Array.replicate (n-args'.size) undef).getD t undef=v':=by
   rw[bB,Array.getElem?_append_left O]
   rw[Array.getElem?_toList]at b
   rw[b];rfl
  rw[this]
  simpa[a]using c
 ·rw[aD a]
  have:(args'++Array.replicate (n-args'.size) undef).getD t undef=undef:=by
   rw[bB,Array.getElem?_append_right O]
   by_cases c:t-args'.size<n-args'.size
   ·simp[c]
   ·simp[c]
  rw[this];exact wn
theorem Fr.get_eq(a:Fr)(t:Nat):a.get t=(a.tmps.get t).getD undef:=by
 unfold Fr.get
 cases a.tmps.get t<;>rfl
theorem KU(g:Nat→Value):∀(n:Nat) (l:List Value),Zu g n l=(List.range n).map g++l
 |0,l=>by simp[Zu]
 |n+1,l=>by rw[Zu,KU g n,List.range_succ,List.map_append,bD];rfl
theorem Fr.norm_get{a:Fr}(h:a.size≤65534)(t:Nat):a.norm.get t=if t<a.size then a.get t else undef:=by
 unfold Fr.norm Fr.make
 rw[KU,bM]
 show(match (YP ((List.range a.size).map a.get) 0 .nil).get t with|some v=>v|none=>undef)=_
 rw[Zl _ _ _ _ (by simp;omega)]
 by_cases b:t<a.size
 ·rw[aF (by simp;omega),aF b]
  simp[b]
 ·rw[aD (by simp;omega),aD b]
  rfl
theorem FRel.norm{a:Fr}{a':Act}(h:FRel P β a a'):TRel P β a.norm a'.tmps:=by
 refine⟨h.size,h.small,fun t=>?_⟩
 rw[←Fr.get_eq,Fr.norm_get h.small]
 by_cases b:t<a.size
 ·rw[aF b];exact h.get t
 ·rw[aD b]
  have:a'.tmps.getD t undef=undef:=by
   rw[bB,cX (by have:=h.size;omega)]
   rfl
  rw[this];exact wn
theorem FRel.trel{a:Fr}{a':Act}(h:FRel P β a a'):TRel P β a a'.tmps:=⟨h.size,h.small,fun t=>by rw[←Fr.get_eq];exact h.get t⟩
theorem TRel.frel{a:Fr}{t':Array Value}(h:TRel P β a t')(b:List Deferred):FRel P β a {tmps:=t',defers:=b}:=⟨h.size,h.small,fun t=>by rw[Fr.get_eq];exact h.get t⟩
theorem wanted_eq{a:Fr}{a':Act}(h:FRel P β a a')(ops:Array Oper)(o:Oper):qc ops.toList a o=Region.wanted o (yielded ops a'.tmps):=by
 unfold qc Region.wanted
 split
 ·rename_i hg;rw[hg]
 ·rename_i j want hg
  rw[hg]
  simp only[yielded]
  rw[zJ]
  cases c:ops[j]? with
  |none=>
   have:ops.toList[j]? = none:=by simpa using c
   rw[this]
   simp
  |some q=>
   have:ops.toList[j]? = some q:=by simpa using c
   rw[this]
   simp only[aA]
   cases hd:q.dst with
   |none=>simp
   |some d=>
    simp only[aA]
    have hg:=h.get d
    cases e:a'.tmps[d]? with
    |none=>
     rw[bB,e]at hg
     simp only[Option.getD_none]at hg
     have:∀b,a.get d≠.bool b:=fun b hb=>by rw[hb]at hg;cases hg
     cases hv:a.get d<;>first|rfl|exact(this _ hv).elim
    |some v=>
     rw[bB,e]at hg
     simp only[bL]at hg
     generalize a.get d=u at hg
     cases hg<;>first|rfl|(cases want<;>rename_i b<;>cases b<;>rfl)
end
end Go.M
