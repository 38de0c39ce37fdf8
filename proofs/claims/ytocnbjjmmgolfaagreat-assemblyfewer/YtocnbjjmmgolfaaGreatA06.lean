/- The other operations of the abstract machine. -/
import Derived.Test.YtocnbjjmmgolfaaGreatA05
import Derived.RangeFuncRecord
import Derived.Laws.BytesString
set_option linter.unusedSimpArgs false
set_option linter.unusedVariables false
set_option linter.unusedSectionVars false
namespace Go.M
section
variable{P:Program}{β:Ren}{s:St}{w:World}
theorem Jv{argTypes:Array TypeId}{t:TypeId}{l:List TypeId}(h:argTypes.toList=t::l):argTypes[0]? = some t:=by
 rw[←Array.getElem?_toList,h];rfl
theorem cap_sound(h:Rel P β s w){argTypes:Array TypeId}{args args':List Value}(ha:LRel P β args args')(ty:TypeId) :
 OpS P β s w (capM P argTypes.toList args s) ((zZ (Builtin.cap_ argTypes ty ⟨args'⟩)).run P w):=by
 unfold capM
 split
 ·rename_i t rest a len c b
  have h0:=Jv b
  cases ha with
  | @cons _ y' _ _ d ha=>
  cases ha
  split
  ·rename_i e hu hc
   have key:∀(a':Option Addr) (len' c':Nat),(zZ (Builtin.cap_ argTypes ty ⟨[.slice a' len' c']⟩)).run P w=.ok (.value (.int .i64 (c':Int))) w:=by
    intro a' len' c'
    refine zW ?_
    simp[Builtin.cap_,h0,run_underlying hu,goInt]
   cases d with
   |snil=>exact .value h (.int _ _) (key _ _ _)
   | @sknown _ _ _ c' _ hb=>
    have:2*c' / 2=c':=by omega
    rw[this]
    exact .value h (.int _ _) (key _ _ _)
   |szero hb=>exact .value h (.int _ _) (key _ _ _)
   |sgrown hb _ _=>omega
   |sempty hb _=>omega
  ·exact .stuck
 ·exact .stuck
theorem len_sound(h:Rel P β s w){argTypes:Array TypeId}{args args':List Value}(ha:LRel P β args args')(ty:TypeId) :
 OpS P β s w (KV P argTypes.toList args s) ((zZ (Builtin.len_ argTypes ty ⟨args'⟩)).run P w):=by
 unfold KV
 split
 ·rename_i t rest x d
  have h0:=Jv d
  cases ha with
  | @cons _ y' _ _ f ha=>
  cases ha
  split
  ·rename_i e a n c hu
   have key:∀(a':Option Addr) (c':Nat),(zZ (Builtin.len_ argTypes ty ⟨[.slice a' n c']⟩)).run P w=.ok (.value (.int .i64 (n:Int))) w:=fun a' c'=>
    zW V0
   cases f<;>exact .value h (.int _ _) (key _ _)
  ·rename_i b hu
   cases f
   exact .value h (.int _ _) (zW V0)
  ·rename_i n e hu
   exact .value h (.int _ _) (zW V0)
  ·rename_i k e hu
   cases f
   exact .value h (.int _ _) (zW V0)
  ·rename_i k e r hu
   cases f with
   |mref hb=>
    split
    ·rename_i es c hg
     obtain⟨o',ho,g⟩:=h.obj _ _ _ hb (h.lt hg) hg
     cases g with
     |map hlen he=>
      refine .value h (.int _ _) (zW ?_)
      simp[Builtin.len_,h0,run_underlying hu,goInt,getObj,Sem.run,ho,hlen]
    ·exact .stuck
  ·exact .stuck
 ·exact .stuck
theorem min_sound(h:Rel P β s w){argTypes:Array TypeId}{args args':List Value}(ha:LRel P β args args')(ty:TypeId) :
 OpS P β s w (minM args s) ((zZ (Builtin.min_ argTypes ty ⟨args'⟩)).run P w):=by
 unfold minM
 split
 ·rename_i k x k' y
  cases ha with
  | @cons _ _ _ _ hx ha=>cases ha with
   | @cons _ _ _ _ b ha=>
    cases ha;cases hx;cases b
    refine .value h (.int _ _) (zW ?_)
    simp only[Builtin.min_,List.foldlM,Builtin.min2,zes]
    by_cases a:x≤y
    ·have:¬y<x:=by omega
     simp[a,this]
    ·have:y<x:=by omega
     simp[a,this]
 ·exact .stuck
theorem max_sound(h:Rel P β s w){argTypes:Array TypeId}{args args':List Value}(ha:LRel P β args args')(ty:TypeId) :
 OpS P β s w (maxM args s) ((zZ (Builtin.max_ argTypes ty ⟨args'⟩)).run P w):=by
 unfold maxM
 split
 ·rename_i k x k' y
  cases ha with
  | @cons _ _ _ _ hx ha=>cases ha with
   | @cons _ _ _ _ b ha=>
    cases ha;cases hx;cases b
    refine .value h (.int _ _) (zW ?_)
    simp only[Builtin.max_,List.foldlM,Builtin.max2,zes]
    by_cases a:y≤x
    ·have:¬y>x:=by omega
     simp[a,this]
    ·have:y>x:=by omega
     simp[a,this]
 ·exact .stuck
theorem zeR(h:Rel P β s w){argTypes:Array TypeId}{args args':List Value}(ha:LRel P β args args')(ty:TypeId) :
 OpS P β s w (X4 P argTypes.toList args s) ((zZ (Builtin.copy_ argTypes ty ⟨args'⟩)).run P w):=by
 unfold X4
 split
 ·rename_i dType rest base dLen dCap src g
  have h0:=Jv g
  cases ha with
  | @cons _ y' _ _ q ha=>cases ha with
   | @cons _ src' _ _ hx ha=>
    cases ha
    split
    ·rename_i e hu
     split
     ·rename_i inf n hi hlen
      obtain⟨g1,g2⟩:=KU (P:=P) hx hlen
      split
      ·rename_i new d
       obtain⟨new',p,o⟩:=ud h hx d (fun a len cap e=>by
        have:=g2 a len cap e
        have:=Nat.min_le_left n dLen
        show Nat.min n dLen≤len
        exact bH this O)
       split
       ·rename_i b off
        split
        ·rename_i nx s₁ j
         intro _
         have key:∀(m:Img) (o' cap':Nat) (w':World),(storeCells ⟨m.blk,o',none⟩ new').run P w=.ok () w' →
          (zZ (Builtin.copy_ argTypes ty ⟨[.slice (some ⟨m.blk,o',none⟩) dLen cap',src']⟩)).run P w=.ok (.value (.int .i64 ((Nat.min n dLen:Nat):Int))) w':=fun m o' cap' w' hs=>
          zW (by simp[Builtin.copy_,h0,run_underlying hu,g1,z4 hi,p,hs,goInt])
         have zero:∀(m:Img) (o' cap':Nat),β b=some m→dLen=0→∃w',(zZ (Builtin.copy_ argTypes ty ⟨[.slice (some ⟨m.blk,o',none⟩) dLen cap',src']⟩)).run P w=.ok (.value (.int .i64 ((Nat.min n dLen:Nat):Int))) w'∧Ext P β s w β s₁ w':=by
          intro m o' cap' hb r
          have k:Nat.min n dLen=0:=by rw[r];exact Nat.min_zero n
          have hl:new=[]:=by
           cases src with
           |slice a l c=>
            apply dU
            have hx':=hx
            rw[vN d (fun _=>k),k,eA]
           |_=>first|(simp[zcb]at hlen;done)|simp[xM]at d
          subst hl
          cases o
          obtain⟨_,w',f,i⟩:=xe h hb .nil j
          have:w'=w:=by
           have:(storeCells ⟨m.blk,off+m.sh,none⟩ []).run P w=.ok () w:=rfl
           rw[this]at f;cases f;rfl
          subst this
          exact⟨w',key m o' cap' w' rfl,i⟩
         cases q with
         |sknown hb=>
          obtain⟨_,w',f,i⟩:=xe h hb o j
          exact⟨β,w',_,key _ _ _ w' f,i,_,rfl,.int _ _⟩
         |sgrown hb _ _=>
          obtain⟨_,w',f,i⟩:=xe h hb o j
          exact⟨β,w',_,key _ _ _ w' f,i,_,rfl,.int _ _⟩
         |sempty hb _=>
          obtain⟨w',f,i⟩:=zero _ _ _ hb rfl
          exact⟨β,w',_,f,i,_,rfl,.int _ _⟩
         |szero hb=>
          obtain⟨w',f,i⟩:=zero _ _ _ hb rfl
          exact⟨β,w',_,f,i,_,rfl,.int _ _⟩
        ·exact .stuck
       ·exact .stuck
      ·exact .stuck
     ·exact .stuck
    ·exact .stuck
 ·exact .stuck
theorem QC{ρ ρ':Operand→Value}{l:List Operand}(h:∀x∈l,VRel P β (ρ x) (ρ' x)):LRel P β (qp ρ l) (l.map ρ'):=by
 induction l with
 |nil=>exact .nil
 |cons x l b=>exact .cons (h x Y8) (b fun y a=>h y (by simp[a]))
theorem gV{ρ:Operand→Value}(a:Array Operand):a.map ρ=⟨a.toList.map ρ⟩:=by apply Array.ext';simp
theorem Vr(h:Rel P β s w){f o:Value}{args args':List Value}(hf:VRel P β f o)(ha:LRel P β args args') :
 OpS P β s w (jF P f args s) ((Deferred.ofValue o ⟨args'⟩ >>= fun d=>invoke d.target d.args).run P w):=by
 unfold jF
 split
 ·rename_i n first captured
  split
  ·rename_i a
   cases hf with
   | @func _ f1 j c1 i h1 h2=>
    intro _
    refine⟨β,w,.enter n ⟨j++args'++i⟩,?_,Ext.refl h,_,rfl,(h1.append ha).append h2⟩
    unfold xG at a
    split at a
    ·rename_i fn p
     simp only[aF,bD]at a
     have hb:¬fn.body=none:=fun c=>by simp[c]at a
     have l : ¬ fn.name = "runtime.NumGoroutine" := fun c => by simp [c] at a
     simp[Deferred.ofValue,invoke,callFunc,p,l,hb]
    ·cases a
  ·exact .stuck
 ·rename_i b
  split
  ·rename_i lp hg
   split
   ·rename_i hlen
    cases hf with
    |func _ _ fl=>cases fl
    | @yield _ m hb=>
     intro _
     obtain⟨o',g,q⟩:=h.obj b m _ hb (h.lt hg) hg
     cases q with
     | @loop _ r hft hp hA hB hs hj=>
      refine⟨β,w,.round m.blk r.fn (uT r ⟨args'⟩) r.assign r.body,?_,Ext.refl h,m,r,⟨args'⟩,hb,g,rfl,ha⟩
      have k:=ha.length
      have e:=aI hlen
      simp only[yd,bK]at e
      have hsz:(⟨args'⟩:Array Value).size=r.params.size:=by
       show args'.length=_
       rw[k,e,←hp,dV]
      have:=run_yield (P:=P) (args:=⟨args'⟩) g hsz
      simpa[Deferred.ofValue,invoke,uT]using this
   ·exact .stuck
  ·exact .stuck
 ·exact .stuck
end
section
variable{P:Program}{β:Ren}{s:St}{w:World}
theorem VO(h:Rel P β s w){src dst:TypeId}{x x':Value}(hx:VRel P β x x'):OpS P β s w (vA P src dst x s) ((zZ (convert src dst x')).run P w):=by
 unfold vA
 split
 ·rename_i d k hs hd
  split
  ·rename_i k' n
   cases hx
   exact .value h (.int _ _) (zW (by simp[convert,run_underlying hs,run_underlying hd,Conv.intToInt]))
  ·exact .stuck
 ·exact .stuck
theorem Vn{t:TypeId}{off:Nat}{c c':List Value}{v:Value}(hc:LRel P β c c')(h:jh (zV P t) off c=some v)(w:World) :
 ∃v',(part t ⟨c'⟩ off).run P w=.ok v' w∧VRel P β v v':=by
 unfold jh at h
 split at h
 ·rename_i hs
  rw[zG]at h
  obtain⟨v',h1,h2⟩:=hc.get h
  exact⟨v',by simp[part,XF hs,h1],h2⟩
 ·rename_i n hs
  split at h
  ·rename_i l hl
   cases h
   rw[y5,yS]at hl
   split at hl
   ·cases hl
    refine⟨.agg ⟨(c'.drop off).take n⟩,?_,.agg ((hc.drop off).take n)⟩
    simp only[part,Sem.run_bind,Ym hs,Result.andThen_ok,dO,Sem.run_pure]
    congr 2
    apply Array.ext'
    simp[List.extract]
   ·cases hl
  ·cases h
 ·cases h
theorem zai(h:Rel P β s w){t:TypeId}{x x':Value}{f:Nat}(hx:VRel P β x x'):OpS P β s w (ZJ P t x f s) ((zZ (Instr.field t x' f)).run P w):=by
 unfold ZJ
 split
 ·rename_i cs fields hu
  split
  ·rename_i c a
   rw[zG]at a
   have b:fields[f]? = some c:=by simpa using a
   split
   ·rename_i v hv
    cases hx with
    |agg hl=>
     obtain⟨v',h1,h2⟩:=Vn hl hv w
     exact .value h h2 (zW (by simp[Instr.field,run_underlying hu,b,asAgg,h1]))
   ·exact .stuck
  ·exact .stuck
 ·exact .stuck
theorem J5(h:Rel P β s w){t:TypeId}{x x' i j:Value}(hx:VRel P β x x')(hi:VRel P β i j):OpS P β s w (wy P t x i s) ((zZ (Instr.index t x' j)).run P w):=by
 unfold wy
 split
 ·rename_i k n
  cases hi
  split
  ·rename_i cs len e hu
   split
   ·rename_i inf a d
    have a:n<len:=by simpa[Nat.blt_eq]using a
    split
    ·rename_i v hv
     cases hx with
     |agg hl=>
      obtain⟨v',h1,h2⟩:=Vn hl hv w
      refine .value h h2 (zW ?_)
      simp only[Instr.index,asIntOf,Sem.run_bind,Sem.run_pure,Result.andThen_ok,run_underlying hu]
      rw[aG (by constructor;exact Int.natCast_nonneg n;exact Int.ofNat_lt.2 a)]
      simp[z4 d,h1]
    ·exact .stuck
   ·exact .stuck
  ·rename_i b hu
   split
   ·rename_i c hc
    cases hx
    refine .value h (.int _ _) (zW ?_)
    rw[zG]at hc
    have hb:b[n]? = some c:=by
     rw[Array.getElem?_toList]at hc
     have a:n<b.data.size:=by
      rcases cM n b.data.size with g|g
      ·exact g
      ·rw[cU g]at hc;cases hc
     have f:n<b.size:=a
     rw[getElem?_pos b n f]
     rw[Array.getElem?_eq_getElem a]at hc
     exact hc
    simp[Instr.index,asIntOf,run_underlying hu,hb]
   ·exact .stuck
  ·exact .stuck
 ·exact .stuck
theorem vf{t:TypeId}{z:List Value}(h:wb P t=some z):∃i v,P.info? t=some i∧i.zero=some v∧v.cells.toList=z∧v.cells.size=i.size∧z.all kw=true:=by
 unfold wb at h
 split at h
 ·rename_i i hi
  split at h
  ·rename_i v hv
   split at h
   ·rename_i hb
    cases h
    simp only[aF]at hb
    have h2:=aI hb.2
    rw[yd]at h2
    refine⟨i,v,hi,hv,jD v,?_,hb.1⟩
    rw[←dV,jD]
    omega
   ·cases h
  ·cases h
 ·cases h
theorem WT(off:Nat):∀(vs:List Value) (k:Nat) (c:Array Value),off+k+vs.length≤c.size →
 ((vs.zipIdx k).foldl (fun cs (p:Value×Nat)=>cs.setIfInBounds (off+p.2) p.1) c).toList=c.toList.take (off+k)++vs++c.toList.drop (off+k+vs.length)
 | [],k,c,h=>by simp
 |v::vs,k,c,h=>by
  simp only[List.zipIdx_cons,List.foldl_cons]
  simp only[aV]at h
  rw[WT off vs (k+1) (c.setIfInBounds (off+k) v) (by simp;omega)]
  rw[Array.toList_setIfInBounds]
  have a:off+k<c.toList.length:=by simp;omega
  rw[show off+(k+1)=off+k+1 by omega]
  rw[List.take_set,List.drop_set_of_lt O]
  rw[List.take_succ_eq_append_getElem a]
  rw[List.set_append_right _ _ (by simp;omega)]
  have e1:off+k-(List.take (off+k) c.toList).length=0:=by simp;omega
  rw[e1]
  simp only[List.set_cons_zero,aV,bE,bU,cG]
  rw[show off+k+1+vs.length=off+k+(vs.length+1)by omega]
theorem ue{place:Nat→Option (Nat×Nat)}{ρ ρ':Operand→Value}:∀(parts:List (Nat×Operand)) (c c' r:List Value),LRel P β c c'→(∀p∈parts,VRel P β (ρ p.2) (ρ' p.2)) →
 qH place ρ parts c=some r→∃d,Instr.fill place ⟨c'⟩ (parts.map fun p=>(p.1,ρ' p.2))=some ⟨d⟩∧LRel P β r d
 | [],c,c',r,hc,_,h=>by
  simp only[qH,bC]at h
  subst h
  exact⟨c',rfl,hc⟩
 |(i,x)::rest,c,c',r,hc,hp,h=>by
  unfold qH at h
  split at h
  ·rename_i off size f
   split at h
   ·rename_i c₁ hsz a
    have hx:LRel P β (yp (ρ x)) (ρ' x).cells.toList:=(hp (i,x) Y8).cells
    have hsz:=aI hsz
    rw[yd]at hsz
    obtain⟨hlen,rfl⟩:=WH _ _ _ _ a
    have e:=hx.length
    rw[dV]at e
    have hl2:=hc.length
    have e1:((ρ' x).cells.size≠size||off+(ρ' x).cells.size>(⟨c'⟩:Array Value).size)=false:=by
     have h1:(ρ' x).cells.size=size:=by omega
     have h2:¬off+(ρ' x).cells.size>c'.length:=by omega
     simp[h1]
     omega
    have b:=WT off (ρ' x).cells.toList 0 ⟨c'⟩ (by simp;omega)
    obtain⟨d,g1,g2⟩:=ue rest (c.take off++yp (ρ x)++c.drop (off+(yp (ρ x)).length)) (c'.take off++(ρ' x).cells.toList++c'.drop (off+(ρ' x).cells.toList.length)) r
     (((hc.take off).append hx).append (by rw[hx.length];exact hc.drop _)) (fun p g=>hp p (by simp[g])) h
    refine⟨d,?_,g2⟩
    rw[←g1]
    simp only[List.map_cons,Instr.fill,f]
    rw[aE (by rw[e1];simp)]
    congr 1
    apply Array.ext'
    rw[←Array.foldl_toList,Array.toList_zipIdx]
    simpa using b
   ·cases h
  ·cases h
theorem Q8:∀(fields:List Field) (w:World),fields.all (fun f=>(P.info? f.type).isSome)=true →
 ∃l:List (Nat×Nat),(fields.mapM fun f=>do pure (f.offset,←sizeOf f.type):Sem (List (Nat×Nat))).run P w=.ok l w∧∀i p,jb P fields i=some p→l[i]? = some p
 | [],w,_=>⟨[],rfl,by simp[jb,zE]⟩
 |f::b,w,h=>by
  simp only[List.all_cons,aF]at h
  obtain⟨l,h1,h2⟩:=Q8 b w h.2
  obtain⟨inf,a⟩:=Option.isSome_iff_exists.1 h.1
  refine⟨(f.offset,inf.size)::l,?_,fun i p hp=>?_⟩
  ·simp only[List.mapM_cons,Sem.run_bind,z4 a,Result.andThen_ok,Sem.run_pure,h1]
  ·cases i with
   |zero=>simpa[jb,zE,a]using hp
   |succ i=>simpa using h2 i p (by simpa[jb,zE]using hp)
theorem K9{place place':Nat→Option (Nat×Nat)}:∀(parts:List (Nat×Operand)) (ρ:Operand→Value) (c:List Value) (r:List Value),(∀i p,place i=some p→place' i=some p) →
 qH place ρ parts c=some r→qH place' ρ parts c=some r
 | [],_,_,_,_,h=>h
 |(i,x)::rest,ρ,c,r,hp,h=>by
  unfold qH at h ⊢
  split at h
  ·rename_i off size a
   rw[hp _ _ a]
   split at h
   ·rename_i c₁ e1 e2
    simp only[e1,e2]
    exact K9 rest ρ _ r hp h
   ·cases h
  ·cases h
theorem zcS(h:Rel P β s w){t:TypeId}{parts:Array (Nat×Operand)}{ρ ρ':Operand→Value}(hp:∀p∈parts.toList,VRel P β (ρ p.2) (ρ' p.2)) :
 OpS P β s w (wG P t parts.toList ρ s) ((zZ (Instr.build t (parts.map fun(i,x)=>(i,ρ' x)))).run P w):=by
 have b:(parts.map fun(i,x)=>(i,ρ' x)).toList=parts.toList.map fun p=>(p.1,ρ' p.2):=by simp
 unfold wG
 split
 ·rename_i z fields q hu
  split
  ·rename_i c j a
   obtain⟨i,v,h1,h2,m,y,o⟩:=vf q
   obtain⟨l,g1,g2⟩:=Q8 fields.toList w j
   have d:=K9 _ _ _ _ (place':=fun i=>(⟨l⟩:Array (Nat×Nat))[i]?) (fun i p hp=>by simpa using g2 i p hp) a
   obtain⟨B,r,u⟩:=ue _ _ _ _ (kv o) hp d
   refine .value h (.agg u) (zW ?_)
   have g:v.cells=⟨z⟩:=by apply Array.ext';rw[m]
   have A:(fields.mapM fun f=>do pure (f.offset,←sizeOf f.type):Sem (Array (Nat×Nat))).run P w=.ok ⟨l⟩ w:=by
    rw[Array.mapM_eq_mapM_toList,Sem.run_map,g1]
    rfl
   simp only[Instr.build,Sem.run_bind,yZ h1 h2,Result.andThen_ok,run_underlying hu,A,g,b,r,Sem.run_pure]
  ·exact .stuck
 ·rename_i z n e q hu
  split
  ·rename_i inf k
   split
   ·rename_i c a
    obtain⟨i,v,h1,h2,m,y,o⟩:=vf q
    obtain⟨B,r,u⟩:=ue _ _ _ _ (kv o) hp a
    refine .value h (.agg u) (zW ?_)
    have g:v.cells=⟨z⟩:=by apply Array.ext';rw[m]
    simp only[Instr.build,Sem.run_bind,yZ h1 h2,Result.andThen_ok,run_underlying hu,z4 k,g,b,r,Sem.run_pure]
   ·exact .stuck
  ·exact .stuck
 ·exact .stuck
theorem wN(l:List Value):∀k,(ko l k).length=k*l.length
 |0=>by simp[ko]
 |k+1=>by simp[ko,wN l k,dK,Nat.add_comm]
theorem zbw(l:List Value):∀(k i:Nat),i<k*l.length→(ko l k)[i]? = l[i % l.length]?
 |0,i,h=>by simp at h
 |k+1,i,h=>by
  simp only[ko]
  rw[List.getElem?_append]
  split
  ·rename_i c
   rw[Nat.mod_eq_of_lt c]
  ·rename_i hge
   rw[zbw l k (i-l.length) (by rw[dK,eB]at h;omega)]
   congr 1
   exact(Nat.mod_eq_sub_mod (a:=i) (b:=l.length) O).symm
theorem zdR{z:Array Value}(n:Nat)(c:n*z.size≠0):((Array.range (n*z.size)).map fun i=>z[i % z.size]!).toList=ko z.toList n:=by
 have a:0<z.size:=Nat.pos_of_ne_zero fun e=>c (by rw[e];rfl)
 apply List.ext_getElem?
 intro i
 by_cases hi:i<n*z.size
 ·rw[zbw _ _ _ (by simpa using hi)]
  have b:i % z.size<z.size:=Nat.mod_lt _ a
  simp[hi,b]
 ·rw[cT (by simp;omega),cT (by rw[wN];simpa using hi)]
theorem jT{l:List Value}(h:l.all kw=true):∀k,(ko l k).all kw=true
 |0=>rfl
 |k+1=>by simp[ko,h,jT h k]
theorem KJ(h:Rel P β s w){e:TypeId}{c c':List Value}(hc:LRel P β c c'){len cap:Nat}{d:Result Next}
 (f:d=.ok (.value (.slice (some ⟨w.heap.size,0,none⟩) len cap)) {w with heap:=w.heap.push (.cells ⟨c'⟩ e)}):OpS P β s w (newK e c len cap s) d:=by
 unfold newK
 split
 ·rename_i a
  intro hf
  have b:=K4 hf
  have hx:=Ext.row h a b (c:=c) (c':=⟨c'⟩) e (0,0) Y8 (fun i v hv=>by
   obtain⟨v',g1,g2⟩:=hc.get hv
   exact⟨v',by simpa using g1,g2⟩)
  exact⟨_,_,_,f,hx,_,rfl,VRel.sknown (m:=⟨w.heap.size,0,(⟨c'⟩:Array Value).size,e,false⟩) Ren.add_self⟩
 ·exact .stuck
theorem QI{e:TypeId}{inf:TypeInfo}{z:List Value}(hi:P.info? e=some inf)(c:wb P e=some z)(n:Nat) :
 ∃v,inf.zero=some v∧(n*inf.size=0→((Array.range (n*inf.size)).map ((#[]:Array Value)[· % (#[]:Array Value).size]!))=⟨ko z n⟩) ∧
  (n*inf.size≠0→((Array.range (n*inf.size)).map (v.cells[· % v.cells.size]!))=⟨ko z n⟩):=by
 obtain⟨i,v,h1,h2,a,b,h5⟩:=vf c
 rw[hi]at h1;cases h1
 refine⟨v,h2,fun h0=>?_,fun h0=>?_⟩
 ·apply Array.ext'
  have:ko z n=[]:=by
   apply dU
   rw[wN,←a,dV,b,h0]
  simp[h0,this]
 ·apply Array.ext'
  rw[←b]at h0 ⊢
  rw[zdR n h0,a]
theorem Xw(h:Rel P β s w){t:TypeId}{len:Nat}{parts:Array (Nat×Operand)}{ρ ρ':Operand→Value}(hp:∀p∈parts.toList,VRel P β (ρ p.2) (ρ' p.2)) :
 OpS P β s w (qJ P t len parts.toList ρ s) ((zZ (Instr.buildSlice t len (parts.map fun(i,x)=>(i,ρ' x)))).run P w):=by
 have b:(parts.map fun(i,x)=>(i,ρ' x)).toList=parts.toList.map fun p=>(p.1,ρ' p.2):=by simp
 unfold qJ
 split
 ·rename_i e hu
  split
  ·rename_i inf z a j
   split
   ·rename_i c g f
    obtain⟨_,_,_,_,_,_,l⟩:=vf j
    obtain⟨v,q0,m,n⟩:=QI a j len
    obtain⟨r',k,o⟩:=ue _ _ _ _ (kv (jT l len)) hp f
    refine KJ h o (zW ?_)
    have d:¬len*inf.size>2 ^ 24:=by simp only[Nat.ble_eq]at g;omega
    by_cases h0:len*inf.size=0
    ·simp only[Instr.buildSlice,Sem.run_bind,run_underlying hu,Result.andThen_ok,z4 a,d,cK]
     rw[aG h0]
     simp only[Sem.run_pure,Sem.run_bind,Result.andThen_ok,m h0,b,k]
     simp[newRow]
    ·simp only[Instr.buildSlice,Sem.run_bind,run_underlying hu,Result.andThen_ok,z4 a,d,cK]
     rw[aE h0]
     simp only[Sem.run_pure,Sem.run_bind,Result.andThen_ok,yZ a q0,n h0,b,k]
     simp[newRow]
   ·exact .stuck
  ·exact .stuck
 ·exact .stuck
theorem Qh(h:Rel P β s w){t:TypeId}{l c g c':Value}(hl:VRel P β l g)(hc:VRel P β c c'):OpS P β s w (qL P t l c s) ((zZ (Instr.makeSlice t g c')).run P w):=by
 unfold qL
 split
 ·rename_i e hu
  split
  ·rename_i inf z d f
   split
   ·rename_i k a k' b
    split
    ·rename_i hb
     simp only[aF,Nat.ble_eq]at hb
     cases hl;cases hc
     obtain⟨v,q0,j,m⟩:=QI d f b
     obtain⟨_,_,_,_,_,_,i⟩:=vf f
     refine KJ h (kv (jT i b)) (zW ?_)
     have hbs:b≤1073741824:=bH (Nat.le_mul_of_pos_right _ O) hb.2
     have n:IntKind.i64.wrap (a:Int)=a:=IntWalk.i64_in _ O
     have o:IntKind.i64.wrap (b:Int)=b:=IntWalk.i64_in _ O
     have hbb:b*inf.bytes≤1073741824:=bH (bV _ O) hb.2
     have c1:((decide ((b:Int)<0)||decide ((inf.bytes:Int)*(b:Int)>2 ^ 48))||decide ((a:Int)<0)||decide ((a:Int)>(b:Int)))=false:=by
      have h1:((b*inf.bytes:Nat):Int)≤1073741824:=by omega
      rw[Int.natCast_mul,Int.mul_comm]at h1
      simp only[Bool.or_eq_false_iff,bQ]
      exact⟨⟨⟨by omega,by omega⟩,by omega⟩,by omega⟩
     simp only[Instr.makeSlice,Sem.run_bind,run_underlying hu,Result.andThen_ok,asInt,asIntOf,Sem.run_pure,qn d,eP,n,o,c1,aW,cK,run_askRoom,Int.toNat_natCast,z4 d]
     by_cases h0:b*inf.size=0
     ·rw[aG h0]
      simp only[Sem.run_pure,Sem.run_bind,Result.andThen_ok,j h0]
      simp[newRow]
     ·rw[aE h0]
      simp only[Sem.run_pure,Sem.run_bind,Result.andThen_ok,yZ d q0,m h0]
      simp[newRow]
    ·exact .stuck
   ·exact .stuck
  ·exact .stuck
 ·exact .stuck
theorem zeros_all{e:TypeId}{inf:TypeInfo}{z:List Value}(hi:P.info? e=some inf)(b:wb P e=some z)(n:Nat):∃v,inf.zero=some v∧(Builtin.zeroCells v.cells n).toList=ko z n:=by
 obtain⟨v,q0,q1,d⟩:=QI hi b n
 obtain⟨i,v2,h1,h2,c,a,h5⟩:=vf b
 rw[hi]at h1
 cases h1
 rw[q0]at h2
 cases h2
 refine⟨v,q0,?_⟩
 by_cases h0:n*inf.size=0
 ·have hl:(ko z n).length=0:=by rw[wN,←c,dV,a];exact h0
  rw[dU hl]
  apply dU
  rw[dV,uI,a]
  exact h0
 ·have:=d h0
  unfold Builtin.zeroCells
  rw[←a]at this
  rw[this]
theorem zcL(h:Rel P β s w){argTypes:Array TypeId}{args args':List Value}(ha:LRel P β args args')(ty:TypeId) :
 OpS P β s w (ZP P argTypes.toList args s) ((zZ (Builtin.clear_ argTypes ty ⟨args'⟩)).run P w):=by
 unfold ZP
 split
 ·rename_i t rest base n cap d
  have h0:=Jv d
  cases ha with
  | @cons _ o _ _ j ha=>
   cases ha
   split
   ·rename_i e hu
    split
    ·have key:∀a c,o=.slice a 0 c→OpS P β s w (okV (.tuple ⟨[]⟩) s) ((zZ (Builtin.clear_ argTypes ty ⟨[o]⟩)).run P w):=fun a c e=>by
      subst e
      refine .value h (.tuple .nil) (zW ?_)
      cases a<;>simp[Builtin.clear_,h0,run_underlying hu]
     cases j<;>exact key _ _ rfl
    ·rename_i k
     split
     ·rename_i b off
      split
      ·rename_i inf z f l
       split
       ·rename_i nx s1 i
        obtain⟨v,q0,q⟩:=zeros_all f l (k+1)
        obtain⟨_,_,_,_,_,_,p⟩:=vf l
        have g:=kv (P:=P) (β:=β) (jT p (k+1))
        intro _
        have key:∀(m:Img) (cap':Nat),β b=some m→∃w',(zZ (Builtin.clear_ argTypes ty ⟨[.slice (some ⟨m.blk,off+m.sh,none⟩) (k+1) cap']⟩)).run P w=.ok (.value (.tuple ⟨[]⟩)) w'∧Ext P β s w β s1 w':=by
         intro m cap' hb
         obtain⟨_,w',r,u⟩:=xe h hb g i
         refine⟨w',zW ?_,u⟩
         simp[Builtin.clear_,h0,run_underlying hu,yZ f q0,q,r]
        cases j with
        |sknown hb=>
         obtain⟨w',g1,g2⟩:=key _ _ hb
         exact⟨β,w',_,g1,g2,_,rfl,.tuple .nil⟩
        |sgrown hb _ _=>
         obtain⟨w',g1,g2⟩:=key _ _ hb
         exact⟨β,w',_,g1,g2,_,rfl,.tuple .nil⟩
       ·exact .stuck
      ·exact .stuck
     ·exact .stuck
   ·exact .stuck
 ·exact .stuck
end
section
variable{P:Program}{β:Ren}{s:St}{w:World}
theorem run_checkKey{k:TypeId}{d:TypeDesc}(hu:P.underlying k=some d)(hd:keyD d=true)(b:Bool)(n:Nat)(v:Value)(w:World):(Instr.checkKey b (n+1) k v).run P w=.ok () w:=by
 simp only[Instr.checkKey,Sem.run_bind,run_underlying hu,Result.andThen_ok]
 cases d<;>simp[keyD]at hd<;>cases v<;>rfl
theorem sameNow_rel{d:TypeDesc}{k e k' a:Value}{b:Bool}(hk:VRel P β k k')(he:VRel P β e a)(h:Instr.sameNow d k e=some b):Instr.sameNow d k' a=some b:=by
 unfold Instr.sameNow at h
 split at h
 ·cases hk;cases he;exact h
 ·cases hk;cases he;exact h
 ·cases hk;cases he;exact h
 ·cases h
theorem bytes_eq{a b:ByteArray}(h:(a==b)=true):a=b:=by
 have c:(a.data==b.data)=true:=h
 exact ByteArray.ext (by simpa using c)
theorem zft(a:ByteArray):(a==a)=true:=by
 show(a.data==a.data)=true
 simp
theorem sameNow_bits{d:TypeDesc}{k e:Value}(h:Instr.sameNow d k e=some true)(n:Nat):Instr.sameBits n e k=true:=by
 unfold Instr.sameNow at h
 split at h
 ·split at h
  ·rename_i hk
   subst hk
   simp only[bC,beq_iff_eq]at h
   subst h
   cases n<;>simp[Instr.sameBits]
  ·cases h
 ·simp only[bC]at h
  rw[bytes_eq h]
  cases n<;>exact zft _
 ·simp only[bC,beq_iff_eq]at h
  subst h
  cases n<;>simp[Instr.sameBits]
 ·cases h
theorem nil_sound(h:Rel P β s w){x x':Value}(hx:VRel P β x x'){o:Oper}{ρ':Operand→Value}{y:Operand}(ho:o.op=.nilCheck y)(a:ρ' y=x'):OpS P β s w (KH x s) ((execOp ρ' o).run P w):=by
 unfold KH
 split
 ·cases hx with
  |ptr hb=>exact .value h (.ptr hb) (by simp[execOp,ho,a])
 ·cases hx with
  |func h1 h2 fl=>exact .value h (.func h1 h2 fl) (by simp[execOp,ho,a])
 ·exact .stuck
theorem arr_sound(h:Rel P β s w){t:TypeId}{x x':Value}(hx:VRel P β x x'){o:Oper}{ρ':Operand→Value}{y:Operand}(ho:o.op=.sliceToArrayPointer t y)(d:ρ' y=x'):OpS P β s w (arrM P t x s) ((execOp ρ' o).run P w):=by
 unfold arrM
 split
 ·rename_i n e b off len c hu
  split
  ·rename_i a
   have a:=aQ a
   cases hx with
   |sknown hb=>exact .value h (.ptr hb) (by simp[execOp,ho,d,Instr.arrayAt,run_underlying hu,show ¬len<n+1 by omega])
   |sgrown hb hc hs=>exact .value h (.ptr hb) (by simp[execOp,ho,d,Instr.arrayAt,run_underlying hu,show ¬len<n+1 by omega])
   |sempty hb hs=>omega
   |szero hb=>omega
  ·exact .stuck
 ·exact .stuck
theorem VQ(h:Rel P β s w){b:Builtin}{argTypes:Array TypeId}{args args':List Value}(ha:LRel P β args args')(ty:TypeId)(consts:Array Bool) :
 OpS P β s w (xl P b argTypes.toList args s) ((builtin b argTypes ty consts ⟨args'⟩).run P w):=by
 cases b<;>first
  |exact zaB h ha ty
  |exact cap_sound h ha ty
  |exact len_sound h ha ty
  |exact min_sound h ha ty
  |exact max_sound h ha ty
  |exact zeR h ha ty
  |exact zcL h ha ty
  |exact .stuck
theorem zdI(h:Rel P β s w){ρ ρ':Operand→Value}(o:Oper)(hρ:∀x∈o.op.operands.toList,VRel P β (ρ x) (ρ' x)) :
 OpS P β s w (zh P ρ o.op s) ((execOp ρ' o).run P w):=by
 obtain⟨dst,op,type,pos,after,guard⟩:=o
 cases op with
 |move x=>exact .value h (hρ x Y5) rfl
 |assign x=>exact .value h (hρ x Y5) rfl
 |pick c a b=>exact zdT h (hρ c Y5) (hρ a Y5) (hρ b Y5)
 |load t a=>exact zei h (hρ a Y5)
 |store t a v=>exact zaZ h (hρ a Y5) (hρ v Y5)
 |box e x=>exact Jd h (hρ x Y5).cells
 |alloc e=>exact zde h
 |fieldAddr t x f=>exact zct h (hρ x Y5)
 |indexAddr t x i=>exact zci h (hρ x Y5) (hρ i Y5)
 |binOp op t x y yt=>exact bin_sound h (hρ x Y5) (hρ y Y5) x y
 |unOp op t x=>exact un_sound h (hρ x Y5)
 |extract x i=>exact VN h (hρ x Y5)
 |nilCheck x=>exact nil_sound h (hρ x Y5) rfl rfl
 |sliceToArrayPointer t x=>exact arr_sound h (hρ x Y5) rfl rfl
 |convert src dst x=>exact VO h (hρ x Y5)
 |makeFunc fn first captured=>
  simp only[zh]
  split
  ·exact .stuck
  next hk=>
  refine .value h (v':=.func fn ⟨first.toList.map ρ'⟩ ⟨captured.toList.map ρ'⟩) (.func (QC fun x hx=>hρ x (by simp[Op.operands];exact .inl (by simpa using hx))) (QC fun x hx=>hρ x (by simp[Op.operands];exact .inr (by simpa using hx))) (flatB_no hk _)) ?_
  show Result.ok (Next.value (Value.func fn (first.map ρ') (captured.map ρ'))) w=_
  rw[gV,gV]
 |slice t x lo hi mx=>
  have d:=uU (P:=P) (β:=β) (ρ:=ρ) (ρ':=ρ') (o:=lo) fun x hx=>hρ x (by simp[Op.operands,hx])
  have g:=uU (P:=P) (β:=β) (ρ:=ρ) (ρ':=ρ') (o:=hi) fun x hx=>hρ x (by simp[Op.operands,hx])
  have j:=uU (P:=P) (β:=β) (ρ:=ρ) (ρ':=ρ') (o:=mx) fun x hx=>hρ x (by simp[Op.operands,hx])
  exact zbi h (hρ x Y5) d.1 d.2 g.1 g.2 j.1 j.2
 |field t x f=>exact zai h (hρ x Y5)
 |index t x i=>exact J5 h (hρ x Y5) (hρ i Y5)
 |call c=>
  obtain⟨callee,args,argTypes⟩:=c
  cases callee with
  |value f=>
   have h1:=hρ f (by simp[Op.operands,Call.operands])
   have h2:LRel P β (qp ρ args.toList) (args.toList.map ρ'):=QC fun x hx=>hρ x (by simp[Op.operands,Call.operands];exact .inr (by simpa using hx))
   have:=Vr (s:=s) h h1 h2
   rw[←gV]at this
   exact this
  |builtin b=>
   have h2:LRel P β (qp ρ args.toList) (args.toList.map ρ'):=QC fun x hx=>hρ x (by simp[Op.operands,Call.operands];simpa using hx)
   have:=VQ (s:=s) h (b:=b) (argTypes:=argTypes) h2 type (args.map fun | .const _=>true|_=>false)
   rw[←gV]at this
   exact this
  |invoke r m=>exact .stuck
 |build t parts=>exact zcS h fun p hp=>hρ p.2 V7
 |buildSlice t len parts=>exact Xw h fun p hp=>hρ p.2 V7
 |makeSlice t l c=>exact Qh h (hρ l Y5) (hρ c Y5)
 |_=>exact .stuck
end
def Res.nextLe{α:Type}(s:St):Res α→Prop
 | .ok _ s'=>s.next≤s'.next
 | .panic _ s'=>s.next≤s'.next
 | .stuck=>True
def Out.nextLe(s:St):Out→Prop
 | .normal _ s' | .exit _ _ s' | .ret _ s' | .panic _ _ s'=>s.next≤s'.next
 | .stuck=>True
def CallOut.nextLe(s:St):CallOut→Prop
 | .ret _ s' | .panic _ s'=>s.next≤s'.next
 | .stuck=>True
section
variable{P:Program}{s:St}
theorem yH{v:Value}:(okV v s).nextLe s:=aM _
theorem zr{α:Type}:(Res.stuck:Res α).nextLe s:=trivial
theorem uS{α γ:Type}(f:α→γ)(x:Sem α):((kW P x s).map f).nextLe s:=by
 have h:=runA_next (P:=P) x s
 cases hx:kW P x s with
 |ok a s'=>exact h.1 a s' hx
 |panic v s'=>exact h.2 v s' hx
 |stuck=>trivial
theorem XD{b off:Nat}{vs:List Value}:(xq b off vs s).nextLe s:=by
 unfold xq
 (repeat' split)<;>first|exact zr|exact aM _
theorem newS_next{e:TypeId}{c:List Value}{n:Nat}:(uD e c n s).nextLe s:=by
 unfold uD
 split
 ·exact Nat.le_succ _
 ·exact zr
theorem WD{e:TypeId}{c:List Value}{n k:Nat}:(newK e c n k s).nextLe s:=by
 unfold newK
 split
 ·exact Nat.le_succ _
 ·exact zr
theorem Je{e:TypeId}{c:List Value}:(Xx e c s).nextLe s:=by
 unfold Xx
 split
 ·exact Nat.le_succ _
 ·exact zr
theorem zbj{sz:Nat}{a:Option Addr}{len c:Nat}{known:Bool}{lo hi mx:Option Value}:(xR sz a len c known lo hi mx s).nextLe s:=by
 unfold xR
 (repeat' split)<;>first|exact zr|exact yH
theorem eqM_next{op:BinOp}{t:TypeId}{x y:Value}:(eqM P op t x y s).nextLe s:=by
 unfold eqM
 (repeat' split)<;>first|exact zr|exact yH
theorem intM_next{op:BinOp}{t:TypeId}{k k':IntKind}{a b:Int}:(qW P op t k k' a b s).nextLe s:=by
 unfold qW
 (repeat' split)<;>first|exact yH|exact uS _ _
theorem zeu{e:TypeId}{a:Option Addr}{cap need:Nat}{c:List Value}:(Zj e a cap need c s).nextLe s:=by
 unfold Zj
 split
 ·rename_i s' hk
  have:s'.next=s.next:=by
   unfold XR at hk
   (repeat' split at hk)<;>cases hk<;>rfl
  have h:=newS_next (s:=s') (e:=e) (c:=c) (n:=need)
  cases d:uD e c need s' with
  |ok a b=>rw[d]at h;simp only[Res.nextLe]at h ⊢;omega
  |panic v b=>rw[d]at h;simp only[Res.nextLe]at h ⊢;omega
  |stuck=>trivial
 ·exact zr
theorem zaC{e:TypeId}{inf:TypeInfo}{base:Option Addr}{sLen cap n:Nat}{new:List Value}:(qe e inf base sLen cap n new s).nextLe s:=by
 unfold qe
 split
 ·split
  ·rename_i b off
   split
   ·rename_i nx s' a
    have:=XD (s:=s) (b:=b) (off:=off+sLen*inf.size) (vs:=new)
    rw[a]at this
    exact this
   ·exact zr
  ·split
   ·exact yH
   ·exact zr
 ·split
  ·exact zeu
  ·exact zr
theorem zaD{ts:List TypeId}{args:List Value}:(y9 P ts args s).nextLe s:=by
 unfold y9
 (repeat' split)<;>first|exact zr|exact zaC
theorem XC{b off:Nat}{vs:List Value}{n:Next}{s':St}(h:xq b off vs s=.ok n s'):s'.next=s.next:=by
 unfold xq at h
 (repeat' split at h)<;>cases h
 all_goals rfl
theorem zeS{ts:List TypeId}{args:List Value}:(X4 P ts args s).nextLe s:=by
 unfold X4
 repeat' split
 all_goals first
  |exact zr
  |(rename_i a;exact Nat.le_of_eq (XC a).symm)
theorem VR{b:Builtin}{ts:List TypeId}{args:List Value}:(xl P b ts args s).nextLe s:=by
 unfold xl
 split
 ·exact zaD
 ·unfold capM;(repeat' split)<;>first|exact zr|exact yH
 ·unfold KV;(repeat' split)<;>first|exact zr|exact yH
 ·unfold minM;(repeat' split)<;>first|exact zr|exact yH
 ·unfold maxM;(repeat' split)<;>first|exact zr|exact yH
 ·exact zeS
 ·unfold ZP;(repeat' split)<;>first|exact zr|exact yH|(rename_i a;exact Nat.le_of_eq (XC a).symm)
 ·exact zr
theorem QY(ρ:Operand→Value)(o:Op):(zh P ρ o s).nextLe s:=by
 cases o with
 |move x=>exact yH
 |assign x=>exact yH
 |pick c a b=>simp only[zh];unfold Yr;(repeat' split)<;>first|exact zr|exact yH
 |load t a=>simp only[zh];unfold uy;(repeat' split)<;>first|exact zr|exact yH
 |store t a v=>simp only[zh];unfold YZ;(repeat' split)<;>first|exact zr|exact XD
 |box e x=>exact Je
 |alloc e=>simp only[zh];unfold wR gu;(repeat' split)<;>first|exact zr|exact Je
 |fieldAddr t x f=>simp only[zh];unfold jf;(repeat' split)<;>first|exact zr|exact yH
 |indexAddr t x i=>simp only[zh];unfold kS xk;(repeat' split)<;>first|exact zr|exact yH
 |binOp op t x y yt=>simp only[zh];unfold qM;(repeat' split)<;>first|exact intM_next|exact uS _ _|exact eqM_next
 |unOp op t x=>simp only[zh];unfold unM;(repeat' split)<;>first|exact zr|exact yH|exact uS _ _
 |extract x i=>simp only[zh];unfold vz;(repeat' split)<;>first|exact zr|exact yH
 |nilCheck x=>simp only[zh];unfold KH;(repeat' split)<;>first|exact zr|exact yH
 |sliceToArrayPointer t x=>simp only[zh];unfold arrM;(repeat' split)<;>first|exact zr|exact yH
 |convert src dst x=>simp only[zh];unfold vA;(repeat' split)<;>first|exact zr|exact yH
 |makeFunc fn f c=>simp only[zh];(repeat' split)<;>first|exact zr|exact yH
 |slice t x lo hi mx=>simp only[zh];unfold qg;(repeat' split)<;>first|exact zr|exact zbj
 |field t x f=>simp only[zh];unfold ZJ;(repeat' split)<;>first|exact zr|exact yH
 |index t x i=>simp only[zh];unfold wy;(repeat' split)<;>first|exact zr|exact yH
 |call c=>
  simp only[zh]
  split
  ·unfold jF;(repeat' split)<;>first|exact zr|exact aM _
  ·exact VR
  ·exact zr
 |build t parts=>simp only[zh];unfold wG;(repeat' split)<;>first|exact zr|exact yH
 |buildSlice t len parts=>simp only[zh];unfold qJ;(repeat' split)<;>first|exact zr|exact WD
 |makeSlice t l c=>simp only[zh];unfold qL;(repeat' split)<;>first|exact zr|exact WD
 |_=>exact zr
end
structure FRel(P:Program)(β:Ren)(a:Fr)(a':Act):Prop where
 size:a'.tmps.size=a.size
 small:a.size≤65534
 get:∀t,VRel P β (a.get t) (a'.tmps.getD t undef)
section
variable{P:Program}{β:Ren}
theorem FRel.mono{β':Ren}(hb:β.le β'){a:Fr}{a':Act}(h:FRel P β a a'):FRel P β' a a':=⟨h.size,h.small,fun t=>(h.get t).mono hb⟩
theorem wj:VRel P β undef undef:=.tuple .nil
theorem FRel.eval{a:Fr}{a':Act}(h:FRel P β a a'){x:Operand}(hx:kX x=true):VRel P β (a.eval x) (a'.eval x):=by
 cases x with
 |tmp t=>exact h.get t
 |const v=>exact Ks hx
 |global g=>simp[kX]at hx
 |func f=>exact .func .nil .nil rfl
theorem FRel.put{a:Fr}{a':Act}(h:FRel P β a a')(dst:Option Tmp){v v':Value}(hv:VRel P β v v'):FRel P β (a.put dst v) (a'.put dst v'):=by
 cases dst with
 |none=>exact h
 |some d=>
  change Nat at d
  unfold Fr.put Act.put
  simp only
  cases hd:Nat.blt d a.size with
  |true=>
   have hlt:d<a.size:=by simpa[Nat.blt_eq]using hd
   have c:=h.small
   refine⟨by simpa using h.size,c,fun t=>?_⟩
   have e1:({a with tmps:=a.tmps.put vJ d (some v)}:Fr).get t=if t=d then v else a.get t:=by
    unfold Fr.get
    rw[Tr.get_put vJ _ _ _ _ (by have:(2:Nat) ^ vJ=65536:=U;omega)]
    by_cases b:t=d<;>simp[b]
   simp only at e1 ⊢
   rw[e1]
   have hsz:=h.size
   by_cases b:t=d
   ·subst b
    rw[aG rfl]
    have:(a'.tmps.setIfInBounds t v').getD t undef=v':=by
     rw[bA,Array.getElem?_setIfInBounds_self_of_lt O]
     rfl
    rw[this];exact hv
   ·rw[aE b]
    have:(a'.tmps.setIfInBounds d v').getD t undef=a'.tmps.getD t undef:=by
     rw[bA,bA,Array.getElem?_setIfInBounds_ne (Ne.symm b)]
    rw[this];exact h.get t
  |false=>
   have hge:¬d<a.size:=by
    intro e
    have:Nat.blt d a.size=true:=by simpa[Nat.blt_eq]using e
    rw[this]at hd;cases hd
   refine⟨by simpa using h.size,h.small,fun t=>?_⟩
   have hsz:=h.size
   have:a'.tmps.setIfInBounds d v'=a'.tmps:=Array.setIfInBounds_eq_of_size_le O
   rw[this];exact h.get t
theorem gQ:∀(l:List Value) (n:Nat) (t:Tr Value) (i:Nat),n+l.length≤65534→(YF l n t).get i=if n≤i∧i<n+l.length then l[i-n]? else t.get i
 | [],n,t,i,h=>by simp[YF];omega
 |v::l,n,t,i,h=>by
  simp only[aV]at h
  rw[YF,gQ l (n+1) _ i O]
  rw[Tr.get_put vJ _ _ _ _ (by have:(2:Nat) ^ vJ=65536:=U;omega)]
  simp only[aV]
  by_cases h1:n+1≤i∧i<n+1+l.length
  ·rw[aG h1,aG O,show i-n=(i-(n+1))+1 by omega]
   simp
  ·rw[aE h1]
   by_cases h2:i=n
   ·subst h2
    rw[aG rfl,aG O]
    simp
   ·rw[aE h2,aE O]
theorem FRel.make{args args':Array Value}{n:Nat}(ha:LRel P β args.toList args'.toList)(h1:args.toList.length≤n)(h2:n≤65534) :
 FRel P β (Fr.make args n) {tmps:=args'++Array.replicate (n-args'.size) undef,defers:=[]}:=by
 have hl:=ha.length
 rw[dV,dV]at hl
 rw[dV]at h1
 refine⟨by simp[Fr.make];omega,h2,fun t=>?_⟩
 have e1:(Fr.make args n).get t=if t<args.size then args.toList.getD t undef else undef:=by
  unfold Fr.get Fr.make
  simp only
  rw[gQ _ _ _ _ (by simpa using by omega)]
  by_cases a:t<args.size
  ·rw[aG ⟨cJ _,by simpa using a⟩,aG a]
   simp[a]
  ·rw[aE (by simp;omega),aE a]
   rfl
 rw[e1]
 by_cases a:t<args.size
 ·rw[aG a]
  obtain⟨v',b,c⟩:=ha.get (i:=t) (v:=args[t]) (by simp[a])
  have:(args'++Array.replicate (n-args'.size) undef).getD t undef=v':=by
   rw[bA,Array.getElem?_append_left O]
   rw[Array.getElem?_toList]at b
   rw[b];rfl
  rw[this]
  simpa[a]using c
 ·rw[aE a]
  have:(args'++Array.replicate (n-args'.size) undef).getD t undef=undef:=by
   rw[bA,Array.getElem?_append_right O]
   by_cases c:t-args'.size<n-args'.size
   ·simp[c]
   ·simp[c]
  rw[this];exact wj
theorem Fr.get_eq(a:Fr)(t:Nat):a.get t=(a.tmps.get t).getD undef:=by
 unfold Fr.get
 cases a.tmps.get t<;>rfl
theorem KE(g:Nat→Value):∀(n:Nat) (l:List Value),Ze g n l=(List.range n).map g++l
 |0,l=>by simp[Ze]
 |n+1,l=>by rw[Ze,KE g n,List.range_succ,List.map_append,bE];rfl
theorem Fr.norm_get{a:Fr}(h:a.size≤65534)(t:Nat):a.norm.get t=if t<a.size then a.get t else undef:=by
 unfold Fr.norm Fr.make
 rw[KE,bL]
 show(match (YF ((List.range a.size).map a.get) 0 .nil).get t with|some v=>v|none=>undef)=_
 rw[gQ _ _ _ _ (by simp;omega)]
 by_cases b:t<a.size
 ·rw[aG (by simp;omega),aG b]
  simp[b]
 ·rw[aE (by simp;omega),aE b]
  rfl
theorem FRel.norm{a:Fr}{a':Act}(h:FRel P β a a'):TRel P β a.norm a'.tmps:=by
 refine⟨h.size,h.small,fun t=>?_⟩
 rw[←Fr.get_eq,Fr.norm_get h.small]
 by_cases b:t<a.size
 ·rw[aG b];exact h.get t
 ·rw[aE b]
  have:a'.tmps.getD t undef=undef:=by
   rw[bA,cU (by have:=h.size;omega)]
   rfl
  rw[this];exact wj
theorem FRel.trel{a:Fr}{a':Act}(h:FRel P β a a'):TRel P β a a'.tmps:=⟨h.size,h.small,fun t=>by rw[←Fr.get_eq];exact h.get t⟩
theorem TRel.frel{a:Fr}{t':Array Value}(h:TRel P β a t')(b:List Deferred):FRel P β a {tmps:=t',defers:=b}:=⟨h.size,h.small,fun t=>by rw[Fr.get_eq];exact h.get t⟩
theorem wanted_eq{a:Fr}{a':Act}(h:FRel P β a a')(ops:Array Oper)(o:Oper):qa ops.toList a o=Region.wanted o (yielded ops a'.tmps):=by
 unfold qa Region.wanted
 split
 ·rename_i hg;rw[hg]
 ·rename_i j want hg
  rw[hg]
  simp only[yielded]
  rw[zG]
  cases c:ops[j]? with
  |none=>
   have:ops.toList[j]? = none:=by simpa using c
   rw[this]
   simp
  |some q=>
   have:ops.toList[j]? = some q:=by simpa using c
   rw[this]
   simp only[aA]
   cases hd:q.dst with
   |none=>simp
   |some d=>
    simp only[aA]
    have hg:=h.get d
    cases e:a'.tmps[d]? with
    |none=>
     rw[bA,e]at hg
     simp only[Option.getD_none]at hg
     have:∀b,a.get d≠.bool b:=fun b hb=>by rw[hb]at hg;cases hg
     cases hv:a.get d<;>first|rfl|exact(this _ hv).elim
    |some v=>
     rw[bA,e]at hg
     simp only[bJ]at hg
     generalize a.get d=u at hg
     cases hg<;>first|rfl|(cases want<;>rename_i b<;>cases b<;>rfl)
end
end Go.M
