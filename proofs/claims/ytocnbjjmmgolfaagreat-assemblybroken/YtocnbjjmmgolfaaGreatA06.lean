/- The other operations of the abstract machine. -/
import Derived.Test.YtocnbjjmmgolfaaGreatA05
import Derived.RangeFuncRecord
import Derived.Laws.BytesString
set_option linter.unusedSimpArgs false
set_option linter.unusedVariables false
set_option linter.unusedSectionVars false
namespace Go.M
section
variable{P:Program}{β:aS}{s:St}{w:World}
theorem J3{argTypes:Array TypeId}{t:TypeId}{l:List TypeId}(h:argTypes.toList=t::l):argTypes[0]? = some t:=by
 rw[<-Array.getElem?_toList,h];rfl
theorem iU(h:bh P β s w){argTypes:Array TypeId}{args args':List Value}(ha:bc P β args args')(ty:TypeId) :
 c8 P β s w (nU P argTypes.toList args s) ((ya (Builtin.cap_ argTypes ty ⟨args'⟩)).run P w):=by
 unfold nU
 split
 .rename_i t rest a len c b
  have h0:=J3 b
  cases ha with
  | @cons _ y' _ _ f ha=>
  cases ha
  split
  .rename_i e hu hc
   have key:∀(a':Option Addr) (d c':Nat),(ya (Builtin.cap_ argTypes ty ⟨[.slice a' d c']⟩)).run P w=.ok (.value (.int .i64 (c':Int))) w:=by
    intro a' d c'
    refine z4 ?_
    simp[Builtin.cap_,h0,run_underlying hu,goInt]
   cases f with
   |snil=>exact .value h (.int _ _) (key _ _ _)
   | @sknown _ _ _ c' _ hb=>
    have:2*c' / 2=c':=by omega
    rw[this]
    exact .value h (.int _ _) (key _ _ _)
   |szero hb=>exact .value h (.int _ _) (key _ _ _)
   |sgrown hb _ _=>omega
   |sempty hb _=>omega
  .exact .stuck
 .exact .stuck
theorem lL(h:bh P β s w){argTypes:Array TypeId}{args args':List Value}(ha:bc P β args args')(ty:TypeId) :
 c8 P β s w (Vk P argTypes.toList args s) ((ya (Builtin.len_ argTypes ty ⟨args'⟩)).run P w):=by
 unfold Vk
 split
 .rename_i t rest x d
  have h0:=J3 d
  cases ha with
  | @cons _ y' _ _ f ha=>
  cases ha
  split
  .rename_i e a n c hu
   have key:∀(a':Option Addr) (c':Nat),(ya (Builtin.len_ argTypes ty ⟨[.slice a' n c']⟩)).run P w=.ok (.value (.int .i64 (n:Int))) w:=λa' c'=>
    z4 V0
   cases f<;>exact .value h (.int _ _) (key _ _)
  .rename_i b hu
   cases f
   exact .value h (.int _ _) (z4 V0)
  .rename_i n e hu
   exact .value h (.int _ _) (z4 V0)
  .rename_i k e hu
   cases f
   exact .value h (.int _ _) (z4 V0)
  .rename_i k e r hu
   cases f with
   |mref hb=>
    split
    .rename_i es c hg
     obtain⟨o',ho,g⟩:=h.obj _ _ _ hb (h.lt hg) hg
     cases g with
     |map hlen he=>
      refine .value h (.int _ _) (z4 ?_)
      simp[Builtin.len_,h0,run_underlying hu,goInt,getObj,Sem.run,ho,hlen]
    .exact .stuck
  .exact .stuck
 .exact .stuck
theorem lZ(h:bh P β s w){argTypes:Array TypeId}{args args':List Value}(ha:bc P β args args')(ty:TypeId) :
 c8 P β s w (lW args s) ((ya (Builtin.min_ argTypes ty ⟨args'⟩)).run P w):=by
 unfold lW
 split
 .rename_i k x k' y
  cases ha with
  | @cons _ _ _ _ hx ha=>cases ha with
   | @cons _ _ _ _ b ha=>
    cases ha;cases hx;cases b
    refine .value h (.int _ _) (z4 ?_)
    simp only[Builtin.min_,List.foldlM,Builtin.min2,zfg]
    by_cases a:x<=y
    .have:¬y<x:=by omega
     simp[a,this]
    .have:y<x:=by omega
     simp[a,this]
 .exact .stuck
theorem lV(h:bh P β s w){argTypes:Array TypeId}{args args':List Value}(ha:bc P β args args')(ty:TypeId) :
 c8 P β s w (lU args s) ((ya (Builtin.max_ argTypes ty ⟨args'⟩)).run P w):=by
 unfold lU
 split
 .rename_i k x k' y
  cases ha with
  | @cons _ _ _ _ hx ha=>cases ha with
   | @cons _ _ _ _ b ha=>
    cases ha;cases hx;cases b
    refine .value h (.int _ _) (z4 ?_)
    simp only[Builtin.max_,List.foldlM,Builtin.max2,zfg]
    by_cases a:y<=x
    .have:¬y>x:=by omega
     simp[a,this]
    .have:y>x:=by omega
     simp[a,this]
 .exact .stuck
theorem zfF(h:bh P β s w){argTypes:Array TypeId}{args args':List Value}(ha:bc P β args args')(ty:TypeId) :
 c8 P β s w (Qo P argTypes.toList args s) ((ya (Builtin.copy_ argTypes ty ⟨args'⟩)).run P w):=by
 unfold Qo
 split
 .rename_i dType rest base d dCap src j
  have h0:=J3 j
  cases ha with
  | @cons _ y' _ _ v ha=>cases ha with
   | @cons _ o _ _ hx ha=>
    cases ha
    split
    .rename_i e hu
     split
     .rename_i inf n hi hlen
      obtain⟨g1,g2⟩:=Vj (P:=P) hx hlen
      split
      .rename_i new g
       obtain⟨r,u,t⟩:=uq h hx g (λa len cap e=>by
        have:=g2 a len cap e
        have:=Nat.min_le_left n d
        show Nat.min n d<=len
        exact bK this O)
       split
       .rename_i b off
        split
        .rename_i nx s₁ p
         intro _
         have key:∀(m:dm) (o' f:Nat) (w':World),(storeCells ⟨m.blk,o',none⟩ r).run P w=.ok () w' ->
          (ya (Builtin.copy_ argTypes ty ⟨[.slice (some ⟨m.blk,o',none⟩) d f,o]⟩)).run P w=.ok (.value (.int .i64 ((Nat.min n d:Nat):Int))) w':=λm o' f w' hs=>
          z4 (by simp[Builtin.copy_,h0,run_underlying hu,g1,yc hi,u,hs,goInt])
         have zero:∀(m:dm) (o' f:Nat),β b=some m->d=0->∃w',(ya (Builtin.copy_ argTypes ty ⟨[.slice (some ⟨m.blk,o',none⟩) d f,o]⟩)).run P w=.ok (.value (.int .i64 ((Nat.min n d:Nat):Int))) w'/\bp P β s w β s₁ w':=by
          intro m o' f hb x
          have q:Nat.min n d=0:=by rw[x];exact Nat.min_zero n
          have hl:new=[]:=by
           cases src with
           |slice a l c=>
            apply dL
            have hx':=hx
            rw[vU g (λ_=>q),q,eF]
           |_=>first|(simp[FU]at hlen;done)|simp[xM]at g
          subst hl
          cases t
          obtain⟨_,w',i,k⟩:=xh h hb .nil p
          have:w'=w:=by
           have:(storeCells ⟨m.blk,off+m.sh,none⟩ []).run P w=.ok () w:=rfl
           rw[this]at i;cases i;rfl
          subst this
          exact⟨w',key m o' f w' rfl,k⟩
         cases v with
         |sknown hb=>
          obtain⟨_,w',i,k⟩:=xh h hb t p
          exact⟨β,w',_,key _ _ _ w' i,k,_,rfl,.int _ _⟩
         |sgrown hb _ _=>
          obtain⟨_,w',i,k⟩:=xh h hb t p
          exact⟨β,w',_,key _ _ _ w' i,k,_,rfl,.int _ _⟩
         |sempty hb _=>
          obtain⟨w',i,k⟩:=zero _ _ _ hb rfl
          exact⟨β,w',_,i,k,_,rfl,.int _ _⟩
         |szero hb=>
          obtain⟨w',i,k⟩:=zero _ _ _ hb rfl
          exact⟨β,w',_,i,k,_,rfl,.int _ _⟩
        .exact .stuck
       .exact .stuck
      .exact .stuck
     .exact .stuck
    .exact .stuck
 .exact .stuck
theorem QW{ρ ρ':Operand->Value}{l:List Operand}(h:∀x∈l,ao P β (ρ x) (ρ' x)):bc P β (qv ρ l) (l.map ρ'):=by
 induction l with
 |nil=>exact .nil
 |cons x l b=>exact .cons (h x Y8) (b λy a=>h y (by simp[a]))
theorem Zl{ρ:Operand->Value}(a:Array Operand):a.map ρ=⟨a.toList.map ρ⟩:=by apply Array.ext';simp
theorem VQ(h:bh P β s w){f o:Value}{args args':List Value}(hf:ao P β f o)(ha:bc P β args args') :
 c8 P β s w (jV P f args s) ((Deferred.ofValue o ⟨args'⟩ >>= λd=>invoke d.target d.args).run P w):=by
 unfold jV
 split
 .rename_i n first captured
  split
  .rename_i a
   cases hf with
   | @func _ f1 j c1 i h1 h2=>
    intro _
    refine⟨β,w,.enter n ⟨j++args'++i⟩,?_,bp.refl h,_,rfl,(h1.append ha).append h2⟩
    unfold xE at a
    split at a
    .rename_i fn p
     simp only[aF,bB]at a
     have hb:¬fn.body=none:=λc=>by simp[c]at a
     have l : ¬ fn.name = "runtime.NumGoroutine" := fun c => by simp [c] at a
     simp[Deferred.ofValue,invoke,callFunc,p,l,hb]
    .cases a
  .exact .stuck
 .rename_i b
  split
  .rename_i lp hg
   split
   .rename_i hlen
    cases hf with
    |func _ _ fl=>cases fl
    | @yield _ m hb=>
     intro _
     obtain⟨o',g,q⟩:=h.obj b m _ hb (h.lt hg) hg
     cases q with
     | @loop _ r hft hp hA hB hs hj=>
      refine⟨β,w,.round m.blk r.fn (u6 r ⟨args'⟩) r.assign r.body,?_,bp.refl h,m,r,⟨args'⟩,hb,g,rfl,ha⟩
      have k:=ha.length
      have e:=aK hlen
      simp only[yf,bM]at e
      have hsz:(⟨args'⟩:Array Value).size=r.params.size:=by
       show args'.length=_
       rw[k,e,<-hp,dY]
      have:=run_yield (P:=P) (args:=⟨args'⟩) g hsz
      simpa[Deferred.ofValue,invoke,u6]using this
   .exact .stuck
  .exact .stuck
 .exact .stuck
end
section
variable{P:Program}{β:aS}{s:St}{w:World}
theorem Ww(h:bh P β s w){src dst:TypeId}{x x':Value}(hx:ao P β x x'):c8 P β s w (vG P src dst x s) ((ya (convert src dst x')).run P w):=by
 unfold vG
 split
 .rename_i d k hs hd
  split
  .rename_i k' n
   cases hx
   exact .value h (.int _ _) (z4 (by simp[convert,run_underlying hs,run_underlying hd,Conv.intToInt]))
  .exact .stuck
 .exact .stuck
theorem VL{t:TypeId}{off:Nat}{c c':List Value}{v:Value}(hc:bc P β c c')(h:jv (z3 P t) off c=some v)(w:World) :
 ∃v',(part t ⟨c'⟩ off).run P w=.ok v' w/\ao P β v v':=by
 unfold jv at h
 split at h
 .rename_i hs
  rw[zN]at h
  obtain⟨v',h1,h2⟩:=hc.get h
  exact⟨v',by simp[part,XV hs,h1],h2⟩
 .rename_i n hs
  split at h
  .rename_i l hl
   cases h
   rw[y7,yR]at hl
   split at hl
   .cases hl
    refine⟨.agg ⟨(c'.drop off).take n⟩,?_,.agg ((hc.drop off).take n)⟩
    simp only[part,Sem.run_bind,YA hs,Result.andThen_ok,dQ,Sem.run_pure]
    congr 2
    apply Array.ext'
    simp[List.extract]
   .cases hl
  .cases h
 .cases h
theorem zaV(h:bh P β s w){t:TypeId}{x x':Value}{f:Nat}(hx:ao P β x x'):c8 P β s w (ZV P t x f s) ((ya (Instr.field t x' f)).run P w):=by
 unfold ZV
 split
 .rename_i cs fields hu
  split
  .rename_i fd a
   rw[zN]at a
   have b:fields[f]? = some fd:=by simpa using a
   split
   .rename_i v hv
    cases hx with
    |agg hl=>
     obtain⟨v',h1,h2⟩:=VL hl hv w
     exact .value h h2 (z4 (by simp[Instr.field,run_underlying hu,b,asAgg,h1]))
   .exact .stuck
  .exact .stuck
 .exact .stuck
theorem zaE(h:bh P β s w){t:TypeId}{x x' i j:Value}(hx:ao P β x x')(hi:ao P β i j):c8 P β s w (wK P t x i s) ((ya (Instr.index t x' j)).run P w):=by
 unfold wK
 split
 .rename_i k n
  cases hi
  split
  .rename_i cs len e hu
   split
   .rename_i inf a d
    have a:n<len:=by simpa[Nat.blt_eq]using a
    split
    .rename_i v hv
     cases hx with
     |agg hl=>
      obtain⟨v',h1,h2⟩:=VL hl hv w
      refine .value h h2 (z4 ?_)
      simp only[Instr.index,asIntOf,Sem.run_bind,Sem.run_pure,Result.andThen_ok,run_underlying hu]
      rw[aG (by constructor;exact Int.natCast_nonneg n;exact Int.ofNat_lt.2 a)]
      simp[yc d,h1]
    .exact .stuck
   .exact .stuck
  .rename_i b hu
   split
   .rename_i c hc
    cases hx
    refine .value h (.int _ _) (z4 ?_)
    rw[zN]at hc
    have hb:b[n]? = some c:=by
     rw[Array.getElem?_toList]at hc
     have a:n<b.data.size:=by
      rcases cP n b.data.size with g|g
      .exact g
      .rw[cV g]at hc;cases hc
     have f:n<b.size:=a
     rw[getElem?_pos b n f]
     rw[Array.getElem?_eq_getElem a]at hc
     exact hc
    simp[Instr.index,asIntOf,run_underlying hu,hb]
   .exact .stuck
  .exact .stuck
 .exact .stuck
theorem vj{t:TypeId}{z:List Value}(h:wl P t=some z):∃i v,P.info? t=some i/\i.zero=some v/\v.cells.toList=z/\v.cells.size=i.size/\z.all kq=true:=by
 unfold wl at h
 split at h
 .rename_i i hi
  split at h
  .rename_i v hv
   split at h
   .rename_i hb
    cases h
    simp only[aF]at hb
    have h2:=aK hb.2
    rw[yf]at h2
    refine⟨i,v,hi,hv,jT v,?_,hb.1⟩
    rw[<-dY,jT]
    omega
   .cases h
  .cases h
 .cases h
theorem Jr(off:Nat):∀(vs:List Value) (k:Nat) (c:Array Value),off+k+vs.length<=c.size ->
 ((vs.zipIdx k).foldl (λcs (p:Value×Nat)=>cs.setIfInBounds (off+p.2) p.1) c).toList=c.toList.take (off+k)++vs++c.toList.drop (off+k+vs.length)
 | [],k,c,h=>by simp
 |v::vs,k,c,h=>by
  simp only[List.zipIdx_cons,List.foldl_cons]
  simp only[aU]at h
  rw[Jr off vs (k+1) (c.setIfInBounds (off+k) v) (by simp;omega)]
  rw[Array.toList_setIfInBounds]
  have a:off+k<c.toList.length:=by simp;omega
  rw[show off+(k+1)=off+k+1 by omega]
  rw[List.take_set,List.drop_set_of_lt O]
  rw[List.take_succ_eq_append_getElem a]
  rw[List.set_append_right _ _ (by simp;omega)]
  have e1:off+k-(List.take (off+k) c.toList).length=0:=by simp;omega
  rw[e1]
  simp only[List.set_cons_zero,aU,bF,bY,cJ]
  rw[show off+k+1+vs.length=off+k+(vs.length+1)by omega]
theorem ur{place:Nat->Option (Nat×Nat)}{ρ ρ':Operand->Value}:∀(parts:List (Nat×Operand)) (c c' r:List Value),bc P β c c'->(∀p∈parts,ao P β (ρ p.2) (ρ' p.2)) ->
 qH place ρ parts c=some r->∃d,Instr.fill place ⟨c'⟩ (parts.map λp=>(p.1,ρ' p.2))=some ⟨d⟩/\bc P β r d
 | [],c,c',r,hc,_,h=>by
  simp only[qH,bH]at h
  subst h
  exact⟨c',rfl,hc⟩
 |(i,x)::rest,c,c',r,hc,hp,h=>by
  unfold qH at h
  split at h
  .rename_i off size f
   split at h
   .rename_i c₁ hsz a
    have hx:bc P β (yr (ρ x)) (ρ' x).cells.toList:=(hp (i,x) Y8).cells
    have hsz:=aK hsz
    rw[yf]at hsz
    obtain⟨hlen,rfl⟩:=Je _ _ _ _ a
    have e:=hx.length
    rw[dY]at e
    have hl2:=hc.length
    have e1:((ρ' x).cells.size≠size||off+(ρ' x).cells.size>(⟨c'⟩:Array Value).size)=false:=by
     have h1:(ρ' x).cells.size=size:=by omega
     have h2:¬off+(ρ' x).cells.size>c'.length:=by omega
     simp[h1]
     omega
    have b:=Jr off (ρ' x).cells.toList 0 ⟨c'⟩ (by simp;omega)
    obtain⟨d,g1,g2⟩:=ur rest (c.take off++yr (ρ x)++c.drop (off+(yr (ρ x)).length)) (c'.take off++(ρ' x).cells.toList++c'.drop (off+(ρ' x).cells.toList.length)) r
     (((hc.take off).append hx).append (by rw[hx.length];exact hc.drop _)) (λp g=>hp p (by simp[g])) h
    refine⟨d,?_,g2⟩
    rw[<-g1]
    simp only[List.map_cons,Instr.fill,f]
    rw[aD (by rw[e1];simp)]
    congr 1
    apply Array.ext'
    rw[<-Array.foldl_toList,Array.toList_zipIdx]
    simpa using b
   .cases h
  .cases h
theorem KB:∀(fields:List Field) (w:World),fields.all (λf=>(P.info? f.type).isSome)=true ->
 ∃l:List (Nat×Nat),(fields.mapM λf=>do pure (f.offset,<-sizeOf f.type):Sem (List (Nat×Nat))).run P w=.ok l w/\∀i p,jp P fields i=some p->l[i]? = some p
 | [],w,_=>⟨[],rfl,by simp[jp,zH]⟩
 |f::b,w,h=>by
  simp only[List.all_cons,aF]at h
  obtain⟨l,h1,h2⟩:=KB b w h.2
  obtain⟨inf,a⟩:=Option.isSome_iff_exists.1 h.1
  refine⟨(f.offset,inf.size)::l,?_,λi p hp=>?_⟩
  .simp only[List.mapM_cons,Sem.run_bind,yc a,Result.andThen_ok,Sem.run_pure,h1]
  .cases i with
   |zero=>simpa[jp,zH,a]using hp
   |succ i=>simpa using h2 i p (by simpa[jp,zH]using hp)
theorem Vw{place place':Nat->Option (Nat×Nat)}:∀(parts:List (Nat×Operand)) (ρ:Operand->Value) (c:List Value) (r:List Value),(∀i p,place i=some p->place' i=some p) ->
 qH place ρ parts c=some r->qH place' ρ parts c=some r
 | [],_,_,_,_,h=>h
 |(i,x)::rest,ρ,c,r,hp,h=>by
  unfold qH at h |-
  split at h
  .rename_i off size a
   rw[hp _ _ a]
   split at h
   .rename_i c₁ e1 e2
    simp only[e1,e2]
    exact Vw rest ρ _ r hp h
   .cases h
  .cases h
theorem zdG(h:bh P β s w){t:TypeId}{parts:Array (Nat×Operand)}{ρ ρ':Operand->Value}(hp:∀p∈parts.toList,ao P β (ρ p.2) (ρ' p.2)) :
 c8 P β s w (wT P t parts.toList ρ s) ((ya (Instr.build t (parts.map λ(i,x)=>(i,ρ' x)))).run P w):=by
 have b:(parts.map λ(i,x)=>(i,ρ' x)).toList=parts.toList.map λp=>(p.1,ρ' p.2):=by simp
 unfold wT
 split
 .rename_i z fields q hu
  split
  .rename_i c j a
   obtain⟨i,v,h1,h2,m,y,o⟩:=vj q
   obtain⟨l,g1,g2⟩:=KB fields.toList w j
   have d:=Vw _ _ _ _ (place':=λi=>(⟨l⟩:Array (Nat×Nat))[i]?) (λi p hp=>by simpa using g2 i p hp) a
   obtain⟨A,r,u⟩:=ur _ _ _ _ (ko o) hp d
   refine .value h (.agg u) (z4 ?_)
   have g:v.cells=⟨z⟩:=by apply Array.ext';rw[m]
   have hm:(fields.mapM λf=>do pure (f.offset,<-sizeOf f.type):Sem (Array (Nat×Nat))).run P w=.ok ⟨l⟩ w:=by
    rw[Array.mapM_eq_mapM_toList,Sem.run_map,g1]
    rfl
   simp only[Instr.build,Sem.run_bind,y6 h1 h2,Result.andThen_ok,run_underlying hu,hm,g,b,r,Sem.run_pure]
  .exact .stuck
 .rename_i z n e q hu
  split
  .rename_i inf k
   split
   .rename_i c a
    obtain⟨i,v,h1,h2,m,y,o⟩:=vj q
    obtain⟨A,r,u⟩:=ur _ _ _ _ (ko o) hp a
    refine .value h (.agg u) (z4 ?_)
    have g:v.cells=⟨z⟩:=by apply Array.ext';rw[m]
    simp only[Instr.build,Sem.run_bind,y6 h1 h2,Result.andThen_ok,run_underlying hu,yc k,g,b,r,Sem.run_pure]
   .exact .stuck
  .exact .stuck
 .exact .stuck
theorem jb(l:List Value):∀k,(ke l k).length=k*l.length
 |0=>by simp[ke]
 |k+1=>by simp[ke,jb l k,dM,Nat.add_comm]
theorem zci(l:List Value):∀(k i:Nat),i<k*l.length->(ke l k)[i]? = l[i % l.length]?
 |0,i,h=>by simp at h
 |k+1,i,h=>by
  simp only[ke]
  rw[List.getElem?_append]
  split
  .rename_i c
   rw[Nat.mod_eq_of_lt c]
  .rename_i hge
   rw[zci l k (i-l.length) (by rw[dM,eG]at h;omega)]
   congr 1
   exact(Nat.mod_eq_sub_mod (a:=i) (b:=l.length) O).symm
theorem zeD{z:Array Value}(n:Nat)(c:n*z.size≠0):((Array.range (n*z.size)).map λi=>z[i % z.size]!).toList=ke z.toList n:=by
 have a:0<z.size:=Nat.pos_of_ne_zero λe=>c (by rw[e];rfl)
 apply List.ext_getElem?
 intro i
 by_cases hi:i<n*z.size
 .rw[zci _ _ _ (by simpa using hi)]
  have b:i % z.size<z.size:=Nat.mod_lt _ a
  simp[hi,b]
 .rw[cU (by simp;omega),cU (by rw[jb];simpa using hi)]
theorem j7{l:List Value}(h:l.all kq=true):∀k,(ke l k).all kq=true
 |0=>rfl
 |k+1=>by simp[ke,h,j7 h k]
theorem K5(h:bh P β s w){e:TypeId}{c c':List Value}(hc:bc P β c c'){len cap:Nat}{d:Result Next}
 (f:d=.ok (.value (.slice (some ⟨w.heap.size,0,none⟩) len cap)) {w with heap:=w.heap.push (.cells ⟨c'⟩ e)}):c8 P β s w (newK e c len cap s) d:=by
 unfold newK
 split
 .rename_i a
  intro hf
  have b:=Vr hf
  have hx:=bp.row h a b (c:=c) (c':=⟨c'⟩) e (0,0) Y8 (λi v hv=>by
   obtain⟨v',g1,g2⟩:=hc.get hv
   exact⟨v',by simpa using g1,g2⟩)
  exact⟨_,_,_,f,hx,_,rfl,ao.sknown (m:=⟨w.heap.size,0,(⟨c'⟩:Array Value).size,e,false⟩) aS.add_self⟩
 .exact .stuck
theorem Q5{e:TypeId}{inf:TypeInfo}{z:List Value}(hi:P.info? e=some inf)(c:wl P e=some z)(n:Nat) :
 ∃v,inf.zero=some v/\(n*inf.size=0->((Array.range (n*inf.size)).map ((#[]:Array Value)[· % (#[]:Array Value).size]!))=⟨ke z n⟩) /\
  (n*inf.size≠0->((Array.range (n*inf.size)).map (v.cells[· % v.cells.size]!))=⟨ke z n⟩):=by
 obtain⟨i,v,h1,h2,a,b,h5⟩:=vj c
 rw[hi]at h1;cases h1
 refine⟨v,h2,λh0=>?_,λh0=>?_⟩
 .apply Array.ext'
  have:ke z n=[]:=by
   apply dL
   rw[jb,<-a,dY,b,h0]
  simp[h0,this]
 .apply Array.ext'
  rw[<-b]at h0 |-
  rw[zeD n h0,a]
theorem XM(h:bh P β s w){t:TypeId}{len:Nat}{parts:Array (Nat×Operand)}{ρ ρ':Operand->Value}(hp:∀p∈parts.toList,ao P β (ρ p.2) (ρ' p.2)) :
 c8 P β s w (qJ P t len parts.toList ρ s) ((ya (Instr.buildSlice t len (parts.map λ(i,x)=>(i,ρ' x)))).run P w):=by
 have b:(parts.map λ(i,x)=>(i,ρ' x)).toList=parts.toList.map λp=>(p.1,ρ' p.2):=by simp
 unfold qJ
 split
 .rename_i e hu
  split
  .rename_i inf z a g
   split
   .rename_i c hle f
    obtain⟨_,_,_,_,_,_,k⟩:=vj g
    obtain⟨v,q0,l,m⟩:=Q5 a g len
    obtain⟨r',j,n⟩:=ur _ _ _ _ (ko (j7 k len)) hp f
    refine K5 h n (z4 ?_)
    have d:¬len*inf.size>2 ^ 24:=by simp only[Nat.ble_eq]at hle;omega
    by_cases h0:len*inf.size=0
    .simp only[Instr.buildSlice,Sem.run_bind,run_underlying hu,Result.andThen_ok,yc a,d,cK]
     rw[aG h0]
     simp only[Sem.run_pure,Sem.run_bind,Result.andThen_ok,l h0,b,j]
     simp[newRow]
    .simp only[Instr.buildSlice,Sem.run_bind,run_underlying hu,Result.andThen_ok,yc a,d,cK]
     rw[aD h0]
     simp only[Sem.run_pure,Sem.run_bind,Result.andThen_ok,y6 a q0,m h0,b,j]
     simp[newRow]
   .exact .stuck
  .exact .stuck
 .exact .stuck
theorem QA(h:bh P β s w){t:TypeId}{l c g c':Value}(hl:ao P β l g)(hc:ao P β c c'):c8 P β s w (qL P t l c s) ((ya (Instr.makeSlice t g c')).run P w):=by
 unfold qL
 split
 .rename_i e hu
  split
  .rename_i inf z d f
   split
   .rename_i k a k' b
    split
    .rename_i hb
     simp only[aF,Nat.ble_eq]at hb
     cases hl;cases hc
     obtain⟨v,q0,j,m⟩:=Q5 d f b
     obtain⟨_,_,_,_,_,_,i⟩:=vj f
     refine K5 h (ko (j7 i b)) (z4 ?_)
     have hbs:b<=1073741824:=bK (Nat.le_mul_of_pos_right _ O) hb.2
     have n:IntKind.i64.wrap (a:Int)=a:=IntWalk.i64_in _ O
     have o:IntKind.i64.wrap (b:Int)=b:=IntWalk.i64_in _ O
     have hbb:b*inf.bytes<=1073741824:=bK (cI _ O) hb.2
     have c1:((decide ((b:Int)<0)||decide ((inf.bytes:Int)*(b:Int)>2 ^ 48))||decide ((a:Int)<0)||decide ((a:Int)>(b:Int)))=false:=by
      have h1:((b*inf.bytes:Nat):Int)<=1073741824:=by omega
      rw[Int.natCast_mul,Int.mul_comm]at h1
      simp only[Bool.or_eq_false_iff,bO]
      exact⟨⟨⟨by omega,by omega⟩,by omega⟩,by omega⟩
     simp only[Instr.makeSlice,Sem.run_bind,run_underlying hu,Result.andThen_ok,asInt,asIntOf,Sem.run_pure,qn d,eS,n,o,c1,aV,cK,run_askRoom,Int.toNat_natCast,yc d]
     by_cases h0:b*inf.size=0
     .rw[aG h0]
      simp only[Sem.run_pure,Sem.run_bind,Result.andThen_ok,j h0]
      simp[newRow]
     .rw[aD h0]
      simp only[Sem.run_pure,Sem.run_bind,Result.andThen_ok,y6 d q0,m h0]
      simp[newRow]
    .exact .stuck
   .exact .stuck
  .exact .stuck
 .exact .stuck
theorem mX{e:TypeId}{inf:TypeInfo}{z:List Value}(hi:P.info? e=some inf)(b:wl P e=some z)(n:Nat):∃v,inf.zero=some v/\(Builtin.zeroCells v.cells n).toList=ke z n:=by
 obtain⟨v,q0,q1,d⟩:=Q5 hi b n
 obtain⟨i,v2,h1,h2,c,a,h5⟩:=vj b
 rw[hi]at h1
 cases h1
 rw[q0]at h2
 cases h2
 refine⟨v,q0,?_⟩
 by_cases h0:n*inf.size=0
 .have hl:(ke z n).length=0:=by rw[jb,<-c,dY,a];exact h0
  rw[dL hl]
  apply dL
  rw[dY,uS,a]
  exact h0
 .have:=d h0
  unfold Builtin.zeroCells
  rw[<-a]at this
  rw[this]
theorem zdA(h:bh P β s w){argTypes:Array TypeId}{args args':List Value}(ha:bc P β args args')(ty:TypeId) :
 c8 P β s w (Z7 P argTypes.toList args s) ((ya (Builtin.clear_ argTypes ty ⟨args'⟩)).run P w):=by
 unfold Z7
 split
 .rename_i t rest base n cap d
  have h0:=J3 d
  cases ha with
  | @cons _ p _ _ l ha=>
   cases ha
   split
   .rename_i e hu
    split
    .have key:∀a c,p=.slice a 0 c->c8 P β s w (di (.tuple ⟨[]⟩) s) ((ya (Builtin.clear_ argTypes ty ⟨[p]⟩)).run P w):=λa c e=>by
      subst e
      refine .value h (.tuple .nil) (z4 ?_)
      cases a<;>simp[Builtin.clear_,h0,run_underlying hu]
     cases l<;>exact key _ _ rfl
    .rename_i k
     split
     .rename_i b off
      split
      .rename_i inf z g o
       split
       .rename_i nx s1 j
        obtain⟨v,q0,r⟩:=mX g o (k+1)
        obtain⟨_,_,_,_,_,_,q⟩:=vj o
        have i:=ko (P:=P) (β:=β) (j7 q (k+1))
        intro _
        have key:∀(m:dm) (f:Nat),β b=some m->∃w',(ya (Builtin.clear_ argTypes ty ⟨[.slice (some ⟨m.blk,off+m.sh,none⟩) (k+1) f]⟩)).run P w=.ok (.value (.tuple ⟨[]⟩)) w'/\bp P β s w β s1 w':=by
         intro m f hb
         obtain⟨_,w',u,x⟩:=xh h hb i j
         refine⟨w',z4 ?_,x⟩
         simp[Builtin.clear_,h0,run_underlying hu,y6 g q0,r,u]
        cases l with
        |sknown hb=>
         obtain⟨w',g1,g2⟩:=key _ _ hb
         exact⟨β,w',_,g1,g2,_,rfl,.tuple .nil⟩
        |sgrown hb _ _=>
         obtain⟨w',g1,g2⟩:=key _ _ hb
         exact⟨β,w',_,g1,g2,_,rfl,.tuple .nil⟩
       .exact .stuck
      .exact .stuck
     .exact .stuck
   .exact .stuck
 .exact .stuck
end
section
variable{P:Program}{β:aS}{s:St}{w:World}
theorem l7(h:bh P β s w){x x':Value}(hx:ao P β x x'){o:Oper}{ρ':Operand->Value}{y:Operand}(ho:o.op=.nilCheck y)(a:ρ' y=x'):c8 P β s w (K3 x s) ((execOp ρ' o).run P w):=by
 unfold K3
 split
 .cases hx with
  |ptr hb=>exact .value h (.ptr hb) (by simp[execOp,ho,a])
 .cases hx with
  |func h1 h2 fl=>exact .value h (.func h1 h2 fl) (by simp[execOp,ho,a])
 .exact .stuck
theorem iO(h:bh P β s w){t:TypeId}{x x':Value}(hx:ao P β x x'){o:Oper}{ρ':Operand->Value}{y:Operand}(ho:o.op=.sliceToArrayPointer t y)(a:ρ' y=x'):c8 P β s w (iN P t x s) ((execOp ρ' o).run P w):=by
 unfold iN
 split
 .rename_i n e b off len c hu
  split
  .rename_i hle
   have hle:=aR hle
   cases hx with
   |sknown hb=>exact .value h (.ptr hb) (by simp[execOp,ho,a,Instr.arrayAt,run_underlying hu,show ¬len<n+1 by omega])
   |sgrown hb hc hs=>exact .value h (.ptr hb) (by simp[execOp,ho,a,Instr.arrayAt,run_underlying hu,show ¬len<n+1 by omega])
   |sempty hb hs=>omega
   |szero hb=>omega
  .exact .stuck
 .exact .stuck
theorem Wz(h:bh P β s w){b:Builtin}{argTypes:Array TypeId}{args args':List Value}(ha:bc P β args args')(ty:TypeId)(consts:Array Bool) :
 c8 P β s w (xn P b argTypes.toList args s) ((builtin b argTypes ty consts ⟨args'⟩).run P w):=by
 cases b<;>first
  |exact zbo h ha ty
  |exact iU h ha ty
  |exact lL h ha ty
  |exact lZ h ha ty
  |exact lV h ha ty
  |exact zfF h ha ty
  |exact zdA h ha ty
  |exact .stuck
theorem zeu(h:bh P β s w){ρ ρ':Operand->Value}(o:Oper)(hρ:∀x∈o.op.operands.toList,ao P β (ρ x) (ρ' x)) :
 c8 P β s w (zj P ρ o.op s) ((execOp ρ' o).run P w):=by
 obtain⟨dst,op,type,pos,after,guard⟩:=o
 cases op with
 |move x=>exact .value h (hρ x Y5) rfl
 |assign x=>exact .value h (hρ x Y5) rfl
 |pick c a b=>exact zeH h (hρ c Y5) (hρ a Y5) (hρ b Y5)
 |load t a=>exact zeX h (hρ a Y5)
 |store t a v=>exact zbQ h (hρ a Y5) (hρ v Y5)
 |box e x=>exact JG h (hρ x Y5).cells
 |alloc e=>exact zdR h
 |fieldAddr t x f=>exact zdh h (hρ x Y5)
 |indexAddr t x i=>exact zcU h (hρ x Y5) (hρ i Y5)
 |binOp op t x y yt=>exact iQ h (hρ x Y5) (hρ y Y5) x y
 |unOp op t x=>exact su h (hρ x Y5)
 |extract x i=>exact Wv h (hρ x Y5)
 |nilCheck x=>exact l7 h (hρ x Y5) rfl rfl
 |sliceToArrayPointer t x=>exact iO h (hρ x Y5) rfl rfl
 |convert src dst x=>exact Ww h (hρ x Y5)
 |makeFunc fn first captured=>
  simp only[zj]
  split
  .exact .stuck
  next hk=>
  refine .value h (v':=.func fn ⟨first.toList.map ρ'⟩ ⟨captured.toList.map ρ'⟩) (.func (QW λx hx=>hρ x (by simp[Op.operands];exact .inl (by simpa using hx))) (QW λx hx=>hρ x (by simp[Op.operands];exact .inr (by simpa using hx))) (o4 hk _)) ?_
  show Result.ok (Next.value (Value.func fn (first.map ρ') (captured.map ρ'))) w=_
  rw[Zl,Zl]
 |slice t x lo hi mx=>
  have d:=ge (P:=P) (β:=β) (ρ:=ρ) (ρ':=ρ') (o:=lo) λx hx=>hρ x (by simp[Op.operands,hx])
  have g:=ge (P:=P) (β:=β) (ρ:=ρ) (ρ':=ρ') (o:=hi) λx hx=>hρ x (by simp[Op.operands,hx])
  have j:=ge (P:=P) (β:=β) (ρ:=ρ) (ρ':=ρ') (o:=mx) λx hx=>hρ x (by simp[Op.operands,hx])
  exact zbX h (hρ x Y5) d.1 d.2 g.1 g.2 j.1 j.2
 |field t x f=>exact zaV h (hρ x Y5)
 |index t x i=>exact zaE h (hρ x Y5) (hρ i Y5)
 |call c=>
  obtain⟨callee,args,argTypes⟩:=c
  cases callee with
  |value f=>
   have h1:=hρ f (by simp[Op.operands,Call.operands])
   have h2:bc P β (qv ρ args.toList) (args.toList.map ρ'):=QW λx hx=>hρ x (by simp[Op.operands,Call.operands];exact .inr (by simpa using hx))
   have:=VQ (s:=s) h h1 h2
   rw[<-Zl]at this
   exact this
  |builtin b=>
   have h2:bc P β (qv ρ args.toList) (args.toList.map ρ'):=QW λx hx=>hρ x (by simp[Op.operands,Call.operands];simpa using hx)
   have:=Wz (s:=s) h (b:=b) (argTypes:=argTypes) h2 type (args.map fun | .const _=>true|_=>false)
   rw[<-Zl]at this
   exact this
  |invoke r m=>exact .stuck
 |build t parts=>exact zdG h λp hp=>hρ p.2 V7
 |buildSlice t len parts=>exact XM h λp hp=>hρ p.2 V7
 |makeSlice t l c=>exact QA h (hρ l Y5) (hρ c Y5)
 |_=>exact .stuck
end
def cE.nextLe{α:Type}(s:St):cE α->Prop
 | .ok _ s'=>s.next<=s'.next
 | .panic _ s'=>s.next<=s'.next
 | .stuck=>True
def cg.nextLe(s:St):cg->Prop
 | .normal _ s' | .exit _ _ s' | .ret _ s' | .panic _ _ s'=>s.next<=s'.next
 | .stuck=>True
def aq.nextLe(s:St):aq->Prop
 | .ret _ s' | .panic _ s'=>s.next<=s'.next
 | .stuck=>True
section
variable{P:Program}{s:St}
theorem yG{v:Value}:(di v s).nextLe s:=aN _
theorem zw{α:Type}:(cE.stuck:cE α).nextLe s:=trivial
theorem uY{α b:Type}(f:α->b)(x:Sem α):((k6 P x s).map f).nextLe s:=by
 have h:=mr (P:=P) x s
 cases hx:k6 P x s with
 |ok a s'=>exact h.1 a s' hx
 |panic v s'=>exact h.2 v s' hx
 |stuck=>trivial
theorem XT{b off:Nat}{vs:List Value}:(xu b off vs s).nextLe s:=by
 unfold xu
 (repeat' split)<;>first|exact zw|exact aN _
theorem l3{e:TypeId}{c:List Value}{n:Nat}:(uP e c n s).nextLe s:=by
 unfold uP
 split
 .exact Nat.le_succ _
 .exact zw
theorem Ja{e:TypeId}{c:List Value}{n k:Nat}:(newK e c n k s).nextLe s:=by
 unfold newK
 split
 .exact Nat.le_succ _
 .exact zw
theorem JH{e:TypeId}{c:List Value}:(XN e c s).nextLe s:=by
 unfold XN
 split
 .exact Nat.le_succ _
 .exact zw
theorem zbY{sz:Nat}{a:Option Addr}{len c:Nat}{known:Bool}{lo hi mx:Option Value}:(xR sz a len c known lo hi mx s).nextLe s:=by
 unfold xR
 (repeat' split)<;>first|exact zw|exact yG
theorem oQ{op:BinOp}{t:TypeId}{x y:Value}:(tK P op t x y s).nextLe s:=by
 unfold tK
 (repeat' split)<;>first|exact zw|exact yG
theorem lH{op:BinOp}{t:TypeId}{k k':IntKind}{a b:Int}:(qU P op t k k' a b s).nextLe s:=by
 unfold qU
 (repeat' split)<;>first|exact yG|exact uY _ _
theorem zfi{e:TypeId}{a:Option Addr}{cap need:Nat}{c:List Value}:(Zv e a cap need c s).nextLe s:=by
 unfold Zv
 split
 .rename_i s' hk
  have:s'.next=s.next:=by
   unfold X8 at hk
   (repeat' split at hk)<;>cases hk<;>rfl
  have h:=l3 (s:=s') (e:=e) (c:=c) (n:=need)
  cases d:uP e c need s' with
  |ok a b=>rw[d]at h;simp only[cE.nextLe]at h |-;omega
  |panic v b=>rw[d]at h;simp only[cE.nextLe]at h |-;omega
  |stuck=>trivial
 .exact zw
theorem zbp{e:TypeId}{inf:TypeInfo}{base:Option Addr}{a cap n:Nat}{new:List Value}:(qc e inf base a cap n new s).nextLe s:=by
 unfold qc
 split
 .split
  .rename_i b off
   split
   .rename_i nx s' c
    have:=XT (s:=s) (b:=b) (off:=off+a*inf.size) (vs:=new)
    rw[c]at this
    exact this
   .exact zw
  .split
   .exact yG
   .exact zw
 .split
  .exact zfi
  .exact zw
theorem zbq{ts:List TypeId}{args:List Value}:(xe P ts args s).nextLe s:=by
 unfold xe
 (repeat' split)<;>first|exact zw|exact zbp
theorem XS{b off:Nat}{vs:List Value}{n:Next}{s':St}(h:xu b off vs s=.ok n s'):s'.next=s.next:=by
 unfold xu at h
 (repeat' split at h)<;>cases h
 all_goals rfl
theorem zfG{ts:List TypeId}{args:List Value}:(Qo P ts args s).nextLe s:=by
 unfold Qo
 repeat' split
 all_goals first
  |exact zw
  |(rename_i a;exact Nat.le_of_eq (XS a).symm)
theorem WA{b:Builtin}{ts:List TypeId}{args:List Value}:(xn P b ts args s).nextLe s:=by
 unfold xn
 split
 .exact zbq
 .unfold nU;(repeat' split)<;>first|exact zw|exact yG
 .unfold Vk;(repeat' split)<;>first|exact zw|exact yG
 .unfold lW;(repeat' split)<;>first|exact zw|exact yG
 .unfold lU;(repeat' split)<;>first|exact zw|exact yG
 .exact zfG
 .unfold Z7;(repeat' split)<;>first|exact zw|exact yG|(rename_i a;exact Nat.le_of_eq (XS a).symm)
 .exact zw
theorem Kt(ρ:Operand->Value)(o:Op):(zj P ρ o s).nextLe s:=by
 cases o with
 |move x=>exact yG
 |assign x=>exact yG
 |pick c a b=>simp only[zj];unfold YE;(repeat' split)<;>first|exact zw|exact yG
 |load t a=>simp only[zj];unfold uI;(repeat' split)<;>first|exact zw|exact yG
 |store t a v=>simp only[zj];unfold Xl;(repeat' split)<;>first|exact zw|exact XT
 |box e x=>exact JH
 |alloc e=>simp only[zj];unfold jh gJ;(repeat' split)<;>first|exact zw|exact JH
 |fieldAddr t x f=>simp only[zj];unfold ju;(repeat' split)<;>first|exact zw|exact yG
 |indexAddr t x i=>simp only[zj];unfold kS xl;(repeat' split)<;>first|exact zw|exact yG
 |binOp op t x y yt=>simp only[zj];unfold qM;(repeat' split)<;>first|exact lH|exact uY _ _|exact oQ
 |unOp op t x=>simp only[zj];unfold BS;(repeat' split)<;>first|exact zw|exact yG|exact uY _ _
 |extract x i=>simp only[zj];unfold vF;(repeat' split)<;>first|exact zw|exact yG
 |nilCheck x=>simp only[zj];unfold K3;(repeat' split)<;>first|exact zw|exact yG
 |sliceToArrayPointer t x=>simp only[zj];unfold iN;(repeat' split)<;>first|exact zw|exact yG
 |convert src dst x=>simp only[zj];unfold vG;(repeat' split)<;>first|exact zw|exact yG
 |makeFunc fn f c=>simp only[zj];(repeat' split)<;>first|exact zw|exact yG
 |slice t x lo hi mx=>simp only[zj];unfold qf;(repeat' split)<;>first|exact zw|exact zbY
 |field t x f=>simp only[zj];unfold ZV;(repeat' split)<;>first|exact zw|exact yG
 |index t x i=>simp only[zj];unfold wK;(repeat' split)<;>first|exact zw|exact yG
 |call c=>
  simp only[zj]
  split
  .unfold jV;(repeat' split)<;>first|exact zw|exact aN _
  .exact WA
  .exact zw
 |build t parts=>simp only[zj];unfold wT;(repeat' split)<;>first|exact zw|exact yG
 |buildSlice t len parts=>simp only[zj];unfold qJ;(repeat' split)<;>first|exact zw|exact Ja
 |makeSlice t l c=>simp only[zj];unfold qL;(repeat' split)<;>first|exact zw|exact Ja
 |_=>exact zw
end
structure cv(P:Program)(β:aS)(a:Fr)(a':Act):Prop where
 size:a'.tmps.size=a.size
 small:a.size<=65534
 get:∀t,ao P β (a.get t) (a'.tmps.getD t undef)
section
variable{P:Program}{β:aS}
theorem cv.mono{β':aS}(hb:β.le β'){a:Fr}{a':Act}(h:cv P β a a'):cv P β' a a':=⟨h.size,h.small,λt=>(h.get t).mono hb⟩
theorem wy:ao P β undef undef:=.tuple .nil
theorem cv.eval{a:Fr}{a':Act}(h:cv P β a a'){x:Operand}(hx:k8 x=true):ao P β (a.eval x) (a'.eval x):=by
 cases x with
 |tmp t=>exact h.get t
 |const v=>exact KO hx
 |global g=>simp[k8]at hx
 |func f=>exact .func .nil .nil rfl
theorem cv.put{a:Fr}{a':Act}(h:cv P β a a')(dst:Option Tmp){v v':Value}(hv:ao P β v v'):cv P β (a.put dst v) (a'.put dst v'):=by
 cases dst with
 |none=>exact h
 |some d=>
  change Nat at d
  unfold Fr.put Act.put
  simp only
  cases hd:Nat.blt d a.size with
  |true=>
   have hlt:d<a.size:=by simpa[Nat.blt_eq]using hd
   have c:=h.small
   refine⟨by simpa using h.size,c,λt=>?_⟩
   have e1:({a with tmps:=a.tmps.put vR d (some v)}:Fr).get t=if t=d then v else a.get t:=by
    unfold Fr.get
    rw[Tr.get_put vR _ _ _ _ (by have:(2:Nat) ^ vR=65536:=U;omega)]
    by_cases b:t=d<;>simp[b]
   simp only at e1 |-
   rw[e1]
   have hsz:=h.size
   by_cases b:t=d
   .subst b
    rw[aG rfl]
    have:(a'.tmps.setIfInBounds t v').getD t undef=v':=by
     rw[bD,Array.getElem?_setIfInBounds_self_of_lt O]
     rfl
    rw[this];exact hv
   .rw[aD b]
    have:(a'.tmps.setIfInBounds d v').getD t undef=a'.tmps.getD t undef:=by
     rw[bD,bD,Array.getElem?_setIfInBounds_ne (Ne.symm b)]
    rw[this];exact h.get t
  |false=>
   have hge:¬d<a.size:=by
    intro e
    have:Nat.blt d a.size=true:=by simpa[Nat.blt_eq]using e
    rw[this]at hd;cases hd
   refine⟨by simpa using h.size,h.small,λt=>?_⟩
   have hsz:=h.size
   have:a'.tmps.setIfInBounds d v'=a'.tmps:=Array.setIfInBounds_eq_of_size_le O
   rw[this];exact h.get t
theorem Zj:∀(l:List Value) (n:Nat) (t:Tr Value) (i:Nat),n+l.length<=65534->(YT l n t).get i=if n<=i/\i<n+l.length then l[i-n]? else t.get i
 | [],n,t,i,h=>by simp[YT];omega
 |v::l,n,t,i,h=>by
  simp only[aU]at h
  rw[YT,Zj l (n+1) _ i O]
  rw[Tr.get_put vR _ _ _ _ (by have:(2:Nat) ^ vR=65536:=U;omega)]
  simp only[aU]
  by_cases h1:n+1<=i/\i<n+1+l.length
  .rw[aG h1,aG O,show i-n=(i-(n+1))+1 by omega]
   simp
  .rw[aD h1]
   by_cases h2:i=n
   .subst h2
    rw[aG rfl,aG O]
    simp
   .rw[aD h2,aD O]
theorem cv.make{args args':Array Value}{n:Nat}(ha:bc P β args.toList args'.toList)(h1:args.toList.length<=n)(h2:n<=65534) :
 cv P β (Fr.make args n) {tmps:=args'++Array.replicate (n-args'.size) undef,defers:=[]}:=by
 have hl:=ha.length
 rw[dY,dY]at hl
 rw[dY]at h1
 refine⟨by simp[Fr.make];omega,h2,λt=>?_⟩
 have e1:(Fr.make args n).get t=if t<args.size then args.toList.getD t undef else undef:=by
  unfold Fr.get Fr.make
  simp only
  rw[Zj _ _ _ _ (by simpa using by omega)]
  by_cases a:t<args.size
  .rw[aG ⟨cH _,by simpa using a⟩,aG a]
   simp[a]
  .rw[aD (by simp;omega),aD a]
   rfl
 rw[e1]
 by_cases a:t<args.size
 .rw[aG a]
  obtain⟨v',b,c⟩:=ha.get (i:=t) (v:=args[t]) (by simp[a])
  have:(args'++Array.replicate (n-args'.size) undef).getD t undef=v':=by
   rw[bD,Array.getElem?_append_left O]
   rw[Array.getElem?_toList]at b
   rw[b];rfl
  rw[this]
  simpa[a]using c
 .rw[aD a]
  have:(args'++Array.replicate (n-args'.size) undef).getD t undef=undef:=by
   rw[bD,Array.getElem?_append_right O]
   by_cases c:t-args'.size<n-args'.size
   .simp[c]
   .simp[c]
  rw[this];exact wy
theorem Fr.get_eq(a:Fr)(t:Nat):a.get t=(a.tmps.get t).getD undef:=by
 unfold Fr.get
 cases a.tmps.get t<;>rfl
theorem K0(g:Nat->Value):∀(n:Nat) (l:List Value),Zu g n l=(List.range n).map g++l
 |0,l=>by simp[Zu]
 |n+1,l=>by rw[Zu,K0 g n,List.range_succ,List.map_append,bF];rfl
theorem Fr.norm_get{a:Fr}(h:a.size<=65534)(t:Nat):a.norm.get t=if t<a.size then a.get t else undef:=by
 unfold Fr.norm Fr.make
 rw[K0,bP]
 show(match (YT ((List.range a.size).map a.get) 0 .nil).get t with|some v=>v|none=>undef)=_
 rw[Zj _ _ _ _ (by simp;omega)]
 by_cases b:t<a.size
 .rw[aG (by simp;omega),aG b]
  simp[b]
 .rw[aD (by simp;omega),aD b]
  rfl
theorem cv.norm{a:Fr}{a':Act}(h:cv P β a a'):fN P β a.norm a'.tmps:=by
 refine⟨h.size,h.small,λt=>?_⟩
 rw[<-Fr.get_eq,Fr.norm_get h.small]
 by_cases b:t<a.size
 .rw[aG b];exact h.get t
 .rw[aD b]
  have:a'.tmps.getD t undef=undef:=by
   rw[bD,cV (by have:=h.size;omega)]
   rfl
  rw[this];exact wy
theorem cv.trel{a:Fr}{a':Act}(h:cv P β a a'):fN P β a a'.tmps:=⟨h.size,h.small,λt=>by rw[<-Fr.get_eq];exact h.get t⟩
theorem fN.frel{a:Fr}{t':Array Value}(h:fN P β a t')(b:List Deferred):cv P β a {tmps:=t',defers:=b}:=⟨h.size,h.small,λt=>by rw[Fr.get_eq];exact h.get t⟩
theorem mG{a:Fr}{a':Act}(h:cv P β a a')(ops:Array Oper)(o:Oper):xZ ops.toList a o=Region.wanted o (yielded ops a'.tmps):=by
 unfold xZ Region.wanted
 split
 .rename_i hg;rw[hg]
 .rename_i j want hg
  rw[hg]
  simp only[yielded]
  rw[zN]
  cases c:ops[j]? with
  |none=>
   have:ops.toList[j]? = none:=by simpa using c
   rw[this]
   simp
  |some q=>
   have:ops.toList[j]? = some q:=by simpa using c
   rw[this]
   simp only[aA]
   cases hd:q.dst with
   |none=>simp
   |some d=>
    simp only[aA]
    have hg:=h.get d
    cases e:a'.tmps[d]? with
    |none=>
     rw[bD,e]at hg
     simp only[Option.getD_none]at hg
     have:∀b,a.get d≠.bool b:=λb hb=>by rw[hb]at hg;cases hg
     cases hv:a.get d<;>first|rfl|exact(this _ hv).elim
    |some v=>
     rw[bD,e]at hg
     simp only[bN]at hg
     generalize a.get d=u at hg
     cases hg<;>first|rfl|(cases want<;>rename_i b<;>cases b<;>rfl)
end
end Go.M
