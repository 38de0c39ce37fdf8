/- Each operation of the abstract machine stands for the model's own. -/
import Derived.Test.YtocnbjjmmgolfaaGreatA03
import Derived.Laws.IdiomCopy
import Derived.Laws.Append
import Derived.IntWalk
set_option linter.unusedSimpArgs false
set_option linter.unusedVariables false
set_option linter.unusedSectionVars false
namespace Go.M
def u6(r:Loop)(args:Array Value):Array Value:=(r.params.zip args).foldl (λtmps (t,a)=>tmps.setIfInBounds t a) r.tmps
def SQ(P:Program)(β:aS)(w:World)(n a:Next):Prop:=
 match n with
 | .value v=>∃v',a=.value v'/\ao P β v v'
 | .skip=>a=.skip
 | .enter f args=>∃args',a=.enter f args'/\bc P β args.toList args'.toList
 | .round b _ args _ _=>∃m r args',β b=some m/\w.heap[m.blk]? = some (.loop r)/\a=.round m.blk r.fn (u6 r args') r.assign r.body/\bc P β args.toList args'.toList
 |_=>False
def c8(P:Program)(β:aS)(s:St)(w:World)(r:cE Next)(b:Result Next):Prop:=
 match r with
 | .ok n s'=>cC β s s'->∃β' w' a,b=.ok a w'/\bp P β s w β' s' w'/\SQ P β' w' n a
 | .panic v s'=>cC β s s'->∃β' w' v',b=.halt (.panic v') w'/\bp P β s w β' s' w'/\ao P β' v v'
 | .stuck=>True
def ya(x:Sem Value):Sem Next:=x >>= λa=>pure (.value a)
section
variable{P:Program}{β:aS}{s:St}{w:World}
theorem z4{x:Sem Value}{v:Value}{w':World}(h:x.run P w=.ok v w'):(ya x).run P w=.ok (.value v) w':=by
 simp[ya,h]
theorem c8.value(h:bh P β s w){v v':Value}(hv:ao P β v v'){a:Result Next}(b:a=.ok (.value v') w):c8 P β s w (di v s) a:=
 λ_=>⟨β,w,.value v',b,bp.refl h,v',rfl,hv⟩
theorem c8.stuck{a:Result Next}:c8 P β s w .stuck a:=trivial
theorem qn{t:TypeId}{i:TypeInfo}(h:P.info? t=some i)(w:World):(typeInfo t).run P w=.ok i w:=by
 simp[typeInfo,h]
theorem yc{t:TypeId}{i:TypeInfo}(h:P.info? t=some i)(w:World):(sizeOf t).run P w=.ok i.size w:=by
 simp[sizeOf,qn h]
theorem y6{t:TypeId}{i:TypeInfo}{z:Value}(h:P.info? t=some i)(a:i.zero=some z)(w:World):(zeroValue t).run P w=.ok z w:=by
 simp[zeroValue,qn h,a]
theorem XV{t:TypeId}(h:z3 P t=some none)(w:World):(isAgg t).run P w=.ok false w:=by
 unfold z3 at h
 split at h<;>simp at h
 rename_i d i a b hu hi
 simp only[isAgg,Sem.run_bind,run_underlying hu,Result.andThen_ok]
 cases d<;>first|rfl|(exact(a _ rfl).elim)|(exact(b _ _ rfl).elim)
theorem YA{t:TypeId}{n:Nat}(h:z3 P t=some (some n))(w:World):(isAgg t).run P w=.ok true w/\(sizeOf t).run P w=.ok n w:=by
 unfold z3 at h
 split at h<;>simp at h
 .rename_i fs i hu hi
  exact⟨by simp[isAgg,run_underlying hu],by rw[yc hi,h]⟩
 .rename_i k e i hu hi
  exact⟨by simp[isAgg,run_underlying hu],by rw[yc hi,h]⟩
theorem kI(b off i:Nat):(⟨b,off,none⟩:Addr).add i=⟨b,off+i,none⟩:=by
 unfold Addr.add;split<;>simp_all
theorem bh.row(h:bh P β s w){b:Nat}{m:dm}{c:List Value}{e:TypeId}(hb:β b=some m)(hg:s.get b=some (.cells c e)) :
 e=m.elem/\∃c' g a,w.heap[m.blk]? = some (.cells c' g a)/\m.size<=c'.size/\((c.length=0\/c.length+m.sh<=m.size)/\∀i,m.sh<=i->i<m.size->¬(a.1<=i/\i<a.2)) /\
  ∀(i:Nat) (v:Value),c[i]? = some v->∃v',c'[i+m.sh]? = some v'/\ao P β v v':=by
 obtain⟨o',d,f⟩:=h.obj b m _ hb (h.lt hg) hg
 cases f with
 |cells he hsz hln hfz hc=>exact⟨he,_,_,_,d,hsz,⟨hln,hfz⟩,hc⟩
theorem rG{c:List Value}{c':Array Value}{sh:Nat}(hc:∀(i:Nat) (v:Value),c[i]? = some v->∃v',c'[i+sh]? = some v'/\ao P β v v')
 (off n:Nat) (hn:off+n<=c.length):∃a,bc P β ((c.drop off).take n) a/\a.length=n/\∀j v,a[j]? = some v->c'[off+j+sh]? = some v:=by
 induction n with
 |zero=>exact⟨[],by simp;exact .nil,rfl,by simp⟩
 |succ n k=>
  obtain⟨a,h1,h2,f⟩:=k O
  have b:off+n<c.length:=by omega
  obtain⟨v',d,h⟩:=hc (off+n) c[off+n] (by simp[b])
  refine⟨a++[v'],?_,by simp[h2],?_⟩
  .have e:(c.drop off).take (n+1)=(c.drop off).take n++[c[off+n]]:=by
    rw[List.take_succ_eq_append_getElem (by simp;omega)]
    simp
   rw[e]
   exact h1.append (.cons h .nil)
  .intro j v hj
   rw[List.getElem?_append]at hj
   split at hj
   .exact f j v hj
   .rename_i hge
    have:j=n:=by
     by_cases hjn:j-a.length=0
     .omega
     .obtain⟨q,g⟩:∃q,j-a.length=q+1:=⟨j-a.length-1,by omega⟩
      rw[g]at hj;simp at hj
    subst this
    simp[h2]at hj
    subst hj
    exact d
theorem wj(h:bh P β s w){b off n:Nat}{m:dm}{c:List Value}{e:TypeId}(hb:β b=some m)(hg:s.get b=some (.cells c e)){l:List Value}
 (hl:y8 n (xr off c)=some l):∃a,(loadCells ⟨m.blk,off+m.sh,none⟩ n).run P w=.ok ⟨a⟩ w/\bc P β l a:=by
 obtain⟨_,c',e',fz,ho,hsz,hfz,hc⟩:=h.row hb hg
 rw[y7,yR]at hl
 split at hl
 .rename_i hn
  cases hl
  by_cases f:n=0
  .subst f
   exact⟨[],by simp[loadCells,loadCellsFrom],by simp;exact .nil⟩
  obtain⟨a,h1,h2,d⟩:=rG hc off n (by simp at hn;omega)
  refine⟨a,?_,h1⟩
  have:=run_loadCells_list (P:=P) w ⟨m.blk,off+m.sh,none⟩ a (λj v hj=>by
   rw[kI]
   have:=d j v hj
   simp only[World.cell?,ho]
   rw[show off+m.sh+j=off+j+m.sh by omega]
   simpa using this)
  rw[h2]at this
  exact this
 .cases hl
theorem Wt(h:bh P β s w){b off:Nat}{m:dm}{c:List Value}{e t:TypeId}(hb:β b=some m)(hg:s.get b=some (.cells c e)){v:Value}
 (hv:jv (z3 P t) off c=some v):∃v',(loadVar t ⟨m.blk,off+m.sh,none⟩).run P w=.ok v' w/\ao P β v v':=by
 unfold jv at hv
 split at hv
 .rename_i hs
  obtain⟨_,c',e',fz,ho,hsz,hfz,hc⟩:=h.row hb hg
  rw[zN]at hv
  obtain⟨v',d,f⟩:=hc off v hv
  refine⟨v',?_,f⟩
  have a:w.cell? ⟨m.blk,off+m.sh,none⟩=some v':=by simp[World.cell?,ho,d]
  simp[loadVar,XV hs,a]
 .rename_i n hs
  split at hv
  .rename_i l hl
   cases hv
   obtain⟨g,h1,h2⟩:=wj h hb hg hl
   exact⟨.agg ⟨g⟩,by simp[loadVar,YA hs,h1],.agg h2⟩
  .cases hv
 .cases hv
theorem X6(h:bh P β s w){t:TypeId}{x x' v:Value}(hx:ao P β x x')(hv:wc P t x s=some v) :
 ∃a v',x'=.pointer (some a)/\(loadVar t a).run P w=.ok v' w/\ao P β v v':=by
 unfold wc at hv
 split at hv
 .rename_i b off
  cases hx with
  |ptr hb=>
   split at hv
   .rename_i c e hg
    obtain⟨v',h1,h2⟩:=Wt h hb hg hv
    exact⟨_,v',rfl,h1,h2⟩
   .cases hv
 .cases hv
theorem zeX(h:bh P β s w){t:TypeId}{x x':Value}(hx:ao P β x x'):c8 P β s w (uI P t x s) ((ya (Instr.loadAt t x')).run P w):=by
 unfold uI
 split
 .rename_i v hv
  obtain⟨a,v',rfl,h1,h2⟩:=X6 h hx hv
  exact .value h h2 (z4 (by simp[Instr.loadAt,Instr.sureAddr,h1]))
 .exact .stuck
theorem ao.cells{v v':Value}(h:ao P β v v'):bc P β (yr v) v'.cells.toList:=by
 cases h with
 |agg hl=>exact hl
 |_=>exact .cons (by constructor<;>assumption) .nil
theorem ao.oneCell{v v':Value}(h:ao P β v v'):v'.oneCell'=plainCell v:=by
 cases h<;>rfl
theorem bc.oneCell{l a:List Value}(h:bc P β l a)(ha:l.all plainCell=true):∀v∈a,v.oneCell'=true:=by
 induction l generalizing a with
 |nil=>cases h;simp
 |cons x l b=>
  cases h with
  |cons h hl=>
   simp only[List.all_cons,aF]at ha
   intro v hv
   simp only[aJ]at hv
   rcases hv with rfl|hv
   .rw[h.oneCell];exact ha.1
   .exact b hl ha.2 v hv
theorem jm(b:Nat):∀(vs:List Value) (o:Nat) (w:World) (c:Array Value) (e:TypeId) (a:Nat×Nat),w.heap[b]? = some (.cells c e a)->o+vs.length<=c.size ->
 ∃c',(w.setCells b o vs).heap[b]? = some (.cells c' e a)/\c'.size=c.size/\(∀i,i<o\/o+vs.length<=i->c'[i]? = c[i]?)/\(∀(j:Nat) (v:Value),vs[j]? = some v->c'[o+j]? = some v)
 | [],o,w,c,e,a,h,_=>⟨c,h,rfl,λ_ _=>rfl,by simp⟩
 |v::r,o,w,c,e,a,h,hl=>by
  have h1:(w.setCell ⟨b,o,none⟩ v).heap[b]? = some (.cells (c.setIfInBounds o v) e a):=by simp[World.setCell,Array.getElem?_modify,h]
  obtain⟨c',g1,g2,d,f⟩:=jm b r (o+1) (w.setCell ⟨b,o,none⟩ v) _ e a h1 (by simp at hl |-;omega)
  refine⟨c',g1,by simpa using g2,λi hi=>?_,λj x hj=>?_⟩
  .rw[d i (by simp at hi;omega),Array.getElem?_setIfInBounds_ne (by simp at hi;omega)]
  .cases j with
   |zero=>
    simp at hj;subst hj
    rw[bM,d o O]
    simp only[aU]at hl
    rw[Array.getElem?_setIfInBounds_self_of_lt O]
   |succ j=>
    have:=f j x (by simpa using hj)
    rw[show o+(j+1)=o+1+j by omega];exact this
theorem wG(b:Nat):∀(vs:List Value) (o:Nat) (w:World),(w.setCells b o vs).heap.size=w.heap.size/\(∀r,r≠b->(w.setCells b o vs).heap[r]? = w.heap[r]?) /\
 (w.setCells b o vs).os=w.os/\(w.setCells b o vs).output=w.output/\(w.setCells b o vs).tape=w.tape
 | [],_,_=>⟨rfl,λ_ _=>rfl,rfl,rfl,rfl⟩
 |v::r,o,w=>by
  obtain⟨h1,h2,c,d,e⟩:=wG b r (o+1) (w.setCell ⟨b,o,none⟩ v)
  refine⟨by simpa[World.setCells,World.setCell]using h1,λq a=>?_,c,d,e⟩
  have:=h2 q a
  simpa[World.setCells,World.setCell,Array.getElem?_modify,Ne.symm a]using this
theorem xh(h:bh P β s w){b off:Nat}{m:dm}{vs k:List Value}(hb:β b=some m)(g:bc P β vs k){s':St}{n:Next}
 (a:xu b off vs s=.ok n s'):n=.skip/\∃w',(storeCells ⟨m.blk,off+m.sh,none⟩ k).run P w=.ok () w'/\bp P β s w β s' w':=by
 unfold xu at a
 split at a
 .rename_i c e hg
  split at a
  .rename_i c₁ f hp
   cases a
   simp only[aF]at f
   obtain⟨he,c',z,u,ho,hsz,hfz,hc⟩:=h.row hb hg
   obtain⟨hlen,rfl⟩:=Je _ _ _ _ hp
   have hl':=g.length
   have p:vs.length=0\/off+m.sh+vs.length<=c'.size:=by
    cases hvl:vs.length with
    |zero=>exact .inl rfl
    |succ q=>
     right
     have o:off+q<c.length:=by omega
     obtain⟨v',d,_⟩:=hc (off+q) c[off+q] (by simp[o])
     rcases cP (off+q+m.sh) c'.size with y|y
     .omega
     .rw[cV y]at d;cases d
   rcases p with D|p
   .have A:vs=[]:=bV.1 D
    subst A
    cases g
    refine⟨rfl,w,rfl,?_⟩
    refine bp.write h hb f.2 hg _ rfl (λ_ _=>rfl) ⟨_,ho,?_⟩ rfl rfl rfl
    refine .cells he hsz (by simpa using hfz.1) hfz.2 ?_
    simpa using hc
   have l:=run_storeCells_cells (P:=P) m.blk (off+m.sh) k 0 w (λj hj=>by
    simp only[World.cell?,ho,bM]
    have:off+m.sh+j<c'.size:=by omega
    simp[this])
    (λj hj=>by
     simp only[World.frozen?,ho,bM]
     have h1:=hfz.2 (off+m.sh+j) O (by have:=hfz.1;omega)
     simp only[eK,bO]
     by_cases h2:u.1<=off+m.sh+j
     .exact .inr λC=>h1 ⟨h2,C⟩
     .exact .inl h2)
    (g.oneCell f.1)
   rw[bM]at l
   obtain⟨c₂,g1,g2,x,B⟩:=jm m.blk k (off+m.sh) w c' z u ho O
   obtain⟨E,F,G,H,I⟩:=wG m.blk k (off+m.sh) w
   refine⟨rfl,_,l,bp.write h hb f.2 hg _ E F ⟨_,g1,?_⟩ G H I⟩
   refine .cells he O (by have:=hfz.1;simp only[aQ,bX,bZ];omega) hfz.2 λi v hv=>?_
   rw[bF,List.getElem?_append]at hv
   split at hv
   .rename_i o
    simp only[bX]at o
    rw[List.getElem?_take_of_lt O]at hv
    obtain⟨v',d,r⟩:=hc i v hv
    exact⟨v',by rw[x _ O];exact d,r⟩
   .rename_i t
    simp only[bX]at t hv
    rw[List.getElem?_append]at hv
    split at hv
    .obtain⟨v',d,r⟩:=g.get hv
     refine⟨v',?_,r⟩
     have:=B _ v' d
     rw[show i+m.sh=off+m.sh+(i-min off c.length)by omega]
     exact this
    .rename_i hge2
     rw[dV]at hv
     obtain⟨v',d,r⟩:=hc i v (by rw[<-hv];congr 1;omega)
     exact⟨v',by rw[x _ O];exact d,r⟩
  .split at a
   .cases a
    cases g
    exact⟨rfl,w,rfl,bp.refl h⟩
   .cases a
 .cases a
theorem zbQ(h:bh P β s w){t:TypeId}{x x' v v':Value}(hx:ao P β x x')(hv:ao P β v v') :
 c8 P β s w (Xl P t x v s) ((Instr.storeAt t x' v' >>= λ_=>pure Next.skip).run P w):=by
 unfold Xl
 split
 .rename_i b off i hi
  split
  .rename_i hsz
   cases hx with
   |ptr hb=>
    cases a:xu b off (yr v) s with
    |stuck=>exact .stuck
    |panic u s'=>
     exfalso
     unfold xu at a
     repeat' split at a
     all_goals cases a
    |ok n s'=>
     intro _
     obtain⟨rfl,w',h1,h2⟩:=xh h hb hv.cells a
     refine⟨β,w',.skip,?_,h2,rfl⟩
     have hlen:v'.cells.size=i.size:=by
      have:=hv.cells.length
      rw[dY]at this
      rw[this]
      have e:=aK hsz
      rw[yf]at e
      omega
     simp[Instr.storeAt,Instr.sureAddr,storeVar,yc hi,hlen,h1]
  .exact .stuck
 .exact .stuck
end
section
variable{P:Program}{β:aS}{s:St}{w:World}
theorem wp(h:s.room=true):s.next<281474976710655:=by
 simpa[St.room,Nat.blt_eq]using h
theorem bp.row(h:bh P β s w)(a:s.room=true)(hn:β s.next=none){c:List Value}{c':Array Value}(e:TypeId)(b:Nat×Nat)
 (hfz:∀i,i<c'.size->¬(b.1<=i/\i<b.2)) (hc:∀(i:Nat) (v:Value),c[i]? = some v->∃v',c'[i]? = some v'/\ao P β v v') :
 bp P β s w (β.add s.next ⟨w.heap.size,0,c'.size,e,false⟩) (s.new (.cells c e)) {w with heap:=w.heap.push (.cells c' e b)}:=
 bp.new h (wp a) hn rfl (.cells rfl Z3 (by
  cases hn:c.length with
  |zero=>exact .inl rfl
  |succ q=>
   right
   obtain⟨v',h1,_⟩:=hc q c[q] (by simp[hn])
   rcases cP q c'.size with d|d
   .simp only;omega
   .rw[cV d]at h1;cases h1) (λi _ hi=>hfz i hi) hc)
theorem Vr{o:ak}(hf:cC β s (s.new o)):β s.next=none:=hf s.next Z3 Y8
theorem JG(h:bh P β s w){e:TypeId}{c:List Value}{x':Value}(hx:bc P β c x'.cells.toList) :
 c8 P β s w (XN e c s) ((ya (Instr.box e x')).run P w):=by
 unfold XN
 split
 .rename_i a
  intro hf
  have hn:=Vr hf
  refine⟨_,_,.value (.pointer (some ⟨w.heap.size,0,none⟩)),?_,bp.row h a hn e (0,0) Y8 (c':=x'.cells) (λi v hv=>?_),_,rfl,?_⟩
  .simp[ya,Instr.box,newVar,newRow]
  .obtain⟨v',h1,h2⟩:=hx.get hv
   exact⟨v',by simpa using h1,h2⟩
  .exact ao.ptr (m:=⟨w.heap.size,0,x'.cells.size,e,false⟩) aS.add_self
 .exact .stuck
theorem j8{v:Value}(h:kq v=true):ao P β v v:=by
 cases v with
 |pointer a=>cases a with
  |none=>exact .pnil
  |some a=>simp[kq]at h
 |map r=>cases r with
  |none=>exact .mnil
  |some r=>simp[kq]at h
 |slice a l c=>
  cases a with
  |some a=>simp[kq]at h
  |none=>
   cases l with
   |succ l=>simp[kq]at h
   |zero=>cases c with
    |succ c=>simp[kq]at h
    |zero=>exact .snil
 |bool b=>exact .bool b
 |int k n=>exact .int k n
 |float k n=>exact .float k n
 |complex k a b=>exact .complex k a b
 |string t=>exact .string t
 |nilFunc=>exact .nilFunc
 |nilIface=>exact .nilIface
 |_=>simp[kq]at h
theorem ko{l:List Value}(h:l.all kq=true):bc P β l l:=by
 induction l with
 |nil=>exact .nil
 |cons v l a=>simp only[List.all_cons,aF]at h;exact .cons (j8 h.1) (a h.2)
theorem KO{v:Value}(h:Xs v=true):ao P β v v:=by
 unfold Xs at h
 cases v with
 |agg cs=>exact .agg (ko h)
 |_=>exact j8 (by simpa[yr]using h)
theorem jT(v:Value):v.cells.toList=yr v:=by cases v<;>rfl
theorem zdR(h:bh P β s w){e:TypeId}:c8 P β s w (jh (Ss P e) (gJ P e s)) ((ya (Instr.alloc e true (.tuple #[]))).run P w):=by
 unfold jh
 split
 .rename_i d
  unfold gJ
  split
  .rename_i i hi
   split
   .rename_i z a
    have b:Xs z=true:=by simpa[Ss,hi,a]using d
    have:=JG (P:=P) (β:=β) (s:=s) (w:=w) h (e:=e) (c:=yr z) (x':=z) (by rw[jT];exact ko b)
    simpa[ya,Instr.box,Instr.alloc,y6 hi a]using this
   .exact .stuck
  .exact .stuck
 .exact .stuck
theorem zdh(h:bh P β s w){t:TypeId}{x x':Value}{f:Nat}(hx:ao P β x x'):c8 P β s w (ju P t x f s) ((ya (Instr.fieldAt t x' f)).run P w):=by
 unfold ju
 split
 .rename_i b off n a
  cases hx with
  | @ptr _ _ m hb=>
   unfold ZI at a
   split at a
   .rename_i fields hu
    split at a
    .rename_i fd c
     rw[zN]at c
     split at a
     .rename_i i hi
      split at a
      .cases a
      .rename_i k hk
       cases a
       refine .value h (v':=.pointer (some ⟨m.blk,(off+fd.offset)+m.sh,none⟩)) (.ptr hb) ?_
       have d:fields[f]? = some fd:=by simpa using c
       have e1:off+m.sh+fd.offset=off+fd.offset+m.sh:=by omega
       simp[ya,Instr.fieldAt,run_underlying hu,d,Instr.sureAddr,fieldPlace,yc hi,hk,kI,e1]
     .cases a
    .cases a
   .cases a
 .exact .stuck
theorem jr(h:bh P β s w){n len b off sz:Nat}{m:dm}(hb:β b=some m){c:Result Next}
 (d:n<len->c=.ok (.value (.pointer (some ⟨m.blk,off+n*sz+m.sh,none⟩))) w):c8 P β s w (xl n len b off sz s) c:=by
 unfold xl
 split
 .rename_i a
  exact .value h (.ptr hb) (d (by simpa[Nat.blt_eq]using a))
 .exact .stuck
theorem zcU(h:bh P β s w){t:TypeId}{x x' i g:Value}(hx:ao P β x x')(hi:ao P β i g) :
 c8 P β s w (kS P t x i s) ((ya (Instr.indexAt t x' g)).run P w):=by
 unfold kS
 split
 .rename_i k n
  cases hi with
  |int=>
  split
  .rename_i q sz b off len cap a
   unfold wM at a
   split at a
   .rename_i e hu
    split at a
    .rename_i inf c
     simp at a
     obtain⟨_,rfl⟩:=a
     have key:∀(m:dm) (d:Nat),n<len->(ya (Instr.indexAt t (.slice (some ⟨m.blk,off+m.sh,none⟩) len d) (.int k (Int.ofNat n)))).run P w=.ok (.value (.pointer (some ⟨m.blk,off+n*inf.size+m.sh,none⟩))) w:=by
      intro m d f
      have e1:off+m.sh+n*inf.size=off+n*inf.size+m.sh:=by omega
      simp[ya,Instr.indexAt,asIntOf,run_underlying hu,yc c,kI,e1]
      intro j;omega
     cases hx with
     |sknown hb=>exact jr h hb (key _ _)
     |sgrown hb _ _=>exact jr h hb (key _ _)
     |sempty hb _=>unfold xl;simp;exact .stuck
     |szero hb=>unfold xl;simp;exact .stuck
    .cases a
   .rename_i k' e hu
    split at a<;>simp at a
   .cases a
  .rename_i len sz b off a
   unfold wM at a
   split at a
   .rename_i e hu
    split at a<;>simp at a
   .rename_i k' e hu
    split at a
    .rename_i inf c
     simp at a
     obtain⟨rfl,rfl⟩:=a
     cases hx with
     | @ptr _ _ m hb=>
      refine jr h hb λf=>?_
      have e1:off+m.sh+n*inf.size=off+n*inf.size+m.sh:=by omega
      simp[ya,Instr.indexAt,asIntOf,run_underlying hu,Instr.sureAddr,yc c,kI,e1]
      intro j;omega
    .cases a
   .cases a
  .exact .stuck
 .exact .stuck
inductive dB:Sem Value->Prop where
 |val {v:Value} (h:kq v=true):dB (.pure v)
 |err (m:String):dB (runtimePanic (.error m))
 |stuck (m:String):dB (Go.stuck m)
 |unsupported (u:Unsupported):dB (Go.unsupported u)
theorem dB.sound(h:bh P β s w){x:Sem Value}(hx:dB x):c8 P β s w ((k6 P x s).map .value) ((ya x).run P w):=by
 cases hx with
 |val hv=>exact .value h (j8 hv) rfl
 |err m=>
  intro _
  exact⟨β,w,_,rfl,bp.refl h,.iface (.string _)⟩
 |stuck m=>exact .stuck
 |unsupported u=>exact .stuck
theorem ZG(op:BinOp)(t:TypeId)(k k':IntKind)(a b:Int):dB (binOp op t (.int k a) (.int k' b)):=by
 by_cases hk:k=k'
 .subst hk
  cases op<;>simp only[binOp,Op.shift,Op.intArith,Op.intDiv,Op.intBits,Op.intCmp,ne_eq,not_true_eq_false,cK]<;>(repeat' split) <;>
   first|exact .val rfl|exact .err _|exact .stuck _
 .cases op<;>simp only[binOp,Op.shift,Op.intArith,Op.intDiv,Op.intBits,Op.intCmp,ne_eq,hk,not_false_eq_true,dQ]<;>(repeat' split) <;>
   first|exact .val rfl|exact .err _|exact .stuck _
theorem YB(op:UnOp)(k:IntKind)(n:Int):dB (Op.unary op (.int k n)):=by
 cases op<;>simp only[Op.unary,Op.intArith,Op.intBits]<;>first|exact .val rfl|exact .stuck _
theorem Kf{n:Int}(h:Vn n=true):IntKind.i64.wrap n=n:=by
 apply IntWalk.i64_in
 cases n with
 |ofNat a=>simp only[Vn,Nat.ble_eq]at h;simp only[eS];omega
 |negSucc a=>simp only[Vn,Nat.ble_eq]at h;simp only[Int.negSucc_eq];omega
theorem zfg(a b:Int):fG a b=decide (a<=b):=by
 cases a with
 |ofNat a=>cases b with
  |ofNat b=>simp only[fG];rw[Bool.eq_iff_iff];simp
  |negSucc b=>simp only[fG];rw[eq_comm,bO,eS,Int.negSucc_eq];omega
 |negSucc a=>cases b with
  |ofNat b=>simp only[fG];rw[eq_comm,aC,eS,Int.negSucc_eq];omega
  |negSucc b=>simp only[fG];rw[Bool.eq_iff_iff,Nat.ble_eq,aC,Int.negSucc_eq,Int.negSucc_eq];omega
theorem GW(a b:Int):lG a b=(a==b):=by
 cases a with
 |ofNat a=>cases b with
  |ofNat b=>simp only[lG];rw[Bool.eq_iff_iff,Nat.beq_eq,beq_iff_eq,eS,eS];omega
  |negSucc b=>simp only[lG];rfl
 |negSucc a=>cases b with
  |ofNat b=>simp only[lG];rfl
  |negSucc b=>simp only[lG];rw[Bool.eq_iff_iff,Nat.beq_eq,beq_iff_eq,Int.negSucc_inj]
theorem zaO{n:Int}{v:Value}(h:wd n=some v):v=.int .i64 (IntKind.i64.wrap n):=by
 unfold wd at h
 split at h
 .rename_i hn;cases h;rw[Kf hn]
 .cases h
theorem zaC{op:BinOp}{a b:Int}{v:Value}(h:yT op a b=some v)(t:TypeId):binOp op t (.int .i64 a) (.int .i64 b)=.pure v/\kq v=true:=by
 cases op<;>simp only[yT,bH,reduceCtorEq]at h<;>simp only[binOp,Op.intArith,Op.intCmp,ne_eq,not_true_eq_false,cK]
 case add=>rw[zaO h];exact⟨rfl,rfl⟩
 case sub=>rw[zaO h];exact⟨rfl,rfl⟩
 case mul=>rw[zaO h];exact⟨rfl,rfl⟩
 all_goals
  subst h
  refine⟨?_,rfl⟩
  simp only[zfg,GW,Pure.pure,Sem.pure.injEq,Value.bool.injEq] <;>
   first
    |rfl
    |(rw[Bool.eq_iff_iff];simp only[bB,bO,aC];omega)
theorem lI(h:bh P β s w)(op:BinOp)(t:TypeId)(k k':IntKind)(a b:Int) :
 c8 P β s w (qU P op t k k' a b s) ((ya (binOp op t (.int k a) (.int k' b))).run P w):=by
 unfold qU
 split
 .split
  .rename_i v hv
   obtain⟨h1,h2⟩:=zaC hv t
   exact .value h (j8 h2) (by rw[h1];rfl)
  .exact(ZG op t _ _ a b).sound h
 .exact(ZG op t _ _ a b).sound h
theorem j6{op:BinOp}{t:TypeId}{x y:Operand}{a b:Value}(h1:a≠.nilIface)(h2:∀cs,a≠.agg cs)(w:World):(eqGuard op t x y a b).run P w=.ok () w:=by
 unfold eqGuard
 cases op<;>cases a<;>first|rfl|(exact(h1 rfl).elim)|(exact(h2 _ rfl).elim)
def Jz(op:BinOp)(t:TypeId)(x y:Operand)(a b:Value):Sem Value:=do eqGuard op t x y a b;binOp op t a b
theorem ao.guard{x x':Value}(h:ao P β x x')(h1:x≠.nilIface)(h2:∀cs,x≠.agg cs):x'≠.nilIface/\∀cs,x'≠.agg cs:=by
 cases h<;>first|(exact(h1 rfl).elim)|(exact(h2 _ rfl).elim)|(exact⟨by simp,by simp⟩)
theorem Jy{d:TypeDesc}{t:TypeId}{x y x' f:Value}{r:Bool}(hu:P.underlying t=some d)(hx:ao P β x x')(c:ao P β y f)(h:Li d x y=some r)(w:World) :
 (Op.equal t x' f).run P w=.ok r w/\(x≠.nilIface/\∀cs,x≠.agg cs)/\(binOp .eql t x' f=Op.equal t x' f >>= λb=>pure (.bool b))/\(binOp .neq t x' f=Op.equal t x' f >>= λb=>pure (.bool !b)):=by
 have key:∀g,(∀q,(Op.equalIn (q+1) t x' f).run P w=.ok g w)->(Op.equal t x' f).run P w=.ok g w:=λ_ h=>h 9999
 unfold Li at h
 cases d<;>simp only at h
 case bool=>
  split at h<;>cases h
  cases hx;cases c
  exact⟨key _ V6,⟨by simp,by simp⟩,rfl,rfl⟩
 case pointer e=>
  split at h<;>cases h
  .cases hx
   cases c
   .exact⟨key _ V6,⟨by simp,by simp⟩,rfl,rfl⟩
   .exact⟨key _ V6,⟨by simp,by simp⟩,rfl,rfl⟩
  .cases hx
   cases c
   exact⟨key _ V6,⟨by simp,by simp⟩,rfl,rfl⟩
 case slice e=>
  split at h<;>cases h
  .cases hx
   cases c<;>exact⟨key _ V6,⟨by simp,by simp⟩,rfl,rfl⟩
  .cases c
   cases hx<;>exact⟨key _ V6,⟨by simp,by simp⟩,rfl,rfl⟩
 case map k e=>
  split at h<;>cases h
  .cases hx
   cases c<;>exact⟨key _ V6,⟨by simp,by simp⟩,rfl,rfl⟩
  .cases hx
   cases c
   exact⟨key _ V6,⟨by simp,by simp⟩,rfl,rfl⟩
 case func ps rs v=>
  split at h<;>cases h
  .cases hx;cases c
   exact⟨key _ V6,⟨by simp,by simp⟩,rfl,rfl⟩
  .have hk:∀q fn a b,(Op.equalIn (q+1) t .nilFunc (.func fn a b)).run P w=.ok false w:=λq fn a b=>by simp[Op.equalIn,run_underlying hu]
   cases hx;cases c<;>exact⟨key _ (λq=>hk q _ _ _),⟨nofun,nofun⟩,rfl,rfl⟩
  .have hk:∀q fn a b,(Op.equalIn (q+1) t (.func fn a b) .nilFunc).run P w=.ok false w:=λq fn a b=>by simp[Op.equalIn,run_underlying hu]
   cases c;cases hx<;>exact⟨key _ (λq=>hk q _ _ _),⟨nofun,nofun⟩,rfl,rfl⟩
 all_goals cases h
theorem oR(h:bh P β s w){op:BinOp}{t:TypeId}{x y x' i:Value}(hx:ao P β x x')(g:ao P β y i)(a b:Operand) :
 c8 P β s w (tK P op t x y s) ((ya (Jz op t a b x' i)).run P w):=by
 unfold tK
 split
 .rename_i d hu
  split
  .rename_i r f
   obtain⟨h1,⟨h2,c⟩,e,_⟩:=Jy hu hx g f w
   obtain⟨g1,g2⟩:=hx.guard h2 c
   exact .value h (.bool _) (z4 (by simp[Jz,j6 g1 g2,e,h1]))
  .rename_i r f
   obtain⟨h1,⟨h2,c⟩,_,e⟩:=Jy hu hx g f w
   obtain⟨g1,g2⟩:=hx.guard h2 c
   exact .value h (.bool _) (z4 (by simp[Jz,j6 g1 g2,e,h1]))
  .exact .stuck
 .exact .stuck
theorem iQ(h:bh P β s w){op:BinOp}{t:TypeId}{x y x' d:Value}(hx:ao P β x x')(c:ao P β y d)(a b:Operand) :
 c8 P β s w (qM P op t x y s) ((ya (Jz op t a b x' d)).run P w):=by
 unfold qM
 split
 .rename_i k p k' q
  cases hx;cases c
  have:=lI h op t k k' p q
  have e:(ya (Jz op t a b (.int k p) (.int k' q))).run P w=(ya (binOp op t (.int k p) (.int k' q))).run P w:=by
   simp[ya,Jz,j6 (P:=P) (a:=.int k p) Y8 Y8]
  rw[e];exact this
 .exact oR h hx c a b
theorem su(h:bh P β s w){op:UnOp}{x x':Value}(hx:ao P β x x'):c8 P β s w (BS P op x s) ((ya (Op.unary op x')).run P w):=by
 unfold BS
 split
 .split
  .cases hx;exact .value h (.bool _) rfl
  .exact .stuck
 .rename_i k n
  cases hx;exact(YB op k n).sound h
 .exact .stuck
theorem Wv(h:bh P β s w){x x':Value}{i:Nat}(hx:ao P β x x'):c8 P β s w (vF x i s) ((ya (Instr.extract x' i)).run P w):=by
 unfold vF
 split
 .cases hx with
  |tuple hl=>
   split
   .rename_i v hv
    rw[zN]at hv
    obtain⟨v',h1,h2⟩:=hl.get hv
    exact .value h h2 (z4 (by simp[Instr.extract,h1]))
   .exact .stuck
 .exact .stuck
theorem zeH(h:bh P β s w){c a b c' a' b':Value}(hc:ao P β c c')(ha:ao P β a a')(hb:ao P β b b') :
 c8 P β s w (YE c a b s) ((do pure (Next.value (if <-asBool c' then a' else b')):Sem Next).run P w):=by
 unfold YE
 split
 .cases hc;exact .value h ha rfl
 .cases hc;exact .value h hb rfl
 .exact .stuck
end
section
variable{P:Program}{β:aS}{s:St}{w:World}
theorem bh.of_heap(h:bh P β s w){w':World}(e:w'.heap=w.heap):bh P β s w' where
 img:=by rw[e];exact h.img
 obj:=by rw[e];exact h.obj
 inj:=h.inj
 ro:=h.ro
 room:=h.room
 top:=h.top
theorem bp.drew{β':aS}{s':St}{w' a:World}(h:bp P β s w β' s' w')(e:a.heap=w'.heap)(h1:a.os=w'.os)(h2:a.output=w'.output)(b:a.tape=w'.tape):bp P β s w β' s' a where
 rel:=h.rel.of_heap e
 le:=h.le
 dom:=h.dom
 next:=h.next
 bar:=h.bar
 prot:=h.prot
 size:=by rw[e];exact h.size
 out:=by rw[e];exact h.out
 same:=h.same
 dead:=h.dead
 fresh:=h.fresh
 os:=h1.trans h.os
 output:=h2.trans h.output
 tape:=b.trans h.tape
theorem bp.kill(h:bh P β s w){b:Nat}(hlt:b<s.next)(d:s.may b=true):bp P β s w β (s.put b none) w:=by
 have hroom:=h.room
 have f:=λb'=>St.get_put (s:=s) (b:=b) O none b'
 have live:∀b' o',(s.put b none).get b'=some o'->s.get b'=some o':=λb' o' g=>by
  rw[f]at g
  split at g
  .cases g
  .exact g
 exact{
  rel:={
   img:=h.img
   obj:=λb' j o' a c i=>h.obj b' j o' a c (live _ _ i)
   inj:=λk l m1 m2 o1 o2 h1 h2 m n g1 g2 e=>h.inj k l m1 m2 _ _ h1 h2 m n (live _ _ g1) (live _ _ g2) e
   ro:=h.ro
   room:=h.room
   top:=λb' a=>by rw[f];split;rfl;exact h.top b' a}
  le:=aS.le_refl β
  dom:=λb' j h1 h2=>by rw[h2]at h1;cases h1
  next:=aN _
  bar:=rfl
  prot:=rfl
  size:=aN _
  out:=λ_ _ _=>rfl
  same:=λb' a hm=>by rw[f,aD (λe=>by rw[e,d]at hm;cases hm)]
  dead:=λb' a hd=>by rw[f];split;rfl;exact hd
  fresh:=λb' j h1 h2=>by rw[h2]at h1;cases h1
  os:=rfl
  output:=rfl
  tape:=rfl}
theorem bp.move(h:bh P β s w){b:Nat}{m m₁:dm}{o:ak}(hb:β b=some m)(hg:s.get b=some o)(d:s.may b=true)(u:s.room=true)(hn:β s.next=none)
 (k:m₁.blk=m.blk) (H:m₁.ro=false) {g:ak} {w':World} (v:w'.heap.size=w.heap.size) (p:∀r,r≠m.blk->w'.heap[r]? = w.heap[r]?)
 (B:∃o',w'.heap[m.blk]? = some o'/\eT P β m₁ g o') (G:w'.os=w.os) (C:w'.output=w.output) (x:w'.tape=w.tape) :
 bp P β s w (β.add s.next m₁) ((s.put b none).new g) w':=by
 have i:=h.lt hg
 have q:=h.room
 have hr2:=wp u
 have A:∀b',((s.put b none).new g).get b'=if b'=s.next then some g else if b'=b then none else s.get b':=λb'=>by
  rw[St.get_new (s:=s.put b none) (by simpa using by omega) g b',St.get_put (s:=s) (b:=b) O none b']
  rfl
 have hle:β.le (β.add s.next m₁):=aS.le_add hn
 have at_:∀b f,β.add s.next m₁ b=some f->b≠s.next->β b=some f:=λb f K ne=>by simpa[aS.add,ne]using K
 have img:=h.img b m hb i
 exact{
  rel:={
   img:=λb' f a l=>by
    rw[v]
    by_cases e:b'=s.next
    .subst e;rw[aS.add_self]at a;cases a;omega
    .exact h.img b' f (at_ b' f a e) (by simp at l;omega)
   obj:=λb' f o' a l c=>by
    rw[A]at c
    by_cases e:b'=s.next
    .subst e
     rw[aG rfl]at c;cases c
     rw[aS.add_self]at a;cases a
     obtain⟨y,h1,h2⟩:=B
     exact⟨y,by rw[k];exact h1,h2.mono hle⟩
    .rw[aD e]at c
     split at c
     .cases c
     .rename_i ne
      have t:=at_ b' f a e
      have n:b'<s.next:=by simp at l;omega
      obtain⟨y,h1,h2⟩:=h.obj b' f o' t n c
      refine⟨y,?_,h2.mono hle⟩
      rw[p f.blk (λe=>(h.inj b' b f m o' o t hb n i c hg e).elim ne λq=>h.wr hb i d q.2)]
      exact h1
   inj:=λE j m1 m2 J z h1 h2 D I g1 g2 e=>by
    rw[A]at g1 g2
    have other:∀j m2 z,β.add s.next m₁ j=some m2->j<s.next+1->j≠s.next->(if j=b then none else s.get j)=some z->m2.blk≠m₁.blk:=λj m2 z h2 I e2 g2 heq=>by
     split at g2
     .cases g2
     .rename_i ne
      exact(h.inj j b m2 m z o (at_ _ _ h2 e2) hb O i g2 hg (by rw[heq,k])).elim ne λq=>h.wr hb i d q.2
    by_cases e1:E=s.next
    .by_cases e2:j=s.next
     .exact .inl O
     .rw[aD e2]at g2
      subst e1;rw[aS.add_self]at h1;cases h1
      exact(other j m2 z h2 (by simpa using I) e2 g2 e.symm).elim
    .by_cases e2:j=s.next
     .rw[aD e1]at g1
      subst e2;rw[aS.add_self]at h2;cases h2
      exact(other E m1 J h1 (by simpa using D) e1 g1 e).elim
     .rw[aD e1]at g1;rw[aD e2]at g2
      split at g1
      .cases g1
      .split at g2
       .cases g2
       .exact h.inj E j m1 m2 J z (at_ _ _ h1 e1) (at_ _ _ h2 e2) (by simp at D;omega) (by simp at I;omega) g1 g2 e
   ro:=λb' f h1 D q=>by
    by_cases e1:b'=s.next
    .subst e1;rw[aS.add_self]at h1;cases h1;rw[H]at q;cases q
    .exact h.ro b' f (at_ _ _ h1 e1) (by simp at D;omega) q
   room:=by simp;omega
   top:=λb' a=>by
    simp at a
    rw[A,aD O]
    split
    .rfl
    .exact h.top b' O}
  le:=hle
  dom:=λb' f h1 h2=>by
   by_cases e:b'=s.next
   .subst e;simp
   .rw[at_ b' f h1 e]at h2;cases h2
  next:=by simp
  bar:=rfl
  prot:=rfl
  size:=by omega
  out:=λr q F=>p r (λe=>F b m o hb i d hg e.symm)
  same:=λb' a hm=>by rw[A,aD O,aD (λe=>by rw[e,d]at hm;cases hm)]
  dead:=λb' a hd=>by
   rw[A,aD O]
   split
   .rfl
   .exact hd
  fresh:=λb' f h1 h2=>by
   by_cases e:b'=s.next
   .subst e;rw[aS.add_self]at h1;cases h1
    exact .inr ⟨b,m,o,hb,i,d,hg,k.symm⟩
   .rw[at_ b' f h1 e]at h2;cases h2
  os:=G
  output:=C
  tape:=x}
theorem uF{v v':Option Value}{d n:Nat}(h:qh v d=some n)(hv:∀x,v=some x->∃x',v'=some x'/\ao P β x x')(hn:v=none->v'=none) :
 (v=none/\v'=none/\n=d)\/∃k,v=some (.int k (.ofNat n))/\v'=some (.int k (.ofNat n)):=by
 cases v with
 |none=>simp[qh]at h;exact .inl ⟨rfl,hn rfl,h.symm⟩
 |some x=>
  obtain⟨x',h1,h2⟩:=hv x rfl
  unfold qh at h
  split at h
  .rename_i e;cases e
  .rename_i k q e
   cases e
   cases h
   cases h2
   exact .inr ⟨k,rfl,h1⟩
  .cases h
theorem wH{k:IntKind}{n y:Nat}(code:BoundsCode)(h:n<=y)(w:World):(Instr.sliceBound (.int k (n:Int)) y code).run P w=.ok n w:=by
 simp[Instr.sliceBound,asIntOf]
 intro hh;omega
theorem uH{isS:Bool}{len cap l h m:Nat}{lo hi mx:Option Value}
 (b:(lo=none/\l=0)\/∃k,lo=some (.int k (.ofNat l))) (a:(hi=none/\h=len/\mx=none)\/∃k,hi=some (.int k (.ofNat h)))
 (d:(mx=none/\m=cap)\/∃k,mx=some (.int k (.ofNat m))) (h1:l<=h) (h2:h<=m) (e:m<=cap) (w:World) :
 (Instr.sliceBounds isS len cap lo hi mx).run P w=.ok (l,h,m) w:=by
 rcases b with⟨rfl,rfl⟩|⟨kl,rfl⟩<;>rcases a with⟨rfl,rfl,c⟩|⟨kh,rfl⟩<;>rcases d with⟨rfl,rfl⟩|⟨km,rfl⟩ <;>
  first
   |(cases c;done)
   |simp[Instr.sliceBounds,wH _ h1,wH _ h2,wH _ e]
theorem XJ{m:dm}{b off l a c sz len:Nat}(hb:β b=some m) :
 ao P β (.slice (if Nat.beq a l then some ⟨b,off,none⟩else(some ⟨b,off,none⟩:Option Addr).map (·.add (l*sz))) len (2*c))
  (.slice (if a=l then some ⟨m.blk,off+m.sh,none⟩else some ((⟨m.blk,off+m.sh,none⟩:Addr).add (l*sz))) len c):=by
 by_cases e:a=l
 .have:Nat.beq a l=true:=by simp[e]
  rw[this,aG rfl,aG e]
  exact .sknown hb
 .have:Nat.beq a l=false:=by rw[cM];intro d;exact e (aK d)
  rw[this,aD Y8,aD e]
  simp only[cQ,kI]
  rw[show off+m.sh+l*sz=off+l*sz+m.sh by omega]
  exact .sknown hb
theorem JJ{lo hi mx d b a:Option Value}{len c l h m:Nat}(hl:qh lo 0=some l)(p:qh hi len=some h)(hm:qh mx c=some m)
 (n:∀x,lo=some x->∃x',d=some x'/\ao P β x x') (i:lo=none->d=none)
 (j:∀x,hi=some x->∃x',b=some x'/\ao P β x x') (g:hi=none->b=none)
 (o:∀x,mx=some x->∃x',a=some x'/\ao P β x x') (f:mx=none->a=none) (hb:(hi.isSome || !mx.isSome)=true) :
 ((d=none/\l=0)\/∃k,d=some (.int k (.ofNat l)))/\((b=none/\h=len/\a=none)\/∃k,b=some (.int k (.ofNat h))) /\
  ((a=none/\mx=none/\m=c)\/(mx.isSome=true/\∃k,a=some (.int k (.ofNat m)))):=by
 refine⟨?_,?_,?_⟩
 .rcases uF hl n i with⟨_,h2,e⟩|⟨k,_,h2⟩
  .exact .inl ⟨h2,e⟩
  .exact .inr ⟨k,h2⟩
 .rcases uF p j g with⟨h1,h2,e⟩|⟨k,_,h2⟩
  .subst h1
   refine .inl ⟨h2,e,f ?_⟩
   cases mx with
   |none=>rfl
   |some x=>simp at hb
  .exact .inr ⟨k,h2⟩
 .rcases uF hm o f with⟨h1,h2,e⟩|⟨k,h1,h2⟩
  .exact .inl ⟨h2,h1,e⟩
  .exact .inr ⟨by simp[h1],k,h2⟩
theorem ge{ρ ρ':Operand->Value}{o:Option Operand}(h:∀x,o=some x->ao P β (ρ x) (ρ' x)) :
 (∀x,o.map ρ=some x->∃x',o.map ρ'=some x'/\ao P β x x')/\(o.map ρ=none->o.map ρ'=none):=by
 cases o with
 |none=>exact⟨by simp,by simp⟩
 |some q=>exact⟨λx hx=>by simp at hx;subst hx;exact⟨_,rfl,h q rfl⟩,by simp⟩
theorem Qy{t e:TypeId}{inf:TypeInfo}(hu:P.underlying t=some (.slice e))(hi:P.info? e=some inf){a:Option Addr}{len cap l h m:Nat}{lo b mx:Option Value}
 (hb:(Instr.sliceBounds true len cap lo b mx).run P w=.ok (l,h,m) w) :
 (ya (Instr.sliceAt t (.slice a len cap) lo b mx)).run P w=.ok (.value (.slice (if m=l then a else a.map (·.add (l*inf.size))) (h-l) (m-l))) w:=by
 simp[ya,Instr.sliceAt,Instr.slice,run_underlying hu,hb,yc hi]
theorem Yx(h:bh P β s w){t e:TypeId}{inf:TypeInfo}(hu:P.underlying t=some (.slice e))(A:P.info? e=some inf){a:Option Addr}{len cap:Nat}{x':Value}
 (hx:ao P β (.slice a len cap) x') {known:Bool} (hk:known=true->cap % 2=0) (G:known=false->cap % 2=1/\wo e a cap s=true) {lo hi mx y u z:Option Value}
 (M:∀x,lo=some x->∃x',y=some x'/\ao P β x x') (J:lo=none->y=none)
 (L:∀x,hi=some x->∃x',u=some x'/\ao P β x x') (I:hi=none->u=none)
 (N:∀x,mx=some x->∃x',z=some x'/\ao P β x x') (K:mx=none->z=none) :
 c8 P β s w (xR inf.size a len (cap / 2) known lo hi mx s) ((ya (Instr.sliceAt t x' y u z)).run P w):=by
 unfold xR
 split
 .rename_i l B m e1 e2 S
  split
  .rename_i E
   simp only[aF,Nat.ble_eq]at E
   obtain⟨⟨⟨g1,g2⟩,g3⟩,T⟩:=E
   obtain⟨Q,R,C⟩:=JJ e1 e2 S M J L I N K T
   -- the model's bounds,for whatever capacity it has that is at least what this machine knows
   have run:∀(a':Option Addr) (d:Nat),cap / 2<=d->(mx=none->known=false\/d=cap / 2) ->
    (ya (Instr.sliceAt t (.slice a' len d) y u z)).run P w =
     .ok (.value (.slice (if (if mx.isSome then m else d)=l then a' else a'.map (·.add (l*inf.size))) (B-l) ((if mx.isSome then m else d)-l))) w:=by
    intro a' d hc _
    refine Qy hu A (uH Q R ?_ g1 ?_ ?_ w)
    .rcases C with⟨h1,h2,_⟩|⟨h1,k,h2⟩
     .exact .inl ⟨h1,by simp[h2]⟩
     .exact .inr ⟨k,by simp[h1,h2]⟩
    .rcases C with⟨h1,h2,D⟩|⟨h1,k,h2⟩
     .simp only[h2,Option.isSome_none];simp;omega
     .simp only[h1];simp;omega
    .rcases C with⟨h1,h2,D⟩|⟨h1,k,h2⟩
     .simp[h2]
     .simp only[h1];simp;omega
   split
   .rename_i r
    -- the new capacity is known
    cases hx with
    |snil=>
     have o:m=0:=by omega
     have n:l=0:=by omega
     have j:B=0:=by omega
     subst o n j
     refine .value h (v':=.slice none 0 0) ?_ ?_
     .simp;exact .snil
     .rw[run none 0 O (λ_=>.inr rfl)]
      simp
    | @sknown b off _ c p hb=>
     have q:2*c / 2=c:=by omega
     rw[q]at *
     have H:(if mx.isSome then m else c)=m:=by
      rcases C with⟨_,h2,D⟩|⟨h1,_⟩
      .simp[h2,D]
      .simp[h1]
     refine .value h (XJ (m:=p) hb) ?_
     rw[run _ c O (λ_=>.inr O),H]
     simp
    | @szero b off off' p hb=>
     have o:m=0:=by omega
     have n:l=0:=by omega
     have j:B=0:=by omega
     subst o n j
     refine .value h (.szero (off':=off') hb) ?_
     rw[run _ 0 O (λ_=>.inr rfl)]
     simp
    | @sgrown b off _ c d p hb hc hs=>
     have q:(2*c+1) / 2=c:=by omega
     rw[q]at *
     have g:mx.isSome=true:=by
      cases known with
      |true=>have:=hk rfl;omega
      |false=>simpa using r
     refine .value h (XJ (m:=p) hb) ?_
     rw[run _ d O (λh0=>by rw[h0]at g;simp at g),g]
     simp
    | @sempty b off off' d p hb hs=>
     have o:m=0:=by omega
     have n:l=0:=by omega
     have j:B=0:=by omega
     subst o n j
     have g:mx.isSome=true:=by
      cases known with
      |true=>have:=hk rfl;omega
      |false=>simpa using r
     refine .value h (.szero (off':=off') hb) ?_
     rw[run _ d O (λh0=>by rw[h0]at g;simp at g),g]
     simp
   .rename_i r
    -- it isn't
    have v:known=false:=by cases known<;>simp at r;rfl
    have g:mx=none:=by cases mx<;>simp[v]at r;rfl
    obtain⟨hcap,i⟩:=G v
    have hm:m=cap / 2:=by
     rcases C with⟨_,_,D⟩|⟨h1,_⟩
     .exact D
     .simp[g]at h1
    cases hx with
    |snil=>simp at hcap
    |sknown hb=>omega
    |szero hb=>simp at hcap
    | @sgrown b off _ c d p hb hc hs=>
     have q:(2*c+1) / 2=c:=by omega
     rw[q]at *
     subst hm
     have hsz:P.cellsOf p.elem=inf.size:=by
      unfold wo at i
      rw[hcap]at i
      simp only at i
      split at i
      .rename_i cc e' hg
       have he:=aK i
       obtain⟨h1,_⟩:=h.row hb hg
       rw[<-h1,<-he]
       simp[Program.cellsOf,A]
      .cases i
     have f:=run (some ⟨p.blk,off+p.sh,none⟩) d O (λ_=>.inl v)
     rw[g]at f
     simp only[Option.isSome_none,aV,cK]at f
     by_cases F:d=l
     .subst F
      have:B=d:=by omega
      subst this
      have:c=B:=by omega
      subst this
      simp only[Nat.sub_self,cQ]
      rw[kI,show 2*((2*c+1) / 2-c)+1=1 by omega]
      refine .value h (.sempty hb (off':=off+p.sh) (cap:=0) O) ?_
      rw[f];simp
     .rw[aD F]at f
      simp only[cQ,kI]at f |-
      rw[show off+p.sh+l*inf.size=off+l*inf.size+p.sh by omega]at f
      refine .value h (.sgrown hb O ?_) f
      rw[hsz]at hs |-
      have:(d-l)*inf.size+l*inf.size=d*inf.size:=by rw[<-dM];congr 1;omega
      omega
    | @sempty b off off' d p hb hs=>
     have n:l=0:=by omega
     have j:B=0:=by omega
     have o:m=0:=by omega
     subst n j o
     have f:=run (some ⟨p.blk,off',none⟩) d O (λ_=>.inl v)
     rw[g]at f
     simp only[Option.isSome_none,aV,cK]at f
     simp only[Nat.sub_self,Nat.mul_zero,cB,cQ,eF,kI]at f |-
     refine .value h (.sempty hb (off':=off') (cap:=d) hs) ?_
     rw[f]
     simp
  .exact .stuck
 .exact .stuck
end
section
variable{P:Program}{β:aS}{s:St}{w:World}
theorem zbX(h:bh P β s w){t:TypeId}{x x':Value}(hx:ao P β x x'){lo hi mx f d g:Option Value}
 (q:∀x,lo=some x->∃x',f=some x'/\ao P β x x') (j:lo=none->f=none)
 (p:∀x,hi=some x->∃x',d=some x'/\ao P β x x') (i:hi=none->d=none)
 (r:∀x,mx=some x->∃x',g=some x'/\ao P β x x') (o:mx=none->g=none) :
 c8 P β s w (qf P t x lo hi mx s) ((ya (Instr.sliceAt t x' f d g)).run P w):=by
 unfold qf
 split
 .rename_i e hu
  split
  .rename_i inf a len cap c
   split
   .rename_i hc
    exact Yx h hu c hx (λ_=>hc) Y8 q j p i r o
   .rename_i hc
    split
    .rename_i z
     exact Yx h hu c hx Y8 (λ_=>⟨(Nat.mod_two_eq_zero_or_one cap).resolve_left hc,z⟩) q j p i r o
    .exact .stuck
  .exact .stuck
 .rename_i n e hu
  split
  .rename_i inf b off c
   cases hx with
   | @ptr _ _ H hb=>
    unfold xR
    split
    .rename_i l hh m e1 e2 D
     split
     .rename_i v
      simp only[aF,Nat.ble_eq]at v
      obtain⟨⟨⟨g1,g2⟩,E⟩,F⟩:=v
      obtain⟨A,B,C⟩:=JJ e1 e2 D q j p i r o F
      have u:=uH (P:=P) (isS:=false) A B (cap:=n) (m:=m) (by
       rcases C with⟨h1,_,G⟩|⟨_,k,h2⟩
       .exact .inl ⟨h1,G⟩
       .exact .inr ⟨k,h2⟩) g1 g2 E w
      simp only[Bool.true_or]
      refine .value h (XJ (m:=H) hb) ?_
      by_cases y:m=l
      .simp[ya,Instr.sliceAt,Instr.sureAddr,run_underlying hu,u,yc c,y]
      .simp[ya,Instr.sliceAt,Instr.sureAddr,run_underlying hu,u,yc c,y]
     .exact .stuck
    .exact .stuck
  .exact .stuck
 .exact .stuck
theorem uq(h:bh P β s w){sz n:Nat}{x x':Value}(hx:ao P β x x'){l:List Value}(hl:xM sz n x s=some l)(hn:∀a len cap,x=.slice a len cap->n<=len) :
 ∃g,(Builtin.firstCells sz n x').run P w=.ok ⟨g⟩ w/\bc P β l g:=by
 unfold xM at hl
 split at hl
 .cases hx
  cases hl
  exact⟨[],rfl,.nil⟩
 .rename_i b off len cap
  have hn':=hn _ _ _ rfl
  split at hl
  .rename_i c e hg
   have zero:n=0->∀a:Addr,∀f d:Nat,(Builtin.firstCells sz n (.slice (some a) f d)).run P w=.ok ⟨[]⟩ w/\l=[]:=λh0 a f d=>by
    subst h0
    simp only[eF]at hl
    refine⟨by simp[Builtin.firstCells,loadCells,loadCellsFrom],?_⟩
    simpa[y8]using hl.symm
   cases hx with
   |sknown hb=>exact wj h hb hg hl
   |sgrown hb _ _=>exact wj h hb hg hl
   |sempty hb _=>
    obtain⟨h1,h2⟩:=zero O _ _ _
    exact⟨[],h1,by rw[h2];exact .nil⟩
   |szero hb=>
    obtain⟨h1,h2⟩:=zero O _ _ _
    exact⟨[],h1,by rw[h2];exact .nil⟩
  .cases hl
 .cases hl
theorem Vj{x x':Value}{n:Nat}(hx:ao P β x x')(hn:FU x=some n):(∀u:World,(Builtin.lenOf x').run P u=.ok n u)/\∀a len cap,x=.slice a len cap->n<=len:=by
 unfold FU at hn
 split at hn
 .rename_i a len cap
  cases hn
  refine⟨?_,λa' len' cap' e=>by cases e;exact aN _⟩
  cases hx<;>exact λ_=>rfl
 .cases hn
  cases hx
  exact⟨λ_=>rfl,by simp⟩
 .cases hn
def Vl:TypeDesc->Bool
 | .int _=>true
 |_=>false
def Wj(P:Program)(w:World)(d:TypeDesc)(inf:TypeInfo)(x':Value)(n:Nat)(a:List Value):Prop:=
 (Vl d=true->x'=.int .i64 (n:Int)/\n<=1000000/\n*(inf.bytes+1)<=1073741824/\∃z,inf.zero=some z/\a=if n*inf.size=0 then []else(Builtin.zeroCells z.cells n).toList) /\
 (Vl d=false->(∀u:World,(Builtin.lenOf x').run P u=.ok n u)/\(Builtin.firstCells inf.size n x').run P w=.ok ⟨a⟩ w)
theorem Qt{z:Array Value}{n:Nat}(h:z.toList.all kq=true)(hz:z.size≠0):(Builtin.zeroCells z n).toList.all kq=true:=by
 rw[List.all_eq_true]at h |-
 intro v hv
 simp only[Builtin.zeroCells,Array.toList_map,List.mem_map,Array.mem_toList_iff,Array.mem_range]at hv
 obtain⟨i,hi,rfl⟩:=hv
 have a:i % z.size<z.size:=Nat.mod_lt _ O
 have:z[i % z.size]! = z[i % z.size]:=by simp[a]
 rw[this]
 exact h _ Y8
theorem ue(h:bh P β s w){d:TypeDesc}{inf:TypeInfo}{x x':Value}(hx:ao P β x x'){n:Nat}{new:List Value}(hn:eC (some d) inf x s=some (n,new)) :
 ∃b,Wj P w d inf x' n b/\bc P β new b:=by
 unfold eC at hn
 split at hn
 .rename_i k e
  cases e
  split at hn
  .rename_i l z i
   split at hn
   .rename_i hb
    simp only[aF,Nat.ble_eq]at hb
    obtain⟨⟨h1,h2⟩,g⟩:=hb
    simp only[bH,Prod.mk.injEq]at hn
    obtain⟨rfl,a⟩:=hn
    cases hx
    have hp:eC.plain0=kq:=by
     funext v
     cases v<;>rfl
    rw[hp,<-jT]at g
    by_cases h0:l*inf.size=0
    .have:Nat.beq (l*inf.size) 0=true:=by rw[h0];rfl
     rw[this]at a
     simp only at a
     subst a
     exact⟨[],⟨λ_=>⟨rfl,h1,h2,z,i,by rw[aG h0]⟩,λc=>by simp[Vl]at c⟩,.nil⟩
    .have:Nat.beq (l*inf.size) 0=false:=by rw[cM];intro c;exact h0 (aK c)
     rw[this]at a
     simp only at a
     subst a
     refine⟨(Builtin.zeroCells z.cells l).toList,⟨λ_=>⟨rfl,h1,h2,z,i,by rw[aD h0]⟩,λc=>by simp[Vl]at c⟩,?_⟩
     by_cases f:z.cells.size=0
     .have:(Builtin.zeroCells z.cells l).toList=[]:=by simp[Builtin.zeroCells,f]
      rw[this];exact .nil
     .exact ko (Qt g f)
   .cases hn
  .cases hn
 .rename_i hd e
  cases e
  split at hn
  .rename_i k hk
   split at hn
   .rename_i l hl
    simp only[bH,Prod.mk.injEq]at hn
    obtain⟨rfl,rfl⟩:=hn
    obtain⟨g1,g2⟩:=Vj (P:=P) hx hk
    obtain⟨o,j,m⟩:=uq h hx hl g2
    refine⟨o,⟨λc=>?_,λ_=>⟨g1,j⟩⟩,m⟩
    cases d<;>simp[Vl]at c
    exact(hd _ rfl).elim
   .cases hn
  .cases hn
 .rename_i e;cases e
theorem j3{n:Nat}(h:n<=1000000):IntKind.i64.wrap (n:Int)=n:=IntWalk.i64_in _ O
theorem kZ{argTypes:Array TypeId}{f g e:TypeId}{d:TypeDesc}{inf:TypeInfo}(h0:argTypes[0]? = some f)(h1:argTypes[1]? = some g)
 (hs:P.underlying f=some (.slice e)) (hd:P.underlying g=some d) (hi:P.info? e=some inf) {x':Value} {n:Nat} {i:List Value} (ha:Wj P w d inf x' n i)
 {base:Option Addr} {b cap:Nat} (c:b+n<=cap) (ty:TypeId) :
 (Builtin.append_ argTypes ty #[.slice base b cap,x']).run P w =
  (match base with|some a=>(storeCells (a.add (b*inf.size)) i).run P w|none=>.ok () w).andThen λ_ w'=>.ok (.slice base (b+n) cap) w':=by
 cases d
 case int k=>
  obtain⟨rfl,g1,g2,z,l,rfl⟩:=ha.1 rfl
  have hb:¬((n:Int)*(inf.bytes:Int)>2 ^ 48):=by
   have:n*inf.bytes<=1073741824:=bK (cI _ O) g2
   have h2:((n*inf.bytes:Nat):Int)<=1073741824:=by omega
   rw[Int.natCast_mul]at h2
   omega
  have h:¬((n:Int)<0):=by omega
  by_cases j:n*inf.size=0
  .simp only[Builtin.append_,h0,h1,List.getElem?_toArray,eM,cR,Sem.run_bind,run_underlying hs,run_underlying hd,Result.andThen_ok,yc hi,Sem.run_pure,dQ,asInt,asIntOf,j3 g1,h,cK,qn hi,hb,Int.toNat_natCast,c,j,eJ,aV]
   cases base<;>simp
  .simp only[Builtin.append_,h0,h1,List.getElem?_toArray,eM,cR,Sem.run_bind,run_underlying hs,run_underlying hd,Result.andThen_ok,yc hi,Sem.run_pure,dQ,asInt,asIntOf,j3 g1,h,cK,qn hi,hb,Int.toNat_natCast,c,j,eJ,aV,y6 hi l]
   cases base<;>simp
 all_goals
  obtain⟨g1,g2⟩:=ha.2 rfl
  simp only[Builtin.append_,h0,h1,List.getElem?_toArray,eM,cR,Sem.run_bind,run_underlying hs,run_underlying hd,Result.andThen_ok,yc hi,Sem.run_pure,aV,cK,g1,c,dQ,Bool.not_false,g2]
  cases base<;>simp
theorem Jq(n:Nat):∀(r c:Nat),c<=n+(n+768) / 4->Builtin.growBy n r c<=n+(n+768) / 4
 |0,c,h=>h
 |r+1,c,h=>by
  unfold Builtin.growBy
  split
  .exact h
  .exact Jq n r _ O
theorem Qz{need cap:Nat}(h:cap<need):Builtin.nextslicecap need cap<=2*need+1000:=by
 unfold Builtin.nextslicecap
 split
 .omega
 .split
  .omega
  .have:=Jq need 4 cap O;omega
abbrev drewW(w:World):World:={w with drawn:=w.drawn+1}
theorem KC{argTypes:Array TypeId}{f g e:TypeId}{d:TypeDesc}{inf:TypeInfo}(h0:argTypes[0]? = some f)(h1:argTypes[1]? = some g)
 (hs:P.underlying f=some (.slice e)) (hd:P.underlying g=some d) (hi:P.info? e=some inf) {x':Value} {n:Nat} {i:List Value} (ha:Wj P (drewW w) d inf x' n i)
 {base:Option Addr} {a cap:Nat} (c:¬a+n<=cap) (m:(a+n)*(inf.bytes+1)<=1073741824) {z:Value} (o:inf.zero=some z) {j:List Value}
 (ho:(Builtin.firstCells inf.size a (.slice base a cap)).run P (drewW w)=.ok ⟨j⟩ (drewW w)) (ty:TypeId) :
 ∃p,a+n<=p/\(Builtin.append_ argTypes ty #[.slice base a cap,x']).run P w =
  .ok (.slice (some ⟨w.heap.size,0,none⟩) (a+n) p) {(drewW w)with heap:=w.heap.push (.cells (⟨j⟩++⟨i⟩++Builtin.zeroCells z.cells (p-(a+n))) e)}:=by
 have b:¬(((a+n:Nat):Int)>IntKind.i64.max):=by
  have:a+n<=1073741824:=bK (Nat.le_mul_of_pos_right _ O) m
  have:IntKind.i64.max=9223372036854775807:=by decide
  omega
 have hcap:¬(Builtin.nextslicecap (a+n) cap*inf.bytes>2 ^ 48):=by
  have h1:=Qz (need:=a+n) (cap:=cap) O
  have h2:Builtin.nextslicecap (a+n) cap*inf.bytes<=(2*(a+n)+1000)*inf.bytes:=bQ _ h1
  have h3:(a+n)*inf.bytes<=1073741824:=bK (cI _ O) m
  have h4:inf.bytes<=1073741824:=by
   have:1*(inf.bytes+1)<=(a+n)*(inf.bytes+1):=bQ _ O
   omega
  rw[dM,Nat.mul_assoc]at h2
  omega
 refine⟨(Question.appendCap (a+n) cap e).cut (w.tape w.drawn (Question.appendCap (a+n) cap e)),by simp[Question.cut],?_⟩
 cases d
 case int k=>
  obtain⟨rfl,g1,g2,z',q,rfl⟩:=ha.1 rfl
  rw[o]at q;cases q
  have hb:¬((n:Int)*(inf.bytes:Int)>2 ^ 48):=by
   have:n*inf.bytes<=1073741824:=bK (cI _ O) g2
   have h2:((n*inf.bytes:Nat):Int)<=1073741824:=by omega
   rw[Int.natCast_mul]at h2
   omega
  have h:¬((n:Int)<0):=by omega
  by_cases l:n*inf.size=0
  .simp only[Builtin.append_,h0,h1,List.getElem?_toArray,eM,cR,Sem.run_bind,run_underlying hs,run_underlying hd,Result.andThen_ok,yc hi,Sem.run_pure,dQ,asInt,asIntOf,j3 g1,h,cK,qn hi,hb,Int.toNat_natCast,c,l,eJ,aV,b,false_and,hcap,run_choose,Question.forced,run_askRoom,ho,y6 hi o]
   (simp[newRow];exact⟨rfl,rfl,rfl⟩)
  .simp only[Builtin.append_,h0,h1,List.getElem?_toArray,eM,cR,Sem.run_bind,run_underlying hs,run_underlying hd,Result.andThen_ok,yc hi,Sem.run_pure,dQ,asInt,asIntOf,j3 g1,h,cK,qn hi,hb,Int.toNat_natCast,c,l,eJ,aV,b,false_and,hcap,run_choose,Question.forced,run_askRoom,ho,y6 hi o]
   (simp[newRow];exact⟨rfl,rfl,rfl⟩)
 all_goals
  obtain⟨g1,g2⟩:=ha.2 rfl
  simp only[Builtin.append_,h0,h1,List.getElem?_toArray,eM,cR,Sem.run_bind,run_underlying hs,run_underlying hd,Result.andThen_ok,yc hi,Sem.run_pure,aV,cK,g1,c,dQ,Bool.not_false,g2,b,false_and,qn hi,hcap,run_choose,Question.forced,run_askRoom,ho,y6 hi o]
  (simp[newRow];exact⟨rfl,rfl,rfl⟩)
theorem WT(h:bh P β s w){e:TypeId}{b off cap:Nat}{m:dm}(hb:β b=some m)(d:cap % 2=1)(a:wo e (some ⟨b,off,none⟩) cap s=true) :
 ∃c,s.get b=some (.cells c e)/\e=m.elem:=by
 unfold wo at a
 rw[d]at a
 simp only at a
 split at a
 .rename_i c e' hg
  have he:=aK a
  subst he
  exact⟨c,hg,(h.row hb hg).1⟩
 .cases a
theorem Vp{inf:TypeInfo}{need n:Nat}{new:List Value}(h:Zw inf need n new=true) :
 need*(inf.bytes+1)<=1073741824/\new.all plainCell=true/\new.length=n*inf.size/\∃z,inf.zero=some z/\z.cells.size=inf.size:=by
 unfold Zw at h
 simp only[aF,Nat.ble_eq]at h
 obtain⟨⟨⟨h1,h2⟩,b⟩,a⟩:=h
 have b:=aK b
 rw[yf]at b
 refine⟨h1,h2,by omega,?_⟩
 split at a
 .rename_i z c
  have a:=aK a
  rw[yf]at a
  refine⟨z,c,?_⟩
  have:=jT z
  rw[<-dY,this]
  omega
 .cases a
theorem uS(z:Array Value)(n:Nat):(Builtin.zeroCells z n).size=n*z.size:=by simp[Builtin.zeroCells]
theorem zeP(h:bh P β s w){e:TypeId}{inf:TypeInfo}(hi:P.info? e=some inf){c c':List Value}(hc:bc P β c c'){need d:Nat}(hn:need<=d){rest:Array Value}
 (hlen:c.length=need*inf.size) (a:rest.size=(d-need)*inf.size) {k:Result Next}
 (l:k=.ok (.value (.slice (some ⟨w.heap.size,0,none⟩) need d)) {(drewW w)with heap:=w.heap.push (.cells (⟨c'⟩++rest) e)}) :
 c8 P β s w (uP e c need s) k:=by
 unfold uP
 split
 .rename_i b
  intro hf
  have j:=Vr hf
  have hx:=bp.row h b j (c:=c) (c':=⟨c'⟩++rest) e (0,0) Y8 (λi v hv=>by
   obtain⟨v',g1,g2⟩:=hc.get hv
   refine⟨v',?_,g2⟩
   have g:i<c'.length:=by
    rcases cP i c'.length with f|f
    .exact f
    .rw[cU f]at g1;cases g1
   rw[Array.getElem?_append_left (by simpa using g)]
   simpa using g1)
  refine⟨_,_,_,l,hx.drew rfl rfl rfl rfl,_,rfl,(ao.sgrown (m:=⟨w.heap.size,0,(⟨c'⟩++rest:Array Value).size,e,false⟩) aS.add_self hn ?_)⟩
  simp only[Program.cellsOf,hi,cQ,bN,Array.size_append,a]
  have:(⟨c'⟩:Array Value).size=need*inf.size:=by
   show c'.length=_
   rw[hc.length,hlen]
  rw[this,Nat.sub_mul]
  have:need*inf.size<=d*inf.size:=bQ _ hn
  omega
 .exact .stuck
theorem vU{sz n:Nat}{base:Option Addr}{len cap:Nat}{l:List Value}(h:xM sz n (.slice base len cap) s=some l)(hb:base=none->n=0):l.length=n*sz:=by
 unfold xM at h
 split at h
 .rename_i e;cases e
  cases h
  simp[hb rfl]
 .rename_i e;cases e
  split at h
  .rw[y7]at h
   split at h
   .rename_i hle
    cases h
    simp only[bX]
    omega
   .cases h
  .cases h
 .cases h
end
end Go.M
