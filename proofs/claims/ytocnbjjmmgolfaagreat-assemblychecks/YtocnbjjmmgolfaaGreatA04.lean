/- Each operation of the abstract machine stands for the model's own. -/
/- Further operations of the abstract machine, held against the model's own. -/
/- Slices of the abstract machine: what is cut out, and append. -/
import Derived.Test.YtocnbjjmmgolfaaGreatA03
import Derived.Laws.IdiomCopy
import Derived.Laws.Append
import Derived.IntWalk
namespace Go.M
def roundT(r:Loop)(args:Array Value):Array Value:=(r.params.zip args).foldl (fun tmps (t,a)=>tmps.setIfInBounds t a) r.tmps
def NRel(P:Program)(β:Ren)(w:World)(n n':Next):Prop:=
 match n with
 | .value v=>∃v',n'=.value v'∧VRel P β v v'
 | .skip=>n'=.skip
 | .enter f args=>∃args',n'=.enter f args'∧LRel P β args.toList args'.toList
 | .round b _ args _ _=>∃m r args',β b=some m∧w.heap[m.blk]? = some (.loop r)∧n'=.round m.blk r.fn (roundT r args') r.assign r.body∧LRel P β args.toList args'.toList
 |_=>False
def OpS(P:Program)(β:Ren)(s:St)(w:World)(r:Res Next)(r':Result Next):Prop:=
 match r with
 | .ok n s'=>Free β s s'→∃β' w' n',r'=.ok n' w'∧Ext P β s w β' s' w'∧NRel P β' w' n n'
 | .panic v s'=>Free β s s'→∃β' w' v',r'=.halt (.panic v') w'∧Ext P β s w β' s' w'∧VRel P β' v v'
 | .stuck=>True
def zu(x:Sem Value):Sem Next:=x >>= fun a=>pure (.value a)
section
variable{P:Program}{β:Ren}{s:St}{w:World}
theorem zx{x:Sem Value}{v:Value}{w':World}(h:x.run P w=.ok v w'):(zu x).run P w=.ok (.value v) w':=by
 simp[zu,h]
theorem OpS.value(h:Rel P β s w){v v':Value}(hv:VRel P β v v'){r':Result Next}(hr:r'=.ok (.value v') w):OpS P β s w (okV v s) r':=
 fun _=>⟨β,w,.value v',hr,Ext.refl h,v',rfl,hv⟩
theorem OpS.stuck{r':Result Next}:OpS P β s w .stuck r':=trivial
theorem yZ{t:TypeId}{i:TypeInfo}(h:P.info? t=some i)(w:World):(typeInfo t).run P w=.ok i w:=by
 simp[typeInfo,h]
theorem zF{t:TypeId}{i:TypeInfo}(h:P.info? t=some i)(w:World):(sizeOf t).run P w=.ok i.size w:=by
 simp[sizeOf,yZ h]
theorem z7{t:TypeId}{i:TypeInfo}{z:Value}(h:P.info? t=some i)(hz:i.zero=some z)(w:World):(zeroValue t).run P w=.ok z w:=by
 simp[zeroValue,yZ h,hz]
theorem shapeOf_one{t:TypeId}(h:yH P t=some none)(w:World):(isAgg t).run P w=.ok false w:=by
 unfold yH at h
 split at h<;>simp at h
 rename_i d i n1 n2 hu hi
 simp only[isAgg,Sem.run_bind,run_underlying hu,Result.andThen_ok]
 cases d<;>first|rfl|(exact(n1 _ rfl).elim)|(exact(n2 _ _ rfl).elim)
theorem shapeOf_many{t:TypeId}{n:Nat}(h:yH P t=some (some n))(w:World):(isAgg t).run P w=.ok true w∧(sizeOf t).run P w=.ok n w:=by
 unfold yH at h
 split at h<;>simp at h
 ·rename_i fs i hu hi
  exact⟨by simp[isAgg,run_underlying hu],by rw[zF hi,h]⟩
 ·rename_i k e i hu hi
  exact⟨by simp[isAgg,run_underlying hu],by rw[zF hi,h]⟩
theorem xF(b off i:Nat):(⟨b,off,none⟩:Addr).add i=⟨b,off+i,none⟩:=by
 unfold Addr.add;split<;>simp_all
theorem Rel.row(h:Rel P β s w){b:Nat}{m:Img}{c:List Value}{e:TypeId}(hb:β b=some m)(hg:s.get b=some (.cells c e)) :
  e=m.elem∧∃c' e' fz,w.heap[m.blk]? = some (.cells c' e' fz)∧m.size≤c'.size∧((c.length=0∨c.length+m.sh≤m.size)∧∀i,m.sh≤i→i<m.size→¬(fz.1≤i∧i<fz.2)) ∧
   ∀(i:Nat) (v:Value),c[i]? = some v→∃v',c'[i+m.sh]? = some v'∧VRel P β v v':=by
 obtain⟨o',ho',hor⟩:=h.obj b m _ hb (h.lt hg) hg
 cases hor with
 |cells he hsz hln hfz hc=>exact⟨he,_,_,_,ho',hsz,⟨hln,hfz⟩,hc⟩
theorem row_list{c:List Value}{c':Array Value}{sh:Nat}(hc:∀(i:Nat) (v:Value),c[i]? = some v→∃v',c'[i+sh]? = some v'∧VRel P β v v')
  (off n:Nat) (hn:off+n≤c.length):∃l',LRel P β ((c.drop off).take n) l'∧l'.length=n∧∀j v,l'[j]? = some v→c'[off+j+sh]? = some v:=by
 induction n with
 |zero=>exact⟨[],by simp;exact .nil,rfl,by simp⟩
 |succ n ih=>
  obtain⟨l',h1,h2,h3⟩:=ih O
  have hlt:off+n<c.length:=by omega
  obtain⟨v',hv',hr⟩:=hc (off+n) c[off+n] (by simp[hlt])
  refine⟨l'++[v'],?_,by simp[h2],?_⟩
  ·have e:(c.drop off).take (n+1)=(c.drop off).take n++[c[off+n]]:=by
    rw[List.take_succ_eq_append_getElem (by simp;omega)]
    simp
   rw[e]
   exact h1.append (.cons hr .nil)
  ·intro j v hj
   rw[List.getElem?_append]at hj
   split at hj
   ·exact h3 j v hj
   ·rename_i hge
    have:j=n:=by
     by_cases hjn:j-l'.length=0
     ·omega
     ·obtain⟨q,hq⟩:∃q,j-l'.length=q+1:=⟨j-l'.length-1,by omega⟩
      rw[hq]at hj;simp at hj
    subst this
    simp[h2]at hj
    subst hj
    exact hv'
theorem qf(h:Rel P β s w){b off n:Nat}{m:Img}{c:List Value}{e:TypeId}(hb:β b=some m)(hg:s.get b=some (.cells c e)){l:List Value}
  (hl:xd n (xx off c)=some l):∃l',(loadCells ⟨m.blk,off+m.sh,none⟩ n).run P w=.ok ⟨l'⟩ w∧LRel P β l l':=by
 obtain⟨_,c',e',fz,ho,hsz,hfz,hc⟩:=h.row hb hg
 rw[y5,y6]at hl
 split at hl
 ·rename_i hn
  cases hl
  by_cases hz:n=0
  ·subst hz
   exact⟨[],by simp[loadCells,loadCellsFrom],by simp;exact .nil⟩
  obtain⟨l',h1,h2,h3⟩:=row_list hc off n (by simp at hn;omega)
  refine⟨l',?_,h1⟩
  have:=run_loadCells_list (P:=P) w ⟨m.blk,off+m.sh,none⟩ l' (fun j v hj=>by
   rw[xF]
   have:=h3 j v hj
   simp only[World.cell?,ho]
   rw[show off+m.sh+j=off+j+m.sh by omega]
   simpa using this)
  rw[h2]at this
  exact this
 ·cases hl
theorem loadVar_sound(h:Rel P β s w){b off:Nat}{m:Img}{c:List Value}{e t:TypeId}(hb:β b=some m)(hg:s.get b=some (.cells c e)){v:Value}
  (hv:cutL (yH P t) off c=some v):∃v',(loadVar t ⟨m.blk,off+m.sh,none⟩).run P w=.ok v' w∧VRel P β v v':=by
 unfold cutL at hv
 split at hv
 ·rename_i hs
  obtain⟨_,c',e',fz,ho,hsz,hfz,hc⟩:=h.row hb hg
  rw[zC]at hv
  obtain⟨v',hv',hr⟩:=hc off v hv
  refine⟨v',?_,hr⟩
  have hc':w.cell? ⟨m.blk,off+m.sh,none⟩=some v':=by simp[World.cell?,ho,hv']
  simp[loadVar,shapeOf_one hs,hc']
 ·rename_i n hs
  split at hv
  ·rename_i l hl
   cases hv
   obtain⟨l',h1,h2⟩:=qf h hb hg hl
   exact⟨.agg ⟨l'⟩,by simp[loadVar,shapeOf_many hs,h1],.agg h2⟩
  ·cases hv
 ·cases hv
theorem loadV_sound(h:Rel P β s w){t:TypeId}{x x' v:Value}(hx:VRel P β x x')(hv:loadV P t x s=some v) :
  ∃a v',x'=.pointer (some a)∧(loadVar t a).run P w=.ok v' w∧VRel P β v v':=by
 unfold loadV at hv
 split at hv
 ·rename_i b off
  cases hx with
  |ptr hb=>
   split at hv
   ·rename_i c e hg
    obtain⟨v',h1,h2⟩:=loadVar_sound h hb hg hv
    exact⟨_,v',rfl,h1,h2⟩
   ·cases hv
 ·cases hv
theorem load_sound(h:Rel P β s w){t:TypeId}{x x':Value}(hx:VRel P β x x'):OpS P β s w (loadM P t x s) ((zu (Instr.loadAt t x')).run P w):=by
 unfold loadM
 split
 ·rename_i v hv
  obtain⟨a,v',rfl,h1,h2⟩:=loadV_sound h hx hv
  exact .value h h2 (zx (by simp[Instr.loadAt,Instr.sureAddr,h1]))
 ·exact .stuck
theorem VRel.cells{v v':Value}(h:VRel P β v v'):LRel P β (yk v) v'.cells.toList:=by
 cases h with
 |agg hl=>exact hl
 |_=>exact .cons (by constructor<;>assumption) .nil
theorem VRel.oneCell{v v':Value}(h:VRel P β v v'):v'.oneCell'=plainCell v:=by
 cases h<;>rfl
theorem LRel.oneCell{l l':List Value}(h:LRel P β l l')(ha:l.all plainCell=true):∀v∈l',v.oneCell'=true:=by
 induction l generalizing l' with
 |nil=>cases h;simp
 |cons x l ih=>
  cases h with
  |cons h hl=>
   simp only[List.all_cons,Bool.and_eq_true]at ha
   intro v hv
   simp only[List.mem_cons]at hv
   rcases hv with rfl|hv
   ·rw[h.oneCell];exact ha.1
   ·exact ih hl ha.2 v hv
theorem setCells_heap(b:Nat):∀(vs:List Value) (o:Nat) (w:World) (c:Array Value) (e:TypeId) (fz:Nat×Nat),w.heap[b]? = some (.cells c e fz)→o+vs.length≤c.size →
  ∃c',(w.setCells b o vs).heap[b]? = some (.cells c' e fz)∧c'.size=c.size∧(∀i,i<o∨o+vs.length≤i→c'[i]? = c[i]?)∧(∀(j:Nat) (v:Value),vs[j]? = some v→c'[o+j]? = some v)
 | [],o,w,c,e,fz,h,_=>⟨c,h,rfl,fun _ _=>rfl,by simp⟩
 |v::r,o,w,c,e,fz,h,hl=>by
  have h1:(w.setCell ⟨b,o,none⟩ v).heap[b]? = some (.cells (c.setIfInBounds o v) e fz):=by simp[World.setCell,Array.getElem?_modify,h]
  obtain⟨c',g1,g2,g3,g4⟩:=setCells_heap b r (o+1) (w.setCell ⟨b,o,none⟩ v) _ e fz h1 (by simp at hl ⊢;omega)
  refine⟨c',g1,by simpa using g2,fun i hi=>?_,fun j x hj=>?_⟩
  ·rw[g3 i (by simp at hi;omega),Array.getElem?_setIfInBounds_ne (by simp at hi;omega)]
  ·cases j with
   |zero=>
    simp at hj;subst hj
    rw[Nat.add_zero,g3 o O]
    simp only[List.length_cons]at hl
    rw[Array.getElem?_setIfInBounds_self_of_lt O]
   |succ j=>
    have:=g4 j x (by simpa using hj)
    rw[show o+(j+1)=o+1+j by omega];exact this
theorem setCells_other(b:Nat):∀(vs:List Value) (o:Nat) (w:World),(w.setCells b o vs).heap.size=w.heap.size∧(∀r,r≠b→(w.setCells b o vs).heap[r]? = w.heap[r]?) ∧
  (w.setCells b o vs).os=w.os∧(w.setCells b o vs).output=w.output∧(w.setCells b o vs).tape=w.tape
 | [],_,_=>⟨rfl,fun _ _=>rfl,rfl,rfl,rfl⟩
 |v::r,o,w=>by
  obtain⟨h1,h2,h3,h4,h5⟩:=setCells_other b r (o+1) (w.setCell ⟨b,o,none⟩ v)
  refine⟨by simpa[World.setCells,World.setCell]using h1,fun q hq=>?_,h3,h4,h5⟩
  have:=h2 q hq
  simpa[World.setCells,World.setCell,Array.getElem?_modify,Ne.symm hq]using this
theorem yn(h:Rel P β s w){b off:Nat}{m:Img}{vs vs':List Value}(hb:β b=some m)(hvs:LRel P β vs vs'){s':St}{n:Next}
  (hst:yB b off vs s=.ok n s'):n=.skip∧∃w',(storeCells ⟨m.blk,off+m.sh,none⟩ vs').run P w=.ok () w'∧Ext P β s w β s' w':=by
 unfold yB at hst
 split at hst
 ·rename_i c e hg
  split at hst
  ·rename_i c₁ hmay hp
   cases hst
   simp only[Bool.and_eq_true]at hmay
   obtain⟨he,c',e',fz,ho,hsz,hfz,hc⟩:=h.row hb hg
   obtain⟨hlen,rfl⟩:=lput_spec _ _ _ _ hp
   have hl':=hvs.length
   have hin:vs.length=0∨off+m.sh+vs.length≤c'.size:=by
    cases hvl:vs.length with
    |zero=>exact .inl rfl
    |succ q=>
     right
     have hlt:off+q<c.length:=by omega
     obtain⟨v',hv',_⟩:=hc (off+q) c[off+q] (by simp[hlt])
     rcases Nat.lt_or_ge (off+q+m.sh) c'.size with hh|hh
     ·omega
     ·rw[Array.getElem?_eq_none hh]at hv';cases hv'
   rcases hin with hz|hin
   ·have e0:vs=[]:=List.length_eq_zero_iff.1 hz
    subst e0
    cases hvs
    refine⟨rfl,w,rfl,?_⟩
    refine Ext.write h hb hmay.2 hg _ rfl (fun _ _=>rfl) ⟨_,ho,?_⟩ rfl rfl rfl
    refine .cells he hsz (by simpa using hfz.1) hfz.2 ?_
    simpa using hc
   have hrun:=run_storeCells_cells (P:=P) m.blk (off+m.sh) vs' 0 w (fun j hj=>by
     simp only[World.cell?,ho,Nat.add_zero]
     have:off+m.sh+j<c'.size:=by omega
     simp[this])
    (fun j hj=>by
     simp only[World.frozen?,ho,Nat.add_zero]
     have h1:=hfz.2 (off+m.sh+j) O (by have:=hfz.1;omega)
     simp only[Bool.and_eq_false_iff,decide_eq_false_iff_not]
     by_cases h2:fz.1≤off+m.sh+j
     ·exact .inr fun h3=>h1 ⟨h2,h3⟩
     ·exact .inl h2)
    (hvs.oneCell hmay.1)
   rw[Nat.add_zero]at hrun
   obtain⟨c₂,g1,g2,g3,g4⟩:=setCells_heap m.blk vs' (off+m.sh) w c' e' fz ho O
   obtain⟨k1,k2,k3,k4,k5⟩:=setCells_other m.blk vs' (off+m.sh) w
   refine⟨rfl,_,hrun,Ext.write h hb hmay.2 hg _ k1 k2 ⟨_,g1,?_⟩ k3 k4 k5⟩
   refine .cells he O (by have:=hfz.1;simp only[List.length_append,List.length_take,List.length_drop];omega) hfz.2 fun i v hv=>?_
   rw[List.append_assoc,List.getElem?_append]at hv
   split at hv
   ·rename_i hlt
    simp only[List.length_take]at hlt
    rw[List.getElem?_take_of_lt O]at hv
    obtain⟨v',hv',hr⟩:=hc i v hv
    exact⟨v',by rw[g3 _ O];exact hv',hr⟩
   ·rename_i hge
    simp only[List.length_take]at hge hv
    rw[List.getElem?_append]at hv
    split at hv
    ·obtain⟨v',hv',hr⟩:=hvs.get hv
     refine⟨v',?_,hr⟩
     have:=g4 _ v' hv'
     rw[show i+m.sh=off+m.sh+(i-min off c.length)by omega]
     exact this
    ·rename_i hge2
     rw[List.getElem?_drop]at hv
     obtain⟨v',hv',hr⟩:=hc i v (by rw[←hv];congr 1;omega)
     exact⟨v',by rw[g3 _ O];exact hv',hr⟩
  ·split at hst
   ·cases hst
    cases hvs
    exact⟨rfl,w,rfl,Ext.refl h⟩
   ·cases hst
 ·cases hst
theorem store_sound(h:Rel P β s w){t:TypeId}{x x' v v':Value}(hx:VRel P β x x')(hv:VRel P β v v') :
  OpS P β s w (storeM P t x v s) ((Instr.storeAt t x' v' >>= fun _=>pure Next.skip).run P w):=by
 unfold storeM
 split
 ·rename_i b off i hi
  split
  ·rename_i hsz
   cases hx with
   |ptr hb=>
    cases hst:yB b off (yk v) s with
    |stuck=>exact .stuck
    |panic u s'=>
     exfalso
     unfold yB at hst
     repeat' split at hst
     all_goals cases hst
    |ok n s'=>
     intro _
     obtain⟨rfl,w',h1,h2⟩:=yn h hb hv.cells hst
     refine⟨β,w',.skip,?_,h2,rfl⟩
     have hlen:v'.cells.size=i.size:=by
      have:=hv.cells.length
      rw[Array.length_toList]at this
      rw[this]
      have e:=Nat.eq_of_beq_eq_true hsz
      rw[zH]at e
      omega
     simp[Instr.storeAt,Instr.sureAddr,storeVar,zF hi,hlen,h1]
  ·exact .stuck
 ·exact .stuck
end
end Go.M
namespace Go.M
section
variable{P:Program}{β:Ren}{s:St}{w:World}
theorem room_lt(h:s.room=true):s.next<281474976710655:=by
 simpa[St.room,Nat.blt_eq]using h
theorem Ext.row(h:Rel P β s w)(hroom:s.room=true)(hn:β s.next=none){c:List Value}{c':Array Value}(e:TypeId)(fz:Nat×Nat)
  (hfz:∀i,i<c'.size→¬(fz.1≤i∧i<fz.2)) (hc:∀(i:Nat) (v:Value),c[i]? = some v→∃v',c'[i]? = some v'∧VRel P β v v') :
  Ext P β s w (β.add s.next ⟨w.heap.size,0,c'.size,e,false⟩) (s.new (.cells c e)) {w with heap:=w.heap.push (.cells c' e fz)}:=
 Ext.new h (room_lt hroom) hn rfl (.cells rfl Z3 (by
  cases hn:c.length with
  |zero=>exact .inl rfl
  |succ q=>
   right
   obtain⟨v',h1,_⟩:=hc q c[q] (by simp[hn])
   rcases Nat.lt_or_ge q c'.size with hh|hh
   ·simp only;omega
   ·rw[Array.getElem?_eq_none hh]at h1;cases h1) (fun i _ hi=>hfz i hi) hc)
theorem free_new{o:MObj}(hf:Free β s (s.new o)):β s.next=none:=hf s.next Z3 Y8
theorem box_sound(h:Rel P β s w){e:TypeId}{c:List Value}{x':Value}(hx:LRel P β c x'.cells.toList) :
  OpS P β s w (boxM e c s) ((zu (Instr.box e x')).run P w):=by
 unfold boxM
 split
 ·rename_i hroom
  intro hf
  have hn:=free_new hf
  refine⟨_,_,.value (.pointer (some ⟨w.heap.size,0,none⟩)),?_,Ext.row h hroom hn e (0,0) Y8 (c':=x'.cells) (fun i v hv=>?_),_,rfl,?_⟩
  ·simp[zu,Instr.box,newVar,newRow]
  ·obtain⟨v',h1,h2⟩:=hx.get hv
   exact⟨v',by simpa using h1,h2⟩
  ·exact VRel.ptr (m:=⟨w.heap.size,0,x'.cells.size,e,false⟩) Ren.add_self
 ·exact .stuck
theorem plain1_rel{v:Value}(h:xv v=true):VRel P β v v:=by
 cases v with
 |pointer a=>cases a with
  |none=>exact .pnil
  |some a=>simp[xv]at h
 |map r=>cases r with
  |none=>exact .mnil
  |some r=>simp[xv]at h
 |slice a l c=>
  cases a with
  |some a=>simp[xv]at h
  |none=>
   cases l with
   |succ l=>simp[xv]at h
   |zero=>cases c with
    |succ c=>simp[xv]at h
    |zero=>exact .snil
 |bool b=>exact .bool b
 |int k n=>exact .int k n
 |float k n=>exact .float k n
 |complex k a b=>exact .complex k a b
 |string t=>exact .string t
 |nilFunc=>exact .nilFunc
 |nilIface=>exact .nilIface
 |_=>simp[xv]at h
theorem xu{l:List Value}(h:l.all xv=true):LRel P β l l:=by
 induction l with
 |nil=>exact .nil
 |cons v l ih=>simp only[List.all_cons,Bool.and_eq_true]at h;exact .cons (plain1_rel h.1) (ih h.2)
theorem plainZ_rel{v:Value}(h:plainZ v=true):VRel P β v v:=by
 unfold plainZ at h
 cases v with
 |agg cs=>exact .agg (xu h)
 |_=>exact plain1_rel (by simpa[yk]using h)
theorem cellsL_eq(v:Value):v.cells.toList=yk v:=by cases v<;>rfl
theorem alloc_sound(h:Rel P β s w){e:TypeId}:OpS P β s w (guarded (zeroB P e) (allocM P e s)) ((zu (Instr.alloc e true (.tuple #[]))).run P w):=by
 unfold guarded
 split
 ·rename_i hz
  unfold allocM
  split
  ·rename_i i hi
   split
   ·rename_i z hz'
    have hpl:plainZ z=true:=by simpa[zeroB,hi,hz']using hz
    have:=box_sound (P:=P) (β:=β) (s:=s) (w:=w) h (e:=e) (c:=yk z) (x':=z) (by rw[cellsL_eq];exact xu hpl)
    simpa[zu,Instr.box,Instr.alloc,z7 hi hz']using this
   ·exact .stuck
  ·exact .stuck
 ·exact .stuck
theorem field_sound(h:Rel P β s w){t:TypeId}{x x':Value}{f:Nat}(hx:VRel P β x x'):OpS P β s w (fieldM P t x f s) ((zu (Instr.fieldAt t x' f)).run P w):=by
 unfold fieldM
 split
 ·rename_i b off n hoff
  cases hx with
  | @ptr _ _ m hb=>
   unfold offF at hoff
   split at hoff
   ·rename_i fields hu
    split at hoff
    ·rename_i fd hfd
     rw[zC]at hfd
     split at hoff
     ·rename_i i hi
      split at hoff
      ·cases hoff
      ·rename_i k hk
       cases hoff
       refine .value h (v':=.pointer (some ⟨m.blk,(off+fd.offset)+m.sh,none⟩)) (.ptr hb) ?_
       have hf':fields[f]? = some fd:=by simpa using hfd
       have e1:off+m.sh+fd.offset=off+fd.offset+m.sh:=by omega
       simp[zu,Instr.fieldAt,run_underlying hu,hf',Instr.sureAddr,fieldPlace,zF hi,hk,xF,e1]
     ·cases hoff
    ·cases hoff
   ·cases hoff
 ·exact .stuck
theorem indexAt_sound(h:Rel P β s w){n len b off sz:Nat}{m:Img}(hb:β b=some m){r':Result Next}
  (hr:n<len→r'=.ok (.value (.pointer (some ⟨m.blk,off+n*sz+m.sh,none⟩))) w):OpS P β s w (yP n len b off sz s) r':=by
 unfold yP
 split
 ·rename_i hlt
  exact .value h (.ptr hb) (hr (by simpa[Nat.blt_eq]using hlt))
 ·exact .stuck
theorem index_sound(h:Rel P β s w){t:TypeId}{x x' i i':Value}(hx:VRel P β x x')(hi:VRel P β i i') :
  OpS P β s w (qB P t x i s) ((zu (Instr.indexAt t x' i')).run P w):=by
 unfold qB
 split
 ·rename_i k n
  cases hi with
  |int=>
  split
  ·rename_i q sz b off len cap hel
   unfold elemF at hel
   split at hel
   ·rename_i e hu
    split at hel
    ·rename_i inf hinf
     simp at hel
     obtain⟨_,rfl⟩:=hel
     have key:∀(m:Img) (cap':Nat),n<len→(zu (Instr.indexAt t (.slice (some ⟨m.blk,off+m.sh,none⟩) len cap') (.int k (Int.ofNat n)))).run P w=.ok (.value (.pointer (some ⟨m.blk,off+n*inf.size+m.sh,none⟩))) w:=by
      intro m cap' hlt
      have e1:off+m.sh+n*inf.size=off+n*inf.size+m.sh:=by omega
      simp[zu,Instr.indexAt,asIntOf,run_underlying hu,zF hinf,xF,e1]
      intro hh;omega
     cases hx with
     |sknown hb=>exact indexAt_sound h hb (key _ _)
     |sgrown hb _ _=>exact indexAt_sound h hb (key _ _)
     |sempty hb _=>unfold yP;simp;exact .stuck
     |szero hb=>unfold yP;simp;exact .stuck
    ·cases hel
   ·rename_i k' e hu
    split at hel<;>simp at hel
   ·cases hel
  ·rename_i len sz b off hel
   unfold elemF at hel
   split at hel
   ·rename_i e hu
    split at hel<;>simp at hel
   ·rename_i k' e hu
    split at hel
    ·rename_i inf hinf
     simp at hel
     obtain⟨rfl,rfl⟩:=hel
     cases hx with
     | @ptr _ _ m hb=>
      refine indexAt_sound h hb fun hlt=>?_
      have e1:off+m.sh+n*inf.size=off+n*inf.size+m.sh:=by omega
      simp[zu,Instr.indexAt,asIntOf,run_underlying hu,Instr.sureAddr,zF hinf,xF,e1]
      intro hh;omega
    ·cases hel
   ·cases hel
  ·exact .stuck
 ·exact .stuck
inductive Scalar:Sem Value→Prop where
 |val {v:Value} (h:xv v=true):Scalar (.pure v)
 |err (m:String):Scalar (runtimePanic (.error m))
 |stuck (m:String):Scalar (Go.stuck m)
 |unsupported (u:Unsupported):Scalar (Go.unsupported u)
theorem Scalar.sound(h:Rel P β s w){x:Sem Value}(hx:Scalar x):OpS P β s w ((xR P x s).map .value) ((zu x).run P w):=by
 cases hx with
 |val hv=>exact .value h (plain1_rel hv) rfl
 |err m=>
  intro _
  exact⟨β,w,_,rfl,Ext.refl h,.iface (.string _)⟩
 |stuck m=>exact .stuck
 |unsupported u=>exact .stuck
theorem scalar_int(op:BinOp)(t:TypeId)(k k':IntKind)(a b:Int):Scalar (binOp op t (.int k a) (.int k' b)):=by
 by_cases hk:k=k'
 ·subst hk
  cases op<;>simp only[binOp,Op.shift,Op.intArith,Op.intDiv,Op.intBits,Op.intCmp,ne_eq,not_true_eq_false,if_false]<;>(repeat' split) <;>
   first|exact .val rfl|exact .err _|exact .stuck _
 ·cases op<;>simp only[binOp,Op.shift,Op.intArith,Op.intDiv,Op.intBits,Op.intCmp,ne_eq,hk,not_false_eq_true,if_true]<;>(repeat' split) <;>
   first|exact .val rfl|exact .err _|exact .stuck _
theorem scalar_string(op:BinOp)(t:TypeId)(a b:ByteArray):Scalar (binOp op t (.string a) (.string b)):=by
 cases op<;>simp only[binOp,Op.stringOp]<;>(repeat' split)<;>first|exact .val rfl|exact .stuck _|exact .unsupported _
theorem scalar_unary(op:UnOp)(k:IntKind)(n:Int):Scalar (Op.unary op (.int k n)):=by
 cases op<;>simp only[Op.unary,Op.intArith,Op.intBits]<;>first|exact .val rfl|exact .stuck _
theorem wrap_of_in{n:Int}(h:inI64 n=true):IntKind.i64.wrap n=n:=by
 apply IntWalk.i64_in
 cases n with
 |ofNat a=>simp only[inI64,Nat.ble_eq]at h;simp only[Int.ofNat_eq_natCast];omega
 |negSucc a=>simp only[inI64,Nat.ble_eq]at h;simp only[Int.negSucc_eq];omega
theorem ile_eq(a b:Int):ile a b=decide (a≤b):=by
 cases a with
 |ofNat a=>cases b with
  |ofNat b=>simp only[ile];rw[Bool.eq_iff_iff];simp
  |negSucc b=>simp only[ile];rw[eq_comm,decide_eq_false_iff_not,Int.ofNat_eq_natCast,Int.negSucc_eq];omega
 |negSucc a=>cases b with
  |ofNat b=>simp only[ile];rw[eq_comm,decide_eq_true_eq,Int.ofNat_eq_natCast,Int.negSucc_eq];omega
  |negSucc b=>simp only[ile];rw[Bool.eq_iff_iff,Nat.ble_eq,decide_eq_true_eq,Int.negSucc_eq,Int.negSucc_eq];omega
theorem ieq_eq(a b:Int):ieq a b=(a==b):=by
 cases a with
 |ofNat a=>cases b with
  |ofNat b=>simp only[ieq];rw[Bool.eq_iff_iff,Nat.beq_eq,beq_iff_eq,Int.ofNat_eq_natCast,Int.ofNat_eq_natCast];omega
  |negSucc b=>simp only[ieq];rfl
 |negSucc a=>cases b with
  |ofNat b=>simp only[ieq];rfl
  |negSucc b=>simp only[ieq];rw[Bool.eq_iff_iff,Nat.beq_eq,beq_iff_eq,Int.negSucc_inj]
theorem fits_eq{n:Int}{v:Value}(h:fits n=some v):v=.int .i64 (IntKind.i64.wrap n):=by
 unfold fits at h
 split at h
 ·rename_i hn;cases h;rw[wrap_of_in hn]
 ·cases h
theorem int64F_sound{op:BinOp}{a b:Int}{v:Value}(h:yI op a b=some v)(t:TypeId):binOp op t (.int .i64 a) (.int .i64 b)=.pure v∧xv v=true:=by
 cases op<;>simp only[yI,Option.some.injEq,reduceCtorEq]at h<;>simp only[binOp,Op.intArith,Op.intCmp,ne_eq,not_true_eq_false,if_false]
 case add=>rw[fits_eq h];exact⟨rfl,rfl⟩
 case sub=>rw[fits_eq h];exact⟨rfl,rfl⟩
 case mul=>rw[fits_eq h];exact⟨rfl,rfl⟩
 all_goals
  subst h
  refine⟨?_,rfl⟩
  simp only[ile_eq,ieq_eq,Pure.pure,Sem.pure.injEq,Value.bool.injEq] <;>
   first
    |rfl
    |(rw[Bool.eq_iff_iff];simp only[Bool.not_eq_true',decide_eq_false_iff_not,decide_eq_true_eq];omega)
theorem int_sound(h:Rel P β s w)(op:BinOp)(t:TypeId)(k k':IntKind)(a b:Int) :
  OpS P β s w (intM P op t k k' a b s) ((zu (binOp op t (.int k a) (.int k' b))).run P w):=by
 unfold intM
 split
 ·split
  ·rename_i v hv
   obtain⟨h1,h2⟩:=int64F_sound hv t
   exact .value h (plain1_rel h2) (by rw[h1];rfl)
  ·exact(scalar_int op t _ _ a b).sound h
 ·exact(scalar_int op t _ _ a b).sound h
theorem run_eqGuard'{op:BinOp}{t:TypeId}{x y:Operand}{a b:Value}(h1:a≠.nilIface)(h2:∀cs,a≠.agg cs)(w:World):(eqGuard op t x y a b).run P w=.ok () w:=by
 unfold eqGuard
 cases op<;>cases a<;>first|rfl|(exact(h1 rfl).elim)|(exact(h2 _ rfl).elim)
def eqSem(op:BinOp)(t:TypeId)(x y:Operand)(a b:Value):Sem Value:=do eqGuard op t x y a b;binOp op t a b
theorem VRel.guard{x x':Value}(h:VRel P β x x')(h1:x≠.nilIface)(h2:∀cs,x≠.agg cs):x'≠.nilIface∧∀cs,x'≠.agg cs:=by
 cases h<;>first|(exact(h1 rfl).elim)|(exact(h2 _ rfl).elim)|(exact⟨by simp,by simp⟩)
theorem eqV_sound{d:TypeDesc}{t:TypeId}{x y x' y':Value}{r:Bool}(hu:P.underlying t=some d)(hx:VRel P β x x')(hy:VRel P β y y')(h:eqV d x y=some r)(w:World) :
  (Op.equal t x' y').run P w=.ok r w∧(x≠.nilIface∧∀cs,x≠.agg cs)∧(binOp .eql t x' y'=Op.equal t x' y' >>= fun b=>pure (.bool b))∧(binOp .neq t x' y'=Op.equal t x' y' >>= fun b=>pure (.bool !b)):=by
 have key:∀r',(∀q,(Op.equalIn (q+1) t x' y').run P w=.ok r' w)→(Op.equal t x' y').run P w=.ok r' w:=fun _ h=>h 9999
 unfold eqV at h
 cases d<;>simp only at h
 case bool=>
  split at h<;>cases h
  cases hx;cases hy
  exact⟨key _ V6,⟨by simp,by simp⟩,rfl,rfl⟩
 case pointer e=>
  split at h<;>cases h
  ·cases hx
   cases hy
   ·exact⟨key _ V6,⟨by simp,by simp⟩,rfl,rfl⟩
   ·exact⟨key _ V6,⟨by simp,by simp⟩,rfl,rfl⟩
  ·cases hx
   cases hy
   exact⟨key _ V6,⟨by simp,by simp⟩,rfl,rfl⟩
 case slice e=>
  split at h<;>cases h
  ·cases hx
   cases hy<;>exact⟨key _ V6,⟨by simp,by simp⟩,rfl,rfl⟩
  ·cases hy
   cases hx<;>exact⟨key _ V6,⟨by simp,by simp⟩,rfl,rfl⟩
 case map k e=>
  split at h<;>cases h
  ·cases hx
   cases hy<;>exact⟨key _ V6,⟨by simp,by simp⟩,rfl,rfl⟩
  ·cases hx
   cases hy
   exact⟨key _ V6,⟨by simp,by simp⟩,rfl,rfl⟩
 case func ps rs v=>
  split at h<;>cases h
  ·cases hx;cases hy
   exact⟨key _ V6,⟨by simp,by simp⟩,rfl,rfl⟩
  ·have hk:∀q fn a b,(Op.equalIn (q+1) t .nilFunc (.func fn a b)).run P w=.ok false w:=fun q fn a b=>by simp[Op.equalIn,run_underlying hu]
   cases hx;cases hy<;>exact⟨key _ (fun q=>hk q _ _ _),⟨nofun,nofun⟩,rfl,rfl⟩
  ·have hk:∀q fn a b,(Op.equalIn (q+1) t (.func fn a b) .nilFunc).run P w=.ok false w:=fun q fn a b=>by simp[Op.equalIn,run_underlying hu]
   cases hy;cases hx<;>exact⟨key _ (fun q=>hk q _ _ _),⟨nofun,nofun⟩,rfl,rfl⟩
 all_goals cases h
theorem eq_sound(h:Rel P β s w){op:BinOp}{t:TypeId}{x y x' y':Value}(hx:VRel P β x x')(hy:VRel P β y y')(a b:Operand) :
  OpS P β s w (eqM P op t x y s) ((zu (eqSem op t a b x' y')).run P w):=by
 unfold eqM
 split
 ·rename_i d hu
  split
  ·rename_i r hr
   obtain⟨h1,⟨h2,h3⟩,h4,_⟩:=eqV_sound hu hx hy hr w
   obtain⟨g1,g2⟩:=hx.guard h2 h3
   exact .value h (.bool _) (zx (by simp[eqSem,run_eqGuard' g1 g2,h4,h1]))
  ·rename_i r hr
   obtain⟨h1,⟨h2,h3⟩,_,h4⟩:=eqV_sound hu hx hy hr w
   obtain⟨g1,g2⟩:=hx.guard h2 h3
   exact .value h (.bool _) (zx (by simp[eqSem,run_eqGuard' g1 g2,h4,h1]))
  ·exact .stuck
 ·exact .stuck
theorem bin_sound(h:Rel P β s w){op:BinOp}{t:TypeId}{x y x' y':Value}(hx:VRel P β x x')(hy:VRel P β y y')(a b:Operand) :
  OpS P β s w (qt P op t x y s) ((zu (eqSem op t a b x' y')).run P w):=by
 unfold qt
 split
 ·rename_i k p k' q
  cases hx;cases hy
  have:=int_sound h op t k k' p q
  have e:(zu (eqSem op t a b (.int k p) (.int k' q))).run P w=(zu (binOp op t (.int k p) (.int k' q))).run P w:=by
   simp[zu,eqSem,run_eqGuard' (P:=P) (a:=.int k p) Y8 Y8]
  rw[e];exact this
 ·rename_i p q
  cases hx;cases hy
  have:=(scalar_string op t p q).sound h
  have e:(zu (eqSem op t a b (.string p) (.string q))).run P w=(zu (binOp op t (.string p) (.string q))).run P w:=by
   simp[zu,eqSem,run_eqGuard' (P:=P) (a:=.string p) Y8 Y8]
  rw[e];exact this
 ·exact eq_sound h hx hy a b
theorem un_sound(h:Rel P β s w){op:UnOp}{x x':Value}(hx:VRel P β x x'):OpS P β s w (unM P op x s) ((zu (Op.unary op x')).run P w):=by
 unfold unM
 split
 ·split
  ·cases hx;exact .value h (.bool _) rfl
  ·exact .stuck
 ·rename_i k n
  cases hx;exact(scalar_unary op k n).sound h
 ·exact .stuck
theorem extract_sound(h:Rel P β s w){x x':Value}{i:Nat}(hx:VRel P β x x'):OpS P β s w (extractM x i s) ((zu (Instr.extract x' i)).run P w):=by
 unfold extractM
 split
 ·cases hx with
  |tuple hl=>
   split
   ·rename_i v hv
    rw[zC]at hv
    obtain⟨v',h1,h2⟩:=hl.get hv
    exact .value h h2 (zx (by simp[Instr.extract,h1]))
   ·exact .stuck
 ·exact .stuck
theorem pick_sound(h:Rel P β s w){c a b c' a' b':Value}(hc:VRel P β c c')(ha:VRel P β a a')(hb:VRel P β b b') :
  OpS P β s w (pickM c a b s) ((do pure (Next.value (if ←asBool c' then a' else b')):Sem Next).run P w):=by
 unfold pickM
 split
 ·cases hc;exact .value h ha rfl
 ·cases hc;exact .value h hb rfl
 ·exact .stuck
theorem iface_sound(h:Rel P β s w){t:TypeId}{x x':Value}(hx:VRel P β x x'):OpS P β s w (ifaceM P t x s) ((zu (Instr.makeInterface t x')).run P w):=by
 unfold ifaceM
 split
 ·exact .stuck
 ·rename_i d n hu
  refine .value h (.iface hx) (zx ?_)
  simp only[Instr.makeInterface,Sem.run_bind,run_underlying hu,Result.andThen_ok]
  cases d<;>first|rfl|(exact(n _ rfl).elim)
 ·exact .stuck
theorem panic_sound(h:Rel P β s w){x x':Value}(hx:VRel P β x x'):OpS P β s w (panicM x s) ((zu (Instr.panic x')).run P w):=by
 unfold panicM
 split
 ·cases hx with
  |iface hv=>exact fun _=>⟨β,w,_,rfl,Ext.refl h,.iface hv⟩
 ·exact .stuck
theorem map_sound(h:Rel P β s w){t:TypeId}:OpS P β s w (mapM s) ((zu (Instr.makeMap t none)).run P w):=by
 unfold mapM
 split
 ·rename_i hroom
  intro hf
  have hn:=free_new hf
  refine⟨_,_,.value (.map (some w.heap.size)),?_,Ext.new h (room_lt hroom) hn (m:=⟨w.heap.size,0,0,0,false⟩) rfl (.map (es':= #[]) rfl Y8),_,rfl,?_⟩
  ·simp[zu,Instr.makeMap]
  ·exact VRel.mref (m:=⟨w.heap.size,0,0,0,false⟩) Ren.add_self
 ·exact .stuck
end
end Go.M
namespace Go.M
section
variable{P:Program}{β:Ren}{s:St}{w:World}
theorem Rel.of_heap(h:Rel P β s w){w':World}(e:w'.heap=w.heap):Rel P β s w' where
  img:=by rw[e];exact h.img
  obj:=by rw[e];exact h.obj
  inj:=h.inj
  ro:=h.ro
  room:=h.room
  top:=h.top
theorem Ext.drew{β':Ren}{s':St}{w' w'':World}(h:Ext P β s w β' s' w')(e:w''.heap=w'.heap)(h1:w''.os=w'.os)(h2:w''.output=w'.output)(h3:w''.tape=w'.tape):Ext P β s w β' s' w'' where
  rel:=h.rel.of_heap e
  le:=h.le
  dom:=h.dom
  next:=h.next
  bar:=h.bar
  prot:=h.prot
  size:=by rw[e];exact h.size
  out:=by rw[e];exact h.out
  same:=h.same
  dead:=h.dead
  fresh:=h.fresh
  os:=h1.trans h.os
  output:=h2.trans h.output
  tape:=h3.trans h.tape
theorem Ext.kill(h:Rel P β s w){b:Nat}(hlt:b<s.next)(hmay:s.may b=true):Ext P β s w β (s.put b none) w:=by
  have hroom:=h.room
  have gp:=fun b'=>St.get_put (s:=s) (b:=b) O none b'
  have live:∀b' o',(s.put b none).get b'=some o'→s.get b'=some o':=fun b' o' hh=>by
    rw[gp]at hh
    split at hh
    · cases hh
    · exact hh
  exact{
    rel:={
      img:=h.img
      obj:=fun b' m' o' hb' hlt' hg'=>h.obj b' m' o' hb' hlt' (live _ _ hg')
      inj:=fun b1 b2 m1 m2 o1 o2 h1 h2 l1 l2 g1 g2 e=>h.inj b1 b2 m1 m2 _ _ h1 h2 l1 l2 (live _ _ g1) (live _ _ g2) e
      ro:=h.ro
      room:=h.room
      top := fun b' hb' => by rw [gp]; split; · rfl
                              · exact h.top b' hb'}
    le:=Ren.le_refl β
    dom:=fun b' m' h1 h2=>by rw[h2]at h1;cases h1
    next:=Nat.le_refl _
    bar:=rfl
    prot:=rfl
    size:=Nat.le_refl _
    out:=fun _ _ _=>rfl
    same:=fun b' hb' hm=>by rw[gp,if_neg (fun e=>by rw[e,hmay]at hm;cases hm)]
    dead := fun b' hb' hd => by rw [gp]; split; · rfl
                                · exact hd
    fresh:=fun b' m' h1 h2=>by rw[h2]at h1;cases h1
    os:=rfl
    output:=rfl
    tape:=rfl}
theorem Ext.move(h:Rel P β s w){b:Nat}{m m₁:Img}{o:MObj}(hb:β b=some m)(hg:s.get b=some o)(hmay:s.may b=true)(hroom:s.room=true)(hn:β s.next=none)
    (hblk:m₁.blk=m.blk) (hro:m₁.ro=false) {o₁:MObj} {w':World} (hsize:w'.heap.size=w.heap.size) (hsame:∀r,r≠m.blk→w'.heap[r]? = w.heap[r]?)
    (hnew:∃o',w'.heap[m.blk]? = some o'∧ORel P β m₁ o₁ o') (hos:w'.os=w.os) (hout:w'.output=w.output) (htape:w'.tape=w.tape) :
    Ext P β s w (β.add s.next m₁) ((s.put b none).new o₁) w':=by
  have hlt:=h.lt hg
  have hr:=h.room
  have hr2:=room_lt hroom
  have gp:∀b',((s.put b none).new o₁).get b'=if b'=s.next then some o₁ else if b'=b then none else s.get b':=fun b'=>by
    rw[St.get_new (s:=s.put b none) (by simpa using by omega) o₁ b',St.get_put (s:=s) (b:=b) O none b']
    rfl
  have hle:β.le (β.add s.next m₁):=Ren.le_add hn
  have at_:∀b m',β.add s.next m₁ b=some m'→b≠s.next→β b=some m':=fun b m' hh ne=>by simpa[Ren.add,ne]using hh
  have img:=h.img b m hb hlt
  exact{
    rel:={
      img:=fun b' m' hb' hlt'=>by
        rw[hsize]
        by_cases e:b'=s.next
        · subst e;rw[Ren.add_self]at hb';cases hb';omega
        · exact h.img b' m' (at_ b' m' hb' e) (by simp at hlt';omega)
      obj:=fun b' m' o' hb' hlt' hg'=>by
        rw[gp]at hg'
        by_cases e:b'=s.next
        · subst e
          rw[if_pos rfl]at hg';cases hg'
          rw[Ren.add_self]at hb';cases hb'
          obtain⟨o'',h1,h2⟩:=hnew
          exact⟨o'',by rw[hblk];exact h1,h2.mono hle⟩
        · rw[if_neg e]at hg'
          split at hg'
          · cases hg'
          · rename_i ne
            have hb'':=at_ b' m' hb' e
            have hlt'':b'<s.next:=by simp at hlt';omega
            obtain⟨o'',h1,h2⟩:=h.obj b' m' o' hb'' hlt'' hg'
            refine⟨o'',?_,h2.mono hle⟩
            rw[hsame m'.blk (fun e=>(h.inj b' b m' m o' o hb'' hb hlt'' hlt hg' hg e).elim ne fun hr=>h.wr hb hlt hmay hr.2)]
            exact h1
      inj:=fun b1 b2 m1 m2 o1 o2 h1 h2 l1 l2 g1 g2 e=>by
        rw[gp]at g1 g2
        have other:∀b2 m2 o2,β.add s.next m₁ b2=some m2→b2<s.next+1→b2≠s.next→(if b2=b then none else s.get b2)=some o2→m2.blk≠m₁.blk:=fun b2 m2 o2 h2 l2 e2 g2 heq=>by
          split at g2
          · cases g2
          · rename_i ne
            exact(h.inj b2 b m2 m o2 o (at_ _ _ h2 e2) hb O hlt g2 hg (by rw[heq,hblk])).elim ne fun hr=>h.wr hb hlt hmay hr.2
        by_cases e1:b1=s.next
        · by_cases e2:b2=s.next
          · exact .inl O
          · rw[if_neg e2]at g2
            subst e1;rw[Ren.add_self]at h1;cases h1
            exact(other b2 m2 o2 h2 (by simpa using l2) e2 g2 e.symm).elim
        · by_cases e2:b2=s.next
          · rw[if_neg e1]at g1
            subst e2;rw[Ren.add_self]at h2;cases h2
            exact(other b1 m1 o1 h1 (by simpa using l1) e1 g1 e).elim
          · rw[if_neg e1]at g1;rw[if_neg e2]at g2
            split at g1
            · cases g1
            · split at g2
              · cases g2
              · exact h.inj b1 b2 m1 m2 o1 o2 (at_ _ _ h1 e1) (at_ _ _ h2 e2) (by simp at l1;omega) (by simp at l2;omega) g1 g2 e
      ro:=fun b' m' h1 l1 hr=>by
        by_cases e1:b'=s.next
        · subst e1;rw[Ren.add_self]at h1;cases h1;rw[hro]at hr;cases hr
        · exact h.ro b' m' (at_ _ _ h1 e1) (by simp at l1;omega) hr
      room:=by simp;omega
      top:=fun b' hb'=>by
        simp at hb'
        rw[gp,if_neg O]
        split
        · rfl
        · exact h.top b' O}
    le:=hle
    dom:=fun b' m' h1 h2=>by
      by_cases e:b'=s.next
      · subst e;simp
      · rw[at_ b' m' h1 e]at h2;cases h2
    next:=by simp
    bar:=rfl
    prot:=rfl
    size:=by omega
    out:=fun r hr hno=>hsame r (fun e=>hno b m o hb hlt hmay hg e.symm)
    same:=fun b' hb' hm=>by rw[gp,if_neg O,if_neg (fun e=>by rw[e,hmay]at hm;cases hm)]
    dead:=fun b' hb' hd=>by
      rw[gp,if_neg O]
      split
      · rfl
      · exact hd
    fresh:=fun b' m' h1 h2=>by
      by_cases e:b'=s.next
      · subst e;rw[Ren.add_self]at h1;cases h1
        exact .inr ⟨b,m,o,hb,hlt,hmay,hg,hblk.symm⟩
      · rw[at_ b' m' h1 e]at h2;cases h2
    os:=hos
    output:=hout
    tape:=htape}
theorem boundM_sound{v v':Option Value}{d n:Nat}(h:yR v d=some n)(hv:∀x,v=some x→∃x',v'=some x'∧VRel P β x x')(hn:v=none→v'=none) :
    (v=none∧v'=none∧n=d)∨∃k,v=some (.int k (.ofNat n))∧v'=some (.int k (.ofNat n)):=by
  cases v with
  |none=>simp[yR]at h;exact .inl ⟨rfl,hn rfl,h.symm⟩
  |some x=>
    obtain⟨x',h1,h2⟩:=hv x rfl
    unfold yR at h
    split at h
    · rename_i e;cases e
    · rename_i k q e
      cases e
      cases h
      cases h2
      exact .inr ⟨k,rfl,h1⟩
    · cases h
theorem run_sliceBound{k:IntKind}{n y:Nat}(code:BoundsCode)(h:n≤y)(w:World):(Instr.sliceBound (.int k (n:Int)) y code).run P w=.ok n w:=by
  simp[Instr.sliceBound,asIntOf]
  intro hh;omega
theorem run_sliceBounds{isS:Bool}{len cap l h m:Nat}{lo hi mx:Option Value}
    (hlo:(lo=none∧l=0)∨∃k,lo=some (.int k (.ofNat l))) (hhi:(hi=none∧h=len∧mx=none)∨∃k,hi=some (.int k (.ofNat h)))
    (hmx:(mx=none∧m=cap)∨∃k,mx=some (.int k (.ofNat m))) (h1:l≤h) (h2:h≤m) (h3:m≤cap) (w:World) :
    (Instr.sliceBounds isS len cap lo hi mx).run P w=.ok (l,h,m) w:=by
  rcases hlo with⟨rfl,rfl⟩|⟨kl,rfl⟩<;>rcases hhi with⟨rfl,rfl,hm0⟩|⟨kh,rfl⟩<;>rcases hmx with⟨rfl,rfl⟩|⟨km,rfl⟩ <;>
    first
      |(cases hm0;done)
      |simp[Instr.sliceBounds,run_sliceBound _ h1,run_sliceBound _ h2,run_sliceBound _ h3]
theorem cut_known{m:Img}{b off l mm c sz len:Nat}(hb:β b=some m) :
    VRel P β (.slice (if Nat.beq mm l then some ⟨b,off,none⟩else(some ⟨b,off,none⟩:Option Addr).map (·.add (l*sz))) len (2*c))
      (.slice (if mm=l then some ⟨m.blk,off+m.sh,none⟩else some ((⟨m.blk,off+m.sh,none⟩:Addr).add (l*sz))) len c):=by
  by_cases e:mm=l
  · have:Nat.beq mm l=true:=by simp[e]
    rw[this,if_pos rfl,if_pos e]
    exact .sknown hb
  · have:Nat.beq mm l=false:=by rw[Bool.eq_false_iff];intro hh;exact e (Nat.eq_of_beq_eq_true hh)
    rw[this,if_neg Y8,if_neg e]
    simp only[Option.map_some,xF]
    rw[show off+m.sh+l*sz=off+l*sz+m.sh by omega]
    exact .sknown hb
theorem bounds_of{lo hi mx lo' hi' mx':Option Value}{len c l h m:Nat}(hl:yR lo 0=some l)(hh:yR hi len=some h)(hm:yR mx c=some m)
    (rlo:∀x,lo=some x→∃x',lo'=some x'∧VRel P β x x') (nlo:lo=none→lo'=none)
    (rhi:∀x,hi=some x→∃x',hi'=some x'∧VRel P β x x') (nhi:hi=none→hi'=none)
    (rmx:∀x,mx=some x→∃x',mx'=some x'∧VRel P β x x') (nmx:mx=none→mx'=none) (hb:(hi.isSome || !mx.isSome)=true) :
    ((lo'=none∧l=0)∨∃k,lo'=some (.int k (.ofNat l)))∧((hi'=none∧h=len∧mx'=none)∨∃k,hi'=some (.int k (.ofNat h))) ∧
      ((mx'=none∧mx=none∧m=c)∨(mx.isSome=true∧∃k,mx'=some (.int k (.ofNat m)))):=by
  refine⟨?_,?_,?_⟩
  · rcases boundM_sound hl rlo nlo with⟨_,h2,h3⟩|⟨k,_,h2⟩
    · exact .inl ⟨h2,h3⟩
    · exact .inr ⟨k,h2⟩
  · rcases boundM_sound hh rhi nhi with⟨h1,h2,h3⟩|⟨k,_,h2⟩
    · subst h1
      refine .inl ⟨h2,h3,nmx ?_⟩
      cases mx with
      |none=>rfl
      |some x=>simp at hb
    · exact .inr ⟨k,h2⟩
  · rcases boundM_sound hm rmx nmx with⟨h1,h2,h3⟩|⟨k,h1,h2⟩
    · exact .inl ⟨h2,h1,h3⟩
    · exact .inr ⟨by simp[h1],k,h2⟩
theorem opt_map_rel{ρ ρ':Operand→Value}{o:Option Operand}(h:∀x,o=some x→VRel P β (ρ x) (ρ' x)) :
    (∀x,o.map ρ=some x→∃x',o.map ρ'=some x'∧VRel P β x x')∧(o.map ρ=none→o.map ρ'=none):=by
  cases o with
  |none=>exact⟨by simp,by simp⟩
  |some q=>exact⟨fun x hx=>by simp at hx;subst hx;exact⟨_,rfl,h q rfl⟩,by simp⟩
theorem run_slice_slice{t e:TypeId}{inf:TypeInfo}(hu:P.underlying t=some (.slice e))(hi:P.info? e=some inf){a:Option Addr}{len cap l h m:Nat}{lo hi' mx:Option Value}
    (hb:(Instr.sliceBounds true len cap lo hi' mx).run P w=.ok (l,h,m) w) :
    (zu (Instr.sliceAt t (.slice a len cap) lo hi' mx)).run P w=.ok (.value (.slice (if m=l then a else a.map (·.add (l*inf.size))) (h-l) (m-l))) w:=by
  simp[zu,Instr.sliceAt,Instr.slice,run_underlying hu,hb,zF hi]
theorem sliceS_sound(h:Rel P β s w){t e:TypeId}{inf:TypeInfo}(hu:P.underlying t=some (.slice e))(hinf:P.info? e=some inf){a:Option Addr}{len cap:Nat}{x':Value}
    (hx:VRel P β (.slice a len cap) x') {known:Bool} (hk:known=true→cap % 2=0) (hk':known=false→cap % 2=1∧rowB e a cap s=true) {lo hi mx lo' hi' mx':Option Value}
    (rlo:∀x,lo=some x→∃x',lo'=some x'∧VRel P β x x') (nlo:lo=none→lo'=none)
    (rhi:∀x,hi=some x→∃x',hi'=some x'∧VRel P β x x') (nhi:hi=none→hi'=none)
    (rmx:∀x,mx=some x→∃x',mx'=some x'∧VRel P β x x') (nmx:mx=none→mx'=none) :
    OpS P β s w (y9 inf.size a len (cap / 2) known lo hi mx s) ((zu (Instr.sliceAt t x' lo' hi' mx')).run P w):=by
  unfold y9
  split
  · rename_i l hh m e1 e2 e3
    split
    · rename_i hbs
      simp only[Bool.and_eq_true,Nat.ble_eq]at hbs
      obtain⟨⟨⟨g1,g2⟩,g3⟩,g4⟩:=hbs
      obtain⟨b1,b2,b3⟩:=bounds_of e1 e2 e3 rlo nlo rhi nhi rmx nmx g4
      -- the model's bounds,for whatever capacity it has that is at least what this machine knows
      have run:∀(a':Option Addr) (cap':Nat),cap / 2≤cap'→(mx=none→known=false∨cap'=cap / 2) →
          (zu (Instr.sliceAt t (.slice a' len cap') lo' hi' mx')).run P w =
            .ok (.value (.slice (if (if mx.isSome then m else cap')=l then a' else a'.map (·.add (l*inf.size))) (hh-l) ((if mx.isSome then m else cap')-l))) w:=by
        intro a' cap' hc _
        refine run_slice_slice hu hinf (run_sliceBounds b1 b2 ?_ g1 ?_ ?_ w)
        · rcases b3 with⟨h1,h2,_⟩|⟨h1,k,h2⟩
          · exact .inl ⟨h1,by simp[h2]⟩
          · exact .inr ⟨k,by simp[h1,h2]⟩
        · rcases b3 with⟨h1,h2,h3⟩|⟨h1,k,h2⟩
          · simp only[h2,Option.isSome_none];simp;omega
          · simp only[h1];simp;omega
        · rcases b3 with⟨h1,h2,h3⟩|⟨h1,k,h2⟩
          · simp[h2]
          · simp only[h1];simp;omega
      split
      · rename_i hkm
        -- the new capacity is known
        cases hx with
        |snil=>
          have hm0:m=0:=by omega
          have hl0:l=0:=by omega
          have hh0:hh=0:=by omega
          subst hm0 hl0 hh0
          refine .value h (v':=.slice none 0 0) ?_ ?_
          · simp;exact .snil
          · rw[run none 0 O (fun _=>.inr rfl)]
            simp
        | @sknown b off _ c mg hb=>
          have hc2:2*c / 2=c:=by omega
          rw[hc2]at *
          have hmm:(if mx.isSome then m else c)=m:=by
            rcases b3 with⟨_,h2,h3⟩|⟨h1,_⟩
            · simp[h2,h3]
            · simp[h1]
          refine .value h (cut_known (m:=mg) hb) ?_
          rw[run _ c O (fun _=>.inr O),hmm]
          simp
        | @szero b off off' mg hb=>
          have hm0:m=0:=by omega
          have hl0:l=0:=by omega
          have hh0:hh=0:=by omega
          subst hm0 hl0 hh0
          refine .value h (.szero (off':=off') hb) ?_
          rw[run _ 0 O (fun _=>.inr rfl)]
          simp
        | @sgrown b off _ c cap' mg hb hc hs=>
          have hc2:(2*c+1) / 2=c:=by omega
          rw[hc2]at *
          have hmx:mx.isSome=true:=by
            cases known with
            |true=>have:=hk rfl;omega
            |false=>simpa using hkm
          refine .value h (cut_known (m:=mg) hb) ?_
          rw[run _ cap' O (fun h0=>by rw[h0]at hmx;simp at hmx),hmx]
          simp
        | @sempty b off off' cap' mg hb hs=>
          have hm0:m=0:=by omega
          have hl0:l=0:=by omega
          have hh0:hh=0:=by omega
          subst hm0 hl0 hh0
          have hmx:mx.isSome=true:=by
            cases known with
            |true=>have:=hk rfl;omega
            |false=>simpa using hkm
          refine .value h (.szero (off':=off') hb) ?_
          rw[run _ cap' O (fun h0=>by rw[h0]at hmx;simp at hmx),hmx]
          simp
      · rename_i hkm
        -- it isn't
        have hk0:known=false:=by cases known<;>simp at hkm;rfl
        have hmx:mx=none:=by cases mx<;>simp[hk0]at hkm;rfl
        obtain⟨hcap,hrow⟩:=hk' hk0
        have hm:m=cap / 2:=by
          rcases b3 with⟨_,_,h3⟩|⟨h1,_⟩
          · exact h3
          · simp[hmx]at h1
        cases hx with
        |snil=>simp at hcap
        |sknown hb=>omega
        |szero hb=>simp at hcap
        | @sgrown b off _ c cap' mg hb hc hs=>
          have hc2:(2*c+1) / 2=c:=by omega
          rw[hc2]at *
          subst hm
          have hsz:P.cellsOf mg.elem=inf.size:=by
            unfold rowB at hrow
            rw[hcap]at hrow
            simp only at hrow
            split at hrow
            · rename_i cc e' hg
              have he:=Nat.eq_of_beq_eq_true hrow
              obtain⟨h1,_⟩:=h.row hb hg
              rw[←h1,←he]
              simp[Program.cellsOf,hinf]
            · cases hrow
          have hrun:=run (some ⟨mg.blk,off+mg.sh,none⟩) cap' O (fun _=>.inl hk0)
          rw[hmx]at hrun
          simp only[Option.isSome_none,Bool.false_eq_true,if_false]at hrun
          by_cases hcl:cap'=l
          · subst hcl
            have:hh=cap':=by omega
            subst this
            have:c=hh:=by omega
            subst this
            simp only[Nat.sub_self,Option.map_some]
            rw[xF,show 2*((2*c+1) / 2-c)+1=1 by omega]
            refine .value h (.sempty hb (off':=off+mg.sh) (cap:=0) O) ?_
            rw[hrun];simp
          · rw[if_neg hcl]at hrun
            simp only[Option.map_some,xF]at hrun ⊢
            rw[show off+mg.sh+l*inf.size=off+l*inf.size+mg.sh by omega]at hrun
            refine .value h (.sgrown hb O ?_) hrun
            rw[hsz]at hs ⊢
            have:(cap'-l)*inf.size+l*inf.size=cap'*inf.size:=by rw[←Nat.add_mul];congr 1;omega
            omega
        | @sempty b off off' cap' mg hb hs=>
          have hl0:l=0:=by omega
          have hh0:hh=0:=by omega
          have hm0:m=0:=by omega
          subst hl0 hh0 hm0
          have hrun:=run (some ⟨mg.blk,off',none⟩) cap' O (fun _=>.inl hk0)
          rw[hmx]at hrun
          simp only[Option.isSome_none,Bool.false_eq_true,if_false]at hrun
          simp only[Nat.sub_self,Nat.mul_zero,Nat.zero_add,Option.map_some,Nat.zero_mul,xF]at hrun ⊢
          refine .value h (.sempty hb (off':=off') (cap:=cap') hs) ?_
          rw[hrun]
          simp
    · exact .stuck
  · exact .stuck
end
end Go.M
