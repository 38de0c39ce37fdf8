/- Each operation of the abstract machine stands for the model's own. -/
import Derived.Test.YtocnbjjmmgolfaaGreatA03
import Derived.Laws.IdiomCopy
import Derived.Laws.Append
import Derived.IntWalk
set_option linter.unusedSimpArgs false
set_option linter.unusedVariables false
set_option linter.unusedSectionVars false
namespace Go.M
def u6(r:Loop)(args:Array Value):Array Value:=(r.params.zip args).foldl (fun tmps (t,a)=>tmps.setIfInBounds t a) r.tmps
def NRel(P:Program)(β:Ren)(w:World)(n a:Next):Prop:=
 match n with
 | .value v=>∃v',a=.value v'∧VRel P β v v'
 | .skip=>a=.skip
 | .enter f args=>∃args',a=.enter f args'∧LRel P β args.toList args'.toList
 | .round b _ args _ _=>∃m r args',β b=some m∧w.heap[m.blk]? = some (.loop r)∧a=.round m.blk r.fn (u6 r args') r.assign r.body∧LRel P β args.toList args'.toList
 |_=>False
def OpS(P:Program)(β:Ren)(s:St)(w:World)(r:Res Next)(b:Result Next):Prop:=
 match r with
 | .ok n s'=>Free β s s'→∃β' w' a,b=.ok a w'∧Ext P β s w β' s' w'∧NRel P β' w' n a
 | .panic v s'=>Free β s s'→∃β' w' v',b=.halt (.panic v') w'∧Ext P β s w β' s' w'∧VRel P β' v v'
 | .stuck=>True
def z3(x:Sem Value):Sem Next:=x >>= fun a=>pure (.value a)
section
variable{P:Program}{β:Ren}{s:St}{w:World}
theorem zW{x:Sem Value}{v:Value}{w':World}(h:x.run P w=.ok v w'):(z3 x).run P w=.ok (.value v) w':=by
 simp[z3,h]
theorem OpS.value(h:Rel P β s w){v v':Value}(hv:VRel P β v v'){a:Result Next}(b:a=.ok (.value v') w):OpS P β s w (okV v s) a:=
 fun _=>⟨β,w,.value v',b,Ext.refl h,v',rfl,hv⟩
theorem OpS.stuck{a:Result Next}:OpS P β s w .stuck a:=trivial
theorem qq{t:TypeId}{i:TypeInfo}(h:P.info? t=some i)(w:World):(typeInfo t).run P w=.ok i w:=by
 simp[typeInfo,h]
theorem z6{t:TypeId}{i:TypeInfo}(h:P.info? t=some i)(w:World):(sizeOf t).run P w=.ok i.size w:=by
 simp[sizeOf,qq h]
theorem y6{t:TypeId}{i:TypeInfo}{z:Value}(h:P.info? t=some i)(a:i.zero=some z)(w:World):(zeroValue t).run P w=.ok z w:=by
 simp[zeroValue,qq h,a]
theorem XO{t:TypeId}(h:zV P t=some none)(w:World):(isAgg t).run P w=.ok false w:=by
 unfold zV at h
 split at h<;>simp at h
 rename_i d i a b hu hi
 simp only[isAgg,Sem.run_bind,run_underlying hu,Result.andThen_ok]
 cases d<;>first|rfl|(exact(a _ rfl).elim)|(exact(b _ _ rfl).elim)
theorem Yw{t:TypeId}{n:Nat}(h:zV P t=some (some n))(w:World):(isAgg t).run P w=.ok true w∧(sizeOf t).run P w=.ok n w:=by
 unfold zV at h
 split at h<;>simp at h
 ·rename_i fs i hu hi
  exact⟨by simp[isAgg,run_underlying hu],by rw[z6 hi,h]⟩
 ·rename_i k e i hu hi
  exact⟨by simp[isAgg,run_underlying hu],by rw[z6 hi,h]⟩
theorem kK(b off i:Nat):(⟨b,off,none⟩:Addr).add i=⟨b,off+i,none⟩:=by
 unfold Addr.add;split<;>simp_all
theorem Rel.row(h:Rel P β s w){b:Nat}{m:Img}{c:List Value}{e:TypeId}(hb:β b=some m)(hg:s.get b=some (.cells c e)) :
 e=m.elem∧∃c' g a,w.heap[m.blk]? = some (.cells c' g a)∧m.size≤c'.size∧((c.length=0∨c.length+m.sh≤m.size)∧∀i,m.sh≤i→i<m.size→¬(a.1≤i∧i<a.2)) ∧
  ∀(i:Nat) (v:Value),c[i]? = some v→∃v',c'[i+m.sh]? = some v'∧VRel P β v v':=by
 obtain⟨o',d,f⟩:=h.obj b m _ hb (h.lt hg) hg
 cases f with
 |cells he hsz hln hfz hc=>exact⟨he,_,_,_,d,hsz,⟨hln,hfz⟩,hc⟩
theorem row_list{c:List Value}{c':Array Value}{sh:Nat}(hc:∀(i:Nat) (v:Value),c[i]? = some v→∃v',c'[i+sh]? = some v'∧VRel P β v v')
 (off n:Nat) (hn:off+n≤c.length):∃a,LRel P β ((c.drop off).take n) a∧a.length=n∧∀j v,a[j]? = some v→c'[off+j+sh]? = some v:=by
 induction n with
 |zero=>exact⟨[],by simp;exact .nil,rfl,by simp⟩
 |succ n k=>
  obtain⟨a,h1,h2,f⟩:=k O
  have b:off+n<c.length:=by omega
  obtain⟨v',d,h⟩:=hc (off+n) c[off+n] (by simp[b])
  refine⟨a++[v'],?_,by simp[h2],?_⟩
  ·have e:(c.drop off).take (n+1)=(c.drop off).take n++[c[off+n]]:=by
    rw[List.take_succ_eq_append_getElem (by simp;omega)]
    simp
   rw[e]
   exact h1.append (.cons h .nil)
  ·intro j v hj
   rw[List.getElem?_append]at hj
   split at hj
   ·exact f j v hj
   ·rename_i hge
    have:j=n:=by
     by_cases hjn:j-a.length=0
     ·omega
     ·obtain⟨q,g⟩:∃q,j-a.length=q+1:=⟨j-a.length-1,by omega⟩
      rw[g]at hj;simp at hj
    subst this
    simp[h2]at hj
    subst hj
    exact d
theorem wb(h:Rel P β s w){b off n:Nat}{m:Img}{c:List Value}{e:TypeId}(hb:β b=some m)(hg:s.get b=some (.cells c e)){l:List Value}
 (hl:y8 n (xw off c)=some l):∃a,(loadCells ⟨m.blk,off+m.sh,none⟩ n).run P w=.ok ⟨a⟩ w∧LRel P β l a:=by
 obtain⟨_,c',e',fz,ho,hsz,hfz,hc⟩:=h.row hb hg
 rw[y7,yU]at hl
 split at hl
 ·rename_i hn
  cases hl
  by_cases f:n=0
  ·subst f
   exact⟨[],by simp[loadCells,loadCellsFrom],by simp;exact .nil⟩
  obtain⟨a,h1,h2,d⟩:=row_list hc off n (by simp at hn;omega)
  refine⟨a,?_,h1⟩
  have:=run_loadCells_list (P:=P) w ⟨m.blk,off+m.sh,none⟩ a (fun j v hj=>by
   rw[kK]
   have:=d j v hj
   simp only[World.cell?,ho]
   rw[show off+m.sh+j=off+j+m.sh by omega]
   simpa using this)
  rw[h2]at this
  exact this
 ·cases hl
theorem VY(h:Rel P β s w){b off:Nat}{m:Img}{c:List Value}{e t:TypeId}(hb:β b=some m)(hg:s.get b=some (.cells c e)){v:Value}
 (hv:jk (zV P t) off c=some v):∃v',(loadVar t ⟨m.blk,off+m.sh,none⟩).run P w=.ok v' w∧VRel P β v v':=by
 unfold jk at hv
 split at hv
 ·rename_i hs
  obtain⟨_,c',e',fz,ho,hsz,hfz,hc⟩:=h.row hb hg
  rw[zJ]at hv
  obtain⟨v',d,f⟩:=hc off v hv
  refine⟨v',?_,f⟩
  have a:w.cell? ⟨m.blk,off+m.sh,none⟩=some v':=by simp[World.cell?,ho,d]
  simp[loadVar,XO hs,a]
 ·rename_i n hs
  split at hv
  ·rename_i l hl
   cases hv
   obtain⟨g,h1,h2⟩:=wb h hb hg hl
   exact⟨.agg ⟨g⟩,by simp[loadVar,Yw hs,h1],.agg h2⟩
  ·cases hv
 ·cases hv
theorem XZ(h:Rel P β s w){t:TypeId}{x x' v:Value}(hx:VRel P β x x')(hv:vY P t x s=some v) :
 ∃a v',x'=.pointer (some a)∧(loadVar t a).run P w=.ok v' w∧VRel P β v v':=by
 unfold vY at hv
 split at hv
 ·rename_i b off
  cases hx with
  |ptr hb=>
   split at hv
   ·rename_i c e hg
    obtain⟨v',h1,h2⟩:=VY h hb hg hv
    exact⟨_,v',rfl,h1,h2⟩
   ·cases hv
 ·cases hv
theorem zez(h:Rel P β s w){t:TypeId}{x x':Value}(hx:VRel P β x x'):OpS P β s w (uF P t x s) ((z3 (Instr.loadAt t x')).run P w):=by
 unfold uF
 split
 ·rename_i v hv
  obtain⟨a,v',rfl,h1,h2⟩:=XZ h hx hv
  exact .value h h2 (zW (by simp[Instr.loadAt,Instr.sureAddr,h1]))
 ·exact .stuck
theorem VRel.cells{v v':Value}(h:VRel P β v v'):LRel P β (yp v) v'.cells.toList:=by
 cases h with
 |agg hl=>exact hl
 |_=>exact .cons (by constructor<;>assumption) .nil
theorem VRel.oneCell{v v':Value}(h:VRel P β v v'):v'.oneCell'=plainCell v:=by
 cases h<;>rfl
theorem LRel.oneCell{l a:List Value}(h:LRel P β l a)(ha:l.all plainCell=true):∀v∈a,v.oneCell'=true:=by
 induction l generalizing a with
 |nil=>cases h;simp
 |cons x l b=>
  cases h with
  |cons h hl=>
   simp only[List.all_cons,aG]at ha
   intro v hv
   simp only[aL]at hv
   rcases hv with rfl|hv
   ·rw[h.oneCell];exact ha.1
   ·exact b hl ha.2 v hv
theorem ja(b:Nat):∀(vs:List Value) (o:Nat) (w:World) (c:Array Value) (e:TypeId) (a:Nat×Nat),w.heap[b]? = some (.cells c e a)→o+vs.length≤c.size →
 ∃c',(w.setCells b o vs).heap[b]? = some (.cells c' e a)∧c'.size=c.size∧(∀i,i<o∨o+vs.length≤i→c'[i]? = c[i]?)∧(∀(j:Nat) (v:Value),vs[j]? = some v→c'[o+j]? = some v)
 | [],o,w,c,e,a,h,_=>⟨c,h,rfl,fun _ _=>rfl,by simp⟩
 |v::r,o,w,c,e,a,h,hl=>by
  have h1:(w.setCell ⟨b,o,none⟩ v).heap[b]? = some (.cells (c.setIfInBounds o v) e a):=by simp[World.setCell,Array.getElem?_modify,h]
  obtain⟨c',g1,g2,d,f⟩:=ja b r (o+1) (w.setCell ⟨b,o,none⟩ v) _ e a h1 (by simp at hl ⊢;omega)
  refine⟨c',g1,by simpa using g2,fun i hi=>?_,fun j x hj=>?_⟩
  ·rw[d i (by simp at hi;omega),Array.getElem?_setIfInBounds_ne (by simp at hi;omega)]
  ·cases j with
   |zero=>
    simp at hj;subst hj
    rw[bK,d o O]
    simp only[aW]at hl
    rw[Array.getElem?_setIfInBounds_self_of_lt O]
   |succ j=>
    have:=f j x (by simpa using hj)
    rw[show o+(j+1)=o+1+j by omega];exact this
theorem wx(b:Nat):∀(vs:List Value) (o:Nat) (w:World),(w.setCells b o vs).heap.size=w.heap.size∧(∀r,r≠b→(w.setCells b o vs).heap[r]? = w.heap[r]?) ∧
 (w.setCells b o vs).os=w.os∧(w.setCells b o vs).output=w.output∧(w.setCells b o vs).tape=w.tape
 | [],_,_=>⟨rfl,fun _ _=>rfl,rfl,rfl,rfl⟩
 |v::r,o,w=>by
  obtain⟨h1,h2,c,d,e⟩:=wx b r (o+1) (w.setCell ⟨b,o,none⟩ v)
  refine⟨by simpa[World.setCells,World.setCell]using h1,fun q a=>?_,c,d,e⟩
  have:=h2 q a
  simpa[World.setCells,World.setCell,Array.getElem?_modify,Ne.symm a]using this
theorem xg(h:Rel P β s w){b off:Nat}{m:Img}{vs k:List Value}(hb:β b=some m)(g:LRel P β vs k){s':St}{n:Next}
 (a:xy b off vs s=.ok n s'):n=.skip∧∃w',(storeCells ⟨m.blk,off+m.sh,none⟩ k).run P w=.ok () w'∧Ext P β s w β s' w':=by
 unfold xy at a
 split at a
 ·rename_i c e hg
  split at a
  ·rename_i c₁ f hp
   cases a
   simp only[aG]at f
   obtain⟨he,c',z,u,ho,hsz,hfz,hc⟩:=h.row hb hg
   obtain⟨hlen,rfl⟩:=WU _ _ _ _ hp
   have hl':=g.length
   have p:vs.length=0∨off+m.sh+vs.length≤c'.size:=by
    cases hvl:vs.length with
    |zero=>exact .inl rfl
    |succ q=>
     right
     have o:off+q<c.length:=by omega
     obtain⟨v',d,_⟩:=hc (off+q) c[off+q] (by simp[o])
     rcases cM (off+q+m.sh) c'.size with y|y
     ·omega
     ·rw[cX y]at d;cases d
   rcases p with D|p
   ·have A:vs=[]:=bO.1 D
    subst A
    cases g
    refine⟨rfl,w,rfl,?_⟩
    refine Ext.write h hb f.2 hg _ rfl (fun _ _=>rfl) ⟨_,ho,?_⟩ rfl rfl rfl
    refine .cells he hsz (by simpa using hfz.1) hfz.2 ?_
    simpa using hc
   have l:=run_storeCells_cells (P:=P) m.blk (off+m.sh) k 0 w (fun j hj=>by
    simp only[World.cell?,ho,bK]
    have:off+m.sh+j<c'.size:=by omega
    simp[this])
    (fun j hj=>by
     simp only[World.frozen?,ho,bK]
     have h1:=hfz.2 (off+m.sh+j) O (by have:=hfz.1;omega)
     simp only[eK,bR]
     by_cases h2:u.1≤off+m.sh+j
     ·exact .inr fun C=>h1 ⟨h2,C⟩
     ·exact .inl h2)
    (g.oneCell f.1)
   rw[bK]at l
   obtain⟨c₂,g1,g2,x,B⟩:=ja m.blk k (off+m.sh) w c' z u ho O
   obtain⟨E,F,G,H,I⟩:=wx m.blk k (off+m.sh) w
   refine⟨rfl,_,l,Ext.write h hb f.2 hg _ E F ⟨_,g1,?_⟩ G H I⟩
   refine .cells he O (by have:=hfz.1;simp only[aQ,bU,bZ];omega) hfz.2 fun i v hv=>?_
   rw[bD,List.getElem?_append]at hv
   split at hv
   ·rename_i o
    simp only[bU]at o
    rw[List.getElem?_take_of_lt O]at hv
    obtain⟨v',d,r⟩:=hc i v hv
    exact⟨v',by rw[x _ O];exact d,r⟩
   ·rename_i t
    simp only[bU]at t hv
    rw[List.getElem?_append]at hv
    split at hv
    ·obtain⟨v',d,r⟩:=g.get hv
     refine⟨v',?_,r⟩
     have:=B _ v' d
     rw[show i+m.sh=off+m.sh+(i-min off c.length)by omega]
     exact this
    ·rename_i hge2
     rw[dX]at hv
     obtain⟨v',d,r⟩:=hc i v (by rw[←hv];congr 1;omega)
     exact⟨v',by rw[x _ O];exact d,r⟩
  ·split at a
   ·cases a
    cases g
    exact⟨rfl,w,rfl,Ext.refl h⟩
   ·cases a
 ·cases a
theorem zbt(h:Rel P β s w){t:TypeId}{x x' v v':Value}(hx:VRel P β x x')(hv:VRel P β v v') :
 OpS P β s w (Xb P t x v s) ((Instr.storeAt t x' v' >>= fun _=>pure Next.skip).run P w):=by
 unfold Xb
 split
 ·rename_i b off i hi
  split
  ·rename_i hsz
   cases hx with
   |ptr hb=>
    cases a:xy b off (yp v) s with
    |stuck=>exact .stuck
    |panic u s'=>
     exfalso
     unfold xy at a
     repeat' split at a
     all_goals cases a
    |ok n s'=>
     intro _
     obtain⟨rfl,w',h1,h2⟩:=xg h hb hv.cells a
     refine⟨β,w',.skip,?_,h2,rfl⟩
     have hlen:v'.cells.size=i.size:=by
      have:=hv.cells.length
      rw[eA]at this
      rw[this]
      have e:=aJ hsz
      rw[yd]at e
      omega
     simp[Instr.storeAt,Instr.sureAddr,storeVar,z6 hi,hlen,h1]
  ·exact .stuck
 ·exact .stuck
end
section
variable{P:Program}{β:Ren}{s:St}{w:World}
theorem wh(h:s.room=true):s.next<281474976710655:=by
 simpa[St.room,Nat.blt_eq]using h
theorem Ext.row(h:Rel P β s w)(a:s.room=true)(hn:β s.next=none){c:List Value}{c':Array Value}(e:TypeId)(b:Nat×Nat)
 (hfz:∀i,i<c'.size→¬(b.1≤i∧i<b.2)) (hc:∀(i:Nat) (v:Value),c[i]? = some v→∃v',c'[i]? = some v'∧VRel P β v v') :
 Ext P β s w (β.add s.next ⟨w.heap.size,0,c'.size,e,false⟩) (s.new (.cells c e)) {w with heap:=w.heap.push (.cells c' e b)}:=
 Ext.new h (wh a) hn rfl (.cells rfl Z3 (by
  cases hn:c.length with
  |zero=>exact .inl rfl
  |succ q=>
   right
   obtain⟨v',h1,_⟩:=hc q c[q] (by simp[hn])
   rcases cM q c'.size with d|d
   ·simp only;omega
   ·rw[cX d]at h1;cases h1) (fun i _ hi=>hfz i hi) hc)
theorem Vi{o:MObj}(hf:Free β s (s.new o)):β s.next=none:=hf s.next Z3 Y8
theorem Jq(h:Rel P β s w){e:TypeId}{c:List Value}{x':Value}(hx:LRel P β c x'.cells.toList) :
 OpS P β s w (XH e c s) ((z3 (Instr.box e x')).run P w):=by
 unfold XH
 split
 ·rename_i a
  intro hf
  have hn:=Vi hf
  refine⟨_,_,.value (.pointer (some ⟨w.heap.size,0,none⟩)),?_,Ext.row h a hn e (0,0) Y8 (c':=x'.cells) (fun i v hv=>?_),_,rfl,?_⟩
  ·simp[z3,Instr.box,newVar,newRow]
  ·obtain⟨v',h1,h2⟩:=hx.get hv
   exact⟨v',by simpa using h1,h2⟩
  ·exact VRel.ptr (m:=⟨w.heap.size,0,x'.cells.size,e,false⟩) Ren.add_self
 ·exact .stuck
theorem jZ{v:Value}(h:ky v=true):VRel P β v v:=by
 cases v with
 |pointer a=>cases a with
  |none=>exact .pnil
  |some a=>simp[ky]at h
 |map r=>cases r with
  |none=>exact .mnil
  |some r=>simp[ky]at h
 |slice a l c=>
  cases a with
  |some a=>simp[ky]at h
  |none=>
   cases l with
   |succ l=>simp[ky]at h
   |zero=>cases c with
    |succ c=>simp[ky]at h
    |zero=>exact .snil
 |bool b=>exact .bool b
 |int k n=>exact .int k n
 |float k n=>exact .float k n
 |complex k a b=>exact .complex k a b
 |string t=>exact .string t
 |nilFunc=>exact .nilFunc
 |nilIface=>exact .nilIface
 |_=>simp[ky]at h
theorem kw{l:List Value}(h:l.all ky=true):LRel P β l l:=by
 induction l with
 |nil=>exact .nil
 |cons v l a=>simp only[List.all_cons,aG]at h;exact .cons (jZ h.1) (a h.2)
theorem KI{v:Value}(h:Xi v=true):VRel P β v v:=by
 unfold Xi at h
 cases v with
 |agg cs=>exact .agg (kw h)
 |_=>exact jZ (by simpa[yp]using h)
theorem jJ(v:Value):v.cells.toList=yp v:=by cases v<;>rfl
theorem zdv(h:Rel P β s w){e:TypeId}:OpS P β s w (wW (zfK P e) (gM P e s)) ((z3 (Instr.alloc e true (.tuple #[]))).run P w):=by
 unfold wW
 split
 ·rename_i d
  unfold gM
  split
  ·rename_i i hi
   split
   ·rename_i z a
    have b:Xi z=true:=by simpa[zfK,hi,a]using d
    have:=Jq (P:=P) (β:=β) (s:=s) (w:=w) h (e:=e) (c:=yp z) (x':=z) (by rw[jJ];exact kw b)
    simpa[z3,Instr.box,Instr.alloc,y6 hi a]using this
   ·exact .stuck
  ·exact .stuck
 ·exact .stuck
theorem zcK(h:Rel P β s w){t:TypeId}{x x':Value}{f:Nat}(hx:VRel P β x x'):OpS P β s w (jj P t x f s) ((z3 (Instr.fieldAt t x' f)).run P w):=by
 unfold jj
 split
 ·rename_i b off n a
  cases hx with
  | @ptr _ _ m hb=>
   unfold ZI at a
   split at a
   ·rename_i fields hu
    split at a
    ·rename_i d c
     rw[zJ]at c
     split at a
     ·rename_i i hi
      split at a
      ·cases a
      ·rename_i k hk
       cases a
       refine .value h (v':=.pointer (some ⟨m.blk,(off+d.offset)+m.sh,none⟩)) (.ptr hb) ?_
       have e:fields[f]? = some d:=by simpa using c
       have e1:off+m.sh+d.offset=off+d.offset+m.sh:=by omega
       simp[z3,Instr.fieldAt,run_underlying hu,e,Instr.sureAddr,fieldPlace,z6 hi,hk,kK,e1]
     ·cases a
    ·cases a
   ·cases a
 ·exact .stuck
theorem jg(h:Rel P β s w){n len b off sz:Nat}{m:Img}(hb:β b=some m){c:Result Next}
 (d:n<len→c=.ok (.value (.pointer (some ⟨m.blk,off+n*sz+m.sh,none⟩))) w):OpS P β s w (xn n len b off sz s) c:=by
 unfold xn
 split
 ·rename_i a
  exact .value h (.ptr hb) (d (by simpa[Nat.blt_eq]using a))
 ·exact .stuck
theorem zcA(h:Rel P β s w){t:TypeId}{x x' i f:Value}(hx:VRel P β x x')(hi:VRel P β i f) :
 OpS P β s w (kU P t x i s) ((z3 (Instr.indexAt t x' f)).run P w):=by
 unfold kU
 split
 ·rename_i k n
  cases hi with
  |int=>
  split
  ·rename_i q sz b off len cap a
   unfold wF at a
   split at a
   ·rename_i e hu
    split at a
    ·rename_i inf c
     simp at a
     obtain⟨_,rfl⟩:=a
     have key:∀(m:Img) (cap':Nat),n<len→(z3 (Instr.indexAt t (.slice (some ⟨m.blk,off+m.sh,none⟩) len cap') (.int k (Int.ofNat n)))).run P w=.ok (.value (.pointer (some ⟨m.blk,off+n*inf.size+m.sh,none⟩))) w:=by
      intro m cap' d
      have e1:off+m.sh+n*inf.size=off+n*inf.size+m.sh:=by omega
      simp[z3,Instr.indexAt,asIntOf,run_underlying hu,z6 c,kK,e1]
      intro g;omega
     cases hx with
     |sknown hb=>exact jg h hb (key _ _)
     |sgrown hb _ _=>exact jg h hb (key _ _)
     |sempty hb _=>unfold xn;simp;exact .stuck
     |szero hb=>unfold xn;simp;exact .stuck
    ·cases a
   ·rename_i k' e hu
    split at a<;>simp at a
   ·cases a
  ·rename_i len sz b off a
   unfold wF at a
   split at a
   ·rename_i e hu
    split at a<;>simp at a
   ·rename_i k' e hu
    split at a
    ·rename_i inf c
     simp at a
     obtain⟨rfl,rfl⟩:=a
     cases hx with
     | @ptr _ _ m hb=>
      refine jg h hb fun d=>?_
      have e1:off+m.sh+n*inf.size=off+n*inf.size+m.sh:=by omega
      simp[z3,Instr.indexAt,asIntOf,run_underlying hu,Instr.sureAddr,z6 c,kK,e1]
      intro g;omega
    ·cases a
   ·cases a
  ·exact .stuck
 ·exact .stuck
inductive Scalar:Sem Value→Prop where
 |val {v:Value} (h:ky v=true):Scalar (.pure v)
 |err (m:String):Scalar (runtimePanic (.error m))
 |stuck (m:String):Scalar (Go.stuck m)
 |unsupported (u:Unsupported):Scalar (Go.unsupported u)
theorem Scalar.sound(h:Rel P β s w){x:Sem Value}(hx:Scalar x):OpS P β s w ((kY P x s).map .value) ((z3 x).run P w):=by
 cases hx with
 |val hv=>exact .value h (jZ hv) rfl
 |err m=>
  intro _
  exact⟨β,w,_,rfl,Ext.refl h,.iface (.string _)⟩
 |stuck m=>exact .stuck
 |unsupported u=>exact .stuck
theorem ZG(op:BinOp)(t:TypeId)(k k':IntKind)(a b:Int):Scalar (binOp op t (.int k a) (.int k' b)):=by
 by_cases hk:k=k'
 ·subst hk
  cases op<;>simp only[binOp,Op.shift,Op.intArith,Op.intDiv,Op.intBits,Op.intCmp,ne_eq,not_true_eq_false,cK]<;>(repeat' split) <;>
   first|exact .val rfl|exact .err _|exact .stuck _
 ·cases op<;>simp only[binOp,Op.shift,Op.intArith,Op.intDiv,Op.intBits,Op.intCmp,ne_eq,hk,not_false_eq_true,dP]<;>(repeat' split) <;>
   first|exact .val rfl|exact .err _|exact .stuck _
theorem Yx(op:UnOp)(k:IntKind)(n:Int):Scalar (Op.unary op (.int k n)):=by
 cases op<;>simp only[Op.unary,Op.intArith,Op.intBits]<;>first|exact .val rfl|exact .stuck _
theorem Q6{n:Int}(h:Ve n=true):IntKind.i64.wrap n=n:=by
 apply IntWalk.i64_in
 cases n with
 |ofNat a=>simp only[Ve,Nat.ble_eq]at h;simp only[eX];omega
 |negSucc a=>simp only[Ve,Nat.ble_eq]at h;simp only[Int.negSucc_eq];omega
theorem zeH(a b:Int):ile a b=decide (a≤b):=by
 cases a with
 |ofNat a=>cases b with
  |ofNat b=>simp only[ile];rw[Bool.eq_iff_iff];simp
  |negSucc b=>simp only[ile];rw[eq_comm,bR,eX,Int.negSucc_eq];omega
 |negSucc a=>cases b with
  |ofNat b=>simp only[ile];rw[eq_comm,aB,eX,Int.negSucc_eq];omega
  |negSucc b=>simp only[ile];rw[Bool.eq_iff_iff,Nat.ble_eq,aB,Int.negSucc_eq,Int.negSucc_eq];omega
theorem ieq_eq(a b:Int):ieq a b=(a==b):=by
 cases a with
 |ofNat a=>cases b with
  |ofNat b=>simp only[ieq];rw[Bool.eq_iff_iff,Nat.beq_eq,beq_iff_eq,eX,eX];omega
  |negSucc b=>simp only[ieq];rfl
 |negSucc a=>cases b with
  |ofNat b=>simp only[ieq];rfl
  |negSucc b=>simp only[ieq];rw[Bool.eq_iff_iff,Nat.beq_eq,beq_iff_eq,Int.negSucc_inj]
theorem zay{n:Int}{v:Value}(h:jh n=some v):v=.int .i64 (IntKind.i64.wrap n):=by
 unfold jh at h
 split at h
 ·rename_i hn;cases h;rw[Q6 hn]
 ·cases h
theorem zan{op:BinOp}{a b:Int}{v:Value}(h:yW op a b=some v)(t:TypeId):binOp op t (.int .i64 a) (.int .i64 b)=.pure v∧ky v=true:=by
 cases op<;>simp only[yW,bF,reduceCtorEq]at h<;>simp only[binOp,Op.intArith,Op.intCmp,ne_eq,not_true_eq_false,cK]
 case add=>rw[zay h];exact⟨rfl,rfl⟩
 case sub=>rw[zay h];exact⟨rfl,rfl⟩
 case mul=>rw[zay h];exact⟨rfl,rfl⟩
 all_goals
  subst h
  refine⟨?_,rfl⟩
  simp only[zeH,ieq_eq,Pure.pure,Sem.pure.injEq,Value.bool.injEq] <;>
   first
    |rfl
    |(rw[Bool.eq_iff_iff];simp only[bC,bR,aB];omega)
theorem int_sound(h:Rel P β s w)(op:BinOp)(t:TypeId)(k k':IntKind)(a b:Int) :
 OpS P β s w (qY P op t k k' a b s) ((z3 (binOp op t (.int k a) (.int k' b))).run P w):=by
 unfold qY
 split
 ·split
  ·rename_i v hv
   obtain⟨h1,h2⟩:=zan hv t
   exact .value h (jZ h2) (by rw[h1];rfl)
  ·exact(ZG op t _ _ a b).sound h
 ·exact(ZG op t _ _ a b).sound h
theorem jW{op:BinOp}{t:TypeId}{x y:Operand}{a b:Value}(h1:a≠.nilIface)(h2:∀cs,a≠.agg cs)(w:World):(eqGuard op t x y a b).run P w=.ok () w:=by
 unfold eqGuard
 cases op<;>cases a<;>first|rfl|(exact(h1 rfl).elim)|(exact(h2 _ rfl).elim)
def Jh(op:BinOp)(t:TypeId)(x y:Operand)(a b:Value):Sem Value:=do eqGuard op t x y a b;binOp op t a b
theorem VRel.guard{x x':Value}(h:VRel P β x x')(h1:x≠.nilIface)(h2:∀cs,x≠.agg cs):x'≠.nilIface∧∀cs,x'≠.agg cs:=by
 cases h<;>first|(exact(h1 rfl).elim)|(exact(h2 _ rfl).elim)|(exact⟨by simp,by simp⟩)
theorem Jg{d:TypeDesc}{t:TypeId}{x y x' f:Value}{r:Bool}(hu:P.underlying t=some d)(hx:VRel P β x x')(c:VRel P β y f)(h:eqV d x y=some r)(w:World) :
 (Op.equal t x' f).run P w=.ok r w∧(x≠.nilIface∧∀cs,x≠.agg cs)∧(binOp .eql t x' f=Op.equal t x' f >>= fun b=>pure (.bool b))∧(binOp .neq t x' f=Op.equal t x' f >>= fun b=>pure (.bool !b)):=by
 have key:∀g,(∀q,(Op.equalIn (q+1) t x' f).run P w=.ok g w)→(Op.equal t x' f).run P w=.ok g w:=fun _ h=>h 9999
 unfold eqV at h
 cases d<;>simp only at h
 case bool=>
  split at h<;>cases h
  cases hx;cases c
  exact⟨key _ V6,⟨by simp,by simp⟩,rfl,rfl⟩
 case pointer e=>
  split at h<;>cases h
  ·cases hx
   cases c
   ·exact⟨key _ V6,⟨by simp,by simp⟩,rfl,rfl⟩
   ·exact⟨key _ V6,⟨by simp,by simp⟩,rfl,rfl⟩
  ·cases hx
   cases c
   exact⟨key _ V6,⟨by simp,by simp⟩,rfl,rfl⟩
 case slice e=>
  split at h<;>cases h
  ·cases hx
   cases c<;>exact⟨key _ V6,⟨by simp,by simp⟩,rfl,rfl⟩
  ·cases c
   cases hx<;>exact⟨key _ V6,⟨by simp,by simp⟩,rfl,rfl⟩
 case map k e=>
  split at h<;>cases h
  ·cases hx
   cases c<;>exact⟨key _ V6,⟨by simp,by simp⟩,rfl,rfl⟩
  ·cases hx
   cases c
   exact⟨key _ V6,⟨by simp,by simp⟩,rfl,rfl⟩
 case func ps rs v=>
  split at h<;>cases h
  ·cases hx;cases c
   exact⟨key _ V6,⟨by simp,by simp⟩,rfl,rfl⟩
  ·have hk:∀q fn a b,(Op.equalIn (q+1) t .nilFunc (.func fn a b)).run P w=.ok false w:=fun q fn a b=>by simp[Op.equalIn,run_underlying hu]
   cases hx;cases c<;>exact⟨key _ (fun q=>hk q _ _ _),⟨nofun,nofun⟩,rfl,rfl⟩
  ·have hk:∀q fn a b,(Op.equalIn (q+1) t (.func fn a b) .nilFunc).run P w=.ok false w:=fun q fn a b=>by simp[Op.equalIn,run_underlying hu]
   cases c;cases hx<;>exact⟨key _ (fun q=>hk q _ _ _),⟨nofun,nofun⟩,rfl,rfl⟩
 all_goals cases h
theorem eq_sound(h:Rel P β s w){op:BinOp}{t:TypeId}{x y x' i:Value}(hx:VRel P β x x')(g:VRel P β y i)(a b:Operand) :
 OpS P β s w (eqM P op t x y s) ((z3 (Jh op t a b x' i)).run P w):=by
 unfold eqM
 split
 ·rename_i d hu
  split
  ·rename_i r f
   obtain⟨h1,⟨h2,c⟩,e,_⟩:=Jg hu hx g f w
   obtain⟨g1,g2⟩:=hx.guard h2 c
   exact .value h (.bool _) (zW (by simp[Jh,jW g1 g2,e,h1]))
  ·rename_i r f
   obtain⟨h1,⟨h2,c⟩,_,e⟩:=Jg hu hx g f w
   obtain⟨g1,g2⟩:=hx.guard h2 c
   exact .value h (.bool _) (zW (by simp[Jh,jW g1 g2,e,h1]))
  ·exact .stuck
 ·exact .stuck
theorem bin_sound(h:Rel P β s w){op:BinOp}{t:TypeId}{x y x' d:Value}(hx:VRel P β x x')(c:VRel P β y d)(a b:Operand) :
 OpS P β s w (qO P op t x y s) ((z3 (Jh op t a b x' d)).run P w):=by
 unfold qO
 split
 ·rename_i k p k' q
  cases hx;cases c
  have:=int_sound h op t k k' p q
  have e:(z3 (Jh op t a b (.int k p) (.int k' q))).run P w=(z3 (binOp op t (.int k p) (.int k' q))).run P w:=by
   simp[z3,Jh,jW (P:=P) (a:=.int k p) Y8 Y8]
  rw[e];exact this
 ·exact eq_sound h hx c a b
theorem un_sound(h:Rel P β s w){op:UnOp}{x x':Value}(hx:VRel P β x x'):OpS P β s w (unM P op x s) ((z3 (Op.unary op x')).run P w):=by
 unfold unM
 split
 ·split
  ·cases hx;exact .value h (.bool _) rfl
  ·exact .stuck
 ·rename_i k n
  cases hx;exact(Yx op k n).sound h
 ·exact .stuck
theorem V8(h:Rel P β s w){x x':Value}{i:Nat}(hx:VRel P β x x'):OpS P β s w (vB x i s) ((z3 (Instr.extract x' i)).run P w):=by
 unfold vB
 split
 ·cases hx with
  |tuple hl=>
   split
   ·rename_i v hv
    rw[zJ]at hv
    obtain⟨v',h1,h2⟩:=hl.get hv
    exact .value h h2 (zW (by simp[Instr.extract,h1]))
   ·exact .stuck
 ·exact .stuck
theorem zej(h:Rel P β s w){c a b c' a' b':Value}(hc:VRel P β c c')(ha:VRel P β a a')(hb:VRel P β b b') :
 OpS P β s w (YA c a b s) ((do pure (Next.value (if ←asBool c' then a' else b')):Sem Next).run P w):=by
 unfold YA
 split
 ·cases hc;exact .value h ha rfl
 ·cases hc;exact .value h hb rfl
 ·exact .stuck
end
section
variable{P:Program}{β:Ren}{s:St}{w:World}
theorem Rel.of_heap(h:Rel P β s w){w':World}(e:w'.heap=w.heap):Rel P β s w' where
 img:=by rw[e];exact h.img
 obj:=by rw[e];exact h.obj
 inj:=h.inj
 ro:=h.ro
 room:=h.room
 top:=h.top
theorem Ext.drew{β':Ren}{s':St}{w' a:World}(h:Ext P β s w β' s' w')(e:a.heap=w'.heap)(h1:a.os=w'.os)(h2:a.output=w'.output)(b:a.tape=w'.tape):Ext P β s w β' s' a where
 rel:=h.rel.of_heap e
 le:=h.le
 dom:=h.dom
 next:=h.next
 bar:=h.bar
 prot:=h.prot
 size:=by rw[e];exact h.size
 out:=by rw[e];exact h.out
 same:=h.same
 dead:=h.dead
 fresh:=h.fresh
 os:=h1.trans h.os
 output:=h2.trans h.output
 tape:=b.trans h.tape
theorem Ext.kill(h:Rel P β s w){b:Nat}(hlt:b<s.next)(d:s.may b=true):Ext P β s w β (s.put b none) w:=by
 have hroom:=h.room
 have f:=fun b'=>St.get_put (s:=s) (b:=b) O none b'
 have live:∀b' o',(s.put b none).get b'=some o'→s.get b'=some o':=fun b' o' g=>by
  rw[f]at g
  split at g
  ·cases g
  ·exact g
 exact{
  rel:={
   img:=h.img
   obj:=fun b' j o' a c i=>h.obj b' j o' a c (live _ _ i)
   inj:=fun l m m1 m2 o1 o2 h1 h2 n l2 g1 g2 e=>h.inj l m m1 m2 _ _ h1 h2 n l2 (live _ _ g1) (live _ _ g2) e
   ro:=h.ro
   room:=h.room
   top:=fun b' a=>by rw[f];split;rfl;exact h.top b' a}
  le:=Ren.le_refl β
  dom:=fun b' j h1 h2=>by rw[h2]at h1;cases h1
  next:=aO _
  bar:=rfl
  prot:=rfl
  size:=aO _
  out:=fun _ _ _=>rfl
  same:=fun b' a k=>by rw[f,aD (fun e=>by rw[e,d]at k;cases k)]
  dead:=fun b' a hd=>by rw[f];split;rfl;exact hd
  fresh:=fun b' j h1 h2=>by rw[h2]at h1;cases h1
  os:=rfl
  output:=rfl
  tape:=rfl}
theorem Ext.move(h:Rel P β s w){b:Nat}{m m₁:Img}{o:MObj}(hb:β b=some m)(hg:s.get b=some o)(d:s.may b=true)(u:s.room=true)(hn:β s.next=none)
 (j:m₁.blk=m.blk) (I:m₁.ro=false) {o₁:MObj} {w':World} (v:w'.heap.size=w.heap.size) (n:∀r,r≠m.blk→w'.heap[r]? = w.heap[r]?)
 (B:∃o',w'.heap[m.blk]? = some o'∧ORel P β m₁ o₁ o') (H:w'.os=w.os) (C:w'.output=w.output) (x:w'.tape=w.tape) :
 Ext P β s w (β.add s.next m₁) ((s.put b none).new o₁) w':=by
 have g:=h.lt hg
 have p:=h.room
 have hr2:=wh u
 have A:∀b',((s.put b none).new o₁).get b'=if b'=s.next then some o₁ else if b'=b then none else s.get b':=fun b'=>by
  rw[St.get_new (s:=s.put b none) (by simpa using by omega) o₁ b',St.get_put (s:=s) (b:=b) O none b']
  rfl
 have t:β.le (β.add s.next m₁):=Ren.le_add hn
 have at_:∀b f,β.add s.next m₁ b=some f→b≠s.next→β b=some f:=fun b f L ne=>by simpa[Ren.add,ne]using L
 have img:=h.img b m hb g
 exact{
  rel:={
   img:=fun b' f a k=>by
    rw[v]
    by_cases e:b'=s.next
    ·subst e;rw[Ren.add_self]at a;cases a;omega
    ·exact h.img b' f (at_ b' f a e) (by simp at k;omega)
   obj:=fun b' f o' a k c=>by
    rw[A]at c
    by_cases e:b'=s.next
    ·subst e
     rw[aF rfl]at c;cases c
     rw[Ren.add_self]at a;cases a
     obtain⟨y,h1,h2⟩:=B
     exact⟨y,by rw[j];exact h1,h2.mono t⟩
    ·rw[aD e]at c
     split at c
     ·cases c
     ·rename_i ne
      have q:=at_ b' f a e
      have l:b'<s.next:=by simp at k;omega
      obtain⟨y,h1,h2⟩:=h.obj b' f o' q l c
      refine⟨y,?_,h2.mono t⟩
      rw[n f.blk (fun e=>(h.inj b' b f m o' o q hb l g c hg e).elim ne fun p=>h.wr hb g d p.2)]
      exact h1
   inj:=fun E i m1 m2 K z h1 h2 D l2 g1 g2 e=>by
    rw[A]at g1 g2
    have other:∀i m2 z,β.add s.next m₁ i=some m2→i<s.next+1→i≠s.next→(if i=b then none else s.get i)=some z→m2.blk≠m₁.blk:=fun i m2 z h2 l2 e2 g2 F=>by
     split at g2
     ·cases g2
     ·rename_i ne
      exact(h.inj i b m2 m z o (at_ _ _ h2 e2) hb O g g2 hg (by rw[F,j])).elim ne fun p=>h.wr hb g d p.2
    by_cases e1:E=s.next
    ·by_cases e2:i=s.next
     ·exact .inl O
     ·rw[aD e2]at g2
      subst e1;rw[Ren.add_self]at h1;cases h1
      exact(other i m2 z h2 (by simpa using l2) e2 g2 e.symm).elim
    ·by_cases e2:i=s.next
     ·rw[aD e1]at g1
      subst e2;rw[Ren.add_self]at h2;cases h2
      exact(other E m1 K h1 (by simpa using D) e1 g1 e).elim
     ·rw[aD e1]at g1;rw[aD e2]at g2
      split at g1
      ·cases g1
      ·split at g2
       ·cases g2
       ·exact h.inj E i m1 m2 K z (at_ _ _ h1 e1) (at_ _ _ h2 e2) (by simp at D;omega) (by simp at l2;omega) g1 g2 e
   ro:=fun b' f h1 D p=>by
    by_cases e1:b'=s.next
    ·subst e1;rw[Ren.add_self]at h1;cases h1;rw[I]at p;cases p
    ·exact h.ro b' f (at_ _ _ h1 e1) (by simp at D;omega) p
   room:=by simp;omega
   top:=fun b' a=>by
    simp at a
    rw[A,aD O]
    split
    ·rfl
    ·exact h.top b' O}
  le:=t
  dom:=fun b' f h1 h2=>by
   by_cases e:b'=s.next
   ·subst e;simp
   ·rw[at_ b' f h1 e]at h2;cases h2
  next:=by simp
  bar:=rfl
  prot:=rfl
  size:=by omega
  out:=fun r p G=>n r (fun e=>G b m o hb g d hg e.symm)
  same:=fun b' a J=>by rw[A,aD O,aD (fun e=>by rw[e,d]at J;cases J)]
  dead:=fun b' a hd=>by
   rw[A,aD O]
   split
   ·rfl
   ·exact hd
  fresh:=fun b' f h1 h2=>by
   by_cases e:b'=s.next
   ·subst e;rw[Ren.add_self]at h1;cases h1
    exact .inr ⟨b,m,o,hb,g,d,hg,j.symm⟩
   ·rw[at_ b' f h1 e]at h2;cases h2
  os:=H
  output:=C
  tape:=x}
theorem uB{v v':Option Value}{d n:Nat}(h:qm v d=some n)(hv:∀x,v=some x→∃x',v'=some x'∧VRel P β x x')(hn:v=none→v'=none) :
 (v=none∧v'=none∧n=d)∨∃k,v=some (.int k (.ofNat n))∧v'=some (.int k (.ofNat n)):=by
 cases v with
 |none=>simp[qm]at h;exact .inl ⟨rfl,hn rfl,h.symm⟩
 |some x=>
  obtain⟨x',h1,h2⟩:=hv x rfl
  unfold qm at h
  split at h
  ·rename_i e;cases e
  ·rename_i k q e
   cases e
   cases h
   cases h2
   exact .inr ⟨k,rfl,h1⟩
  ·cases h
theorem wz{k:IntKind}{n y:Nat}(code:BoundsCode)(h:n≤y)(w:World):(Instr.sliceBound (.int k (n:Int)) y code).run P w=.ok n w:=by
 simp[Instr.sliceBound,asIntOf]
 intro hh;omega
theorem uD{isS:Bool}{len cap l h m:Nat}{lo hi mx:Option Value}
 (b:(lo=none∧l=0)∨∃k,lo=some (.int k (.ofNat l))) (a:(hi=none∧h=len∧mx=none)∨∃k,hi=some (.int k (.ofNat h)))
 (d:(mx=none∧m=cap)∨∃k,mx=some (.int k (.ofNat m))) (h1:l≤h) (h2:h≤m) (e:m≤cap) (w:World) :
 (Instr.sliceBounds isS len cap lo hi mx).run P w=.ok (l,h,m) w:=by
 rcases b with⟨rfl,rfl⟩|⟨kl,rfl⟩<;>rcases a with⟨rfl,rfl,c⟩|⟨kh,rfl⟩<;>rcases d with⟨rfl,rfl⟩|⟨km,rfl⟩ <;>
  first
   |(cases c;done)
   |simp[Instr.sliceBounds,wz _ h1,wz _ h2,wz _ e]
theorem XB{m:Img}{b off l a c sz len:Nat}(hb:β b=some m) :
 VRel P β (.slice (if Nat.beq a l then some ⟨b,off,none⟩else(some ⟨b,off,none⟩:Option Addr).map (·.add (l*sz))) len (2*c))
  (.slice (if a=l then some ⟨m.blk,off+m.sh,none⟩else some ((⟨m.blk,off+m.sh,none⟩:Addr).add (l*sz))) len c):=by
 by_cases e:a=l
 ·have:Nat.beq a l=true:=by simp[e]
  rw[this,aF rfl,aF e]
  exact .sknown hb
 ·have:Nat.beq a l=false:=by rw[cL];intro d;exact e (aJ d)
  rw[this,aD Y8,aD e]
  simp only[cP,kK]
  rw[show off+m.sh+l*sz=off+l*sz+m.sh by omega]
  exact .sknown hb
theorem Jt{lo hi mx d b a:Option Value}{len c l h m:Nat}(hl:qm lo 0=some l)(f:qm hi len=some h)(g:qm mx c=some m)
 (rlo:∀x,lo=some x→∃x',d=some x'∧VRel P β x x') (nlo:lo=none→d=none)
 (rhi:∀x,hi=some x→∃x',b=some x'∧VRel P β x x') (nhi:hi=none→b=none)
 (rmx:∀x,mx=some x→∃x',a=some x'∧VRel P β x x') (nmx:mx=none→a=none) (hb:(hi.isSome || !mx.isSome)=true) :
 ((d=none∧l=0)∨∃k,d=some (.int k (.ofNat l)))∧((b=none∧h=len∧a=none)∨∃k,b=some (.int k (.ofNat h))) ∧
  ((a=none∧mx=none∧m=c)∨(mx.isSome=true∧∃k,a=some (.int k (.ofNat m)))):=by
 refine⟨?_,?_,?_⟩
 ·rcases uB hl rlo nlo with⟨_,h2,e⟩|⟨k,_,h2⟩
  ·exact .inl ⟨h2,e⟩
  ·exact .inr ⟨k,h2⟩
 ·rcases uB f rhi nhi with⟨h1,h2,e⟩|⟨k,_,h2⟩
  ·subst h1
   refine .inl ⟨h2,e,nmx ?_⟩
   cases mx with
   |none=>rfl
   |some x=>simp at hb
  ·exact .inr ⟨k,h2⟩
 ·rcases uB g rmx nmx with⟨h1,h2,e⟩|⟨k,h1,h2⟩
  ·exact .inl ⟨h2,h1,e⟩
  ·exact .inr ⟨by simp[h1],k,h2⟩
theorem u9{ρ ρ':Operand→Value}{o:Option Operand}(h:∀x,o=some x→VRel P β (ρ x) (ρ' x)) :
 (∀x,o.map ρ=some x→∃x',o.map ρ'=some x'∧VRel P β x x')∧(o.map ρ=none→o.map ρ'=none):=by
 cases o with
 |none=>exact⟨by simp,by simp⟩
 |some q=>exact⟨fun x hx=>by simp at hx;subst hx;exact⟨_,rfl,h q rfl⟩,by simp⟩
theorem Qo{t e:TypeId}{inf:TypeInfo}(hu:P.underlying t=some (.slice e))(hi:P.info? e=some inf){a:Option Addr}{len cap l h m:Nat}{lo b mx:Option Value}
 (hb:(Instr.sliceBounds true len cap lo b mx).run P w=.ok (l,h,m) w) :
 (z3 (Instr.sliceAt t (.slice a len cap) lo b mx)).run P w=.ok (.value (.slice (if m=l then a else a.map (·.add (l*inf.size))) (h-l) (m-l))) w:=by
 simp[z3,Instr.sliceAt,Instr.slice,run_underlying hu,hb,z6 hi]
theorem Yu(h:Rel P β s w){t e:TypeId}{inf:TypeInfo}(hu:P.underlying t=some (.slice e))(z:P.info? e=some inf){a:Option Addr}{len cap:Nat}{x':Value}
 (hx:VRel P β (.slice a len cap) x') {known:Bool} (hk:known=true→cap % 2=0) (F:known=false→cap % 2=1∧wg e a cap s=true) {lo hi mx v r y:Option Value}
 (rlo:∀x,lo=some x→∃x',v=some x'∧VRel P β x x') (nlo:lo=none→v=none)
 (rhi:∀x,hi=some x→∃x',r=some x'∧VRel P β x x') (nhi:hi=none→r=none)
 (rmx:∀x,mx=some x→∃x',y=some x'∧VRel P β x x') (nmx:mx=none→y=none) :
 OpS P β s w (xU inf.size a len (cap / 2) known lo hi mx s) ((z3 (Instr.sliceAt t x' v r y)).run P w):=by
 unfold xU
 split
 ·rename_i l A m e1 e2 J
  split
  ·rename_i D
   simp only[aG,Nat.ble_eq]at D
   obtain⟨⟨⟨g1,g2⟩,g3⟩,K⟩:=D
   obtain⟨H,I,B⟩:=Jt e1 e2 J rlo nlo rhi nhi rmx nmx K
   -- the model's bounds,for whatever capacity it has that is at least what this machine knows
   have run:∀(a':Option Addr) (cap':Nat),cap / 2≤cap'→(mx=none→known=false∨cap'=cap / 2) →
    (z3 (Instr.sliceAt t (.slice a' len cap') v r y)).run P w =
     .ok (.value (.slice (if (if mx.isSome then m else cap')=l then a' else a'.map (·.add (l*inf.size))) (A-l) ((if mx.isSome then m else cap')-l))) w:=by
    intro a' cap' hc _
    refine Qo hu z (uD H I ?_ g1 ?_ ?_ w)
    ·rcases B with⟨h1,h2,_⟩|⟨h1,k,h2⟩
     ·exact .inl ⟨h1,by simp[h2]⟩
     ·exact .inr ⟨k,by simp[h1,h2]⟩
    ·rcases B with⟨h1,h2,C⟩|⟨h1,k,h2⟩
     ·simp only[h2,Option.isSome_none];simp;omega
     ·simp only[h1];simp;omega
    ·rcases B with⟨h1,h2,C⟩|⟨h1,k,h2⟩
     ·simp[h2]
     ·simp only[h1];simp;omega
   split
   ·rename_i q
    -- the new capacity is known
    cases hx with
    |snil=>
     have n:m=0:=by omega
     have j:l=0:=by omega
     have i:A=0:=by omega
     subst n j i
     refine .value h (v':=.slice none 0 0) ?_ ?_
     ·simp;exact .snil
     ·rw[run none 0 O (fun _=>.inr rfl)]
      simp
    | @sknown b off _ c o hb=>
     have p:2*c / 2=c:=by omega
     rw[p]at *
     have G:(if mx.isSome then m else c)=m:=by
      rcases B with⟨_,h2,C⟩|⟨h1,_⟩
      ·simp[h2,C]
      ·simp[h1]
     refine .value h (XB (m:=o) hb) ?_
     rw[run _ c O (fun _=>.inr O),G]
     simp
    | @szero b off off' o hb=>
     have n:m=0:=by omega
     have j:l=0:=by omega
     have i:A=0:=by omega
     subst n j i
     refine .value h (.szero (off':=off') hb) ?_
     rw[run _ 0 O (fun _=>.inr rfl)]
     simp
    | @sgrown b off _ c cap' o hb hc hs=>
     have p:(2*c+1) / 2=c:=by omega
     rw[p]at *
     have f:mx.isSome=true:=by
      cases known with
      |true=>have:=hk rfl;omega
      |false=>simpa using q
     refine .value h (XB (m:=o) hb) ?_
     rw[run _ cap' O (fun h0=>by rw[h0]at f;simp at f),f]
     simp
    | @sempty b off off' cap' o hb hs=>
     have n:m=0:=by omega
     have j:l=0:=by omega
     have i:A=0:=by omega
     subst n j i
     have f:mx.isSome=true:=by
      cases known with
      |true=>have:=hk rfl;omega
      |false=>simpa using q
     refine .value h (.szero (off':=off') hb) ?_
     rw[run _ cap' O (fun h0=>by rw[h0]at f;simp at f),f]
     simp
   ·rename_i q
    -- it isn't
    have u:known=false:=by cases known<;>simp at q;rfl
    have f:mx=none:=by cases mx<;>simp[u]at q;rfl
    obtain⟨hcap,g⟩:=F u
    have L:m=cap / 2:=by
     rcases B with⟨_,_,C⟩|⟨h1,_⟩
     ·exact C
     ·simp[f]at h1
    cases hx with
    |snil=>simp at hcap
    |sknown hb=>omega
    |szero hb=>simp at hcap
    | @sgrown b off _ c cap' o hb hc hs=>
     have p:(2*c+1) / 2=c:=by omega
     rw[p]at *
     subst L
     have hsz:P.cellsOf o.elem=inf.size:=by
      unfold wg at g
      rw[hcap]at g
      simp only at g
      split at g
      ·rename_i cc e' hg
       have he:=aJ g
       obtain⟨h1,_⟩:=h.row hb hg
       rw[←h1,←he]
       simp[Program.cellsOf,z]
      ·cases g
     have d:=run (some ⟨o.blk,off+o.sh,none⟩) cap' O (fun _=>.inl u)
     rw[f]at d
     simp only[Option.isSome_none,aX,cK]at d
     by_cases E:cap'=l
     ·subst E
      have:A=cap':=by omega
      subst this
      have:c=A:=by omega
      subst this
      simp only[Nat.sub_self,cP]
      rw[kK,show 2*((2*c+1) / 2-c)+1=1 by omega]
      refine .value h (.sempty hb (off':=off+o.sh) (cap:=0) O) ?_
      rw[d];simp
     ·rw[aD E]at d
      simp only[cP,kK]at d ⊢
      rw[show off+o.sh+l*inf.size=off+l*inf.size+o.sh by omega]at d
      refine .value h (.sgrown hb O ?_) d
      rw[hsz]at hs ⊢
      have:(cap'-l)*inf.size+l*inf.size=cap'*inf.size:=by rw[←dM];congr 1;omega
      omega
    | @sempty b off off' cap' o hb hs=>
     have j:l=0:=by omega
     have i:A=0:=by omega
     have n:m=0:=by omega
     subst j i n
     have d:=run (some ⟨o.blk,off',none⟩) cap' O (fun _=>.inl u)
     rw[f]at d
     simp only[Option.isSome_none,aX,cK]at d
     simp only[Nat.sub_self,Nat.mul_zero,cA,cP,eF,kK]at d ⊢
     refine .value h (.sempty hb (off':=off') (cap:=cap') hs) ?_
     rw[d]
     simp
  ·exact .stuck
 ·exact .stuck
end
section
variable{P:Program}{β:Ren}{s:St}{w:World}
theorem zbA(h:Rel P β s w){t:TypeId}{x x':Value}(hx:VRel P β x x'){lo hi mx f d g:Option Value}
 (rlo:∀x,lo=some x→∃x',f=some x'∧VRel P β x x') (nlo:lo=none→f=none)
 (rhi:∀x,hi=some x→∃x',d=some x'∧VRel P β x x') (nhi:hi=none→d=none)
 (rmx:∀x,mx=some x→∃x',g=some x'∧VRel P β x x') (nmx:mx=none→g=none) :
 OpS P β s w (qk P t x lo hi mx s) ((z3 (Instr.sliceAt t x' f d g)).run P w):=by
 unfold qk
 split
 ·rename_i e hu
  split
  ·rename_i inf a len cap c
   split
   ·rename_i hc
    exact Yu h hu c hx (fun _=>hc) Y8 rlo nlo rhi nhi rmx nmx
   ·rename_i hc
    split
    ·rename_i p
     exact Yu h hu c hx Y8 (fun _=>⟨(Nat.mod_two_eq_zero_or_one cap).resolve_left hc,p⟩) rlo nlo rhi nhi rmx nmx
    ·exact .stuck
  ·exact .stuck
 ·rename_i n e hu
  split
  ·rename_i inf b off c
   cases hx with
   | @ptr _ _ B hb=>
    unfold xU
    split
    ·rename_i l hh m e1 e2 v
     split
     ·rename_i j
      simp only[aG,Nat.ble_eq]at j
      obtain⟨⟨⟨g1,g2⟩,y⟩,z⟩:=j
      obtain⟨q,r,u⟩:=Jt e1 e2 v rlo nlo rhi nhi rmx nmx z
      have i:=uD (P:=P) (isS:=false) q r (cap:=n) (m:=m) (by
       rcases u with⟨h1,_,A⟩|⟨_,k,h2⟩
       ·exact .inl ⟨h1,A⟩
       ·exact .inr ⟨k,h2⟩) g1 g2 y w
      simp only[Bool.true_or]
      refine .value h (XB (m:=B) hb) ?_
      by_cases o:m=l
      ·simp[z3,Instr.sliceAt,Instr.sureAddr,run_underlying hu,i,z6 c,o]
      ·simp[z3,Instr.sliceAt,Instr.sureAddr,run_underlying hu,i,z6 c,o]
     ·exact .stuck
    ·exact .stuck
  ·exact .stuck
 ·exact .stuck
theorem uk(h:Rel P β s w){sz n:Nat}{x x':Value}(hx:VRel P β x x'){l:List Value}(hl:xQ sz n x s=some l)(hn:∀a len cap,x=.slice a len cap→n≤len) :
 ∃d,(Builtin.firstCells sz n x').run P w=.ok ⟨d⟩ w∧LRel P β l d:=by
 unfold xQ at hl
 split at hl
 ·cases hx
  cases hl
  exact⟨[],rfl,.nil⟩
 ·rename_i b off len cap
  have hn':=hn _ _ _ rfl
  split at hl
  ·rename_i c e hg
   have zero:n=0→∀a:Addr,∀len' cap':Nat,(Builtin.firstCells sz n (.slice (some a) len' cap')).run P w=.ok ⟨[]⟩ w∧l=[]:=fun h0 a len' cap'=>by
    subst h0
    simp only[eF]at hl
    refine⟨by simp[Builtin.firstCells,loadCells,loadCellsFrom],?_⟩
    simpa[y8]using hl.symm
   cases hx with
   |sknown hb=>exact wb h hb hg hl
   |sgrown hb _ _=>exact wb h hb hg hl
   |sempty hb _=>
    obtain⟨h1,h2⟩:=zero O _ _ _
    exact⟨[],h1,by rw[h2];exact .nil⟩
   |szero hb=>
    obtain⟨h1,h2⟩:=zero O _ _ _
    exact⟨[],h1,by rw[h2];exact .nil⟩
  ·cases hl
 ·cases hl
theorem Vb{x x':Value}{n:Nat}(hx:VRel P β x x')(hn:zct x=some n):(∀u:World,(Builtin.lenOf x').run P u=.ok n u)∧∀a len cap,x=.slice a len cap→n≤len:=by
 unfold zct at hn
 split at hn
 ·rename_i a len cap
  cases hn
  refine⟨?_,fun a' len' cap' e=>by cases e;exact aO _⟩
  cases hx<;>exact fun _=>rfl
 ·cases hn
  cases hx
  exact⟨fun _=>rfl,by simp⟩
 ·cases hn
def Vd:TypeDesc→Bool
 | .int _=>true
 |_=>false
def VR(P:Program)(w:World)(d:TypeDesc)(inf:TypeInfo)(x':Value)(n:Nat)(new':List Value):Prop:=
 (Vd d=true→x'=.int .i64 (n:Int)∧n≤1000000∧n*(inf.bytes+1)≤1073741824∧∃z,inf.zero=some z∧new'=if n*inf.size=0 then []else(Builtin.zeroCells z.cells n).toList) ∧
 (Vd d=false→(∀u:World,(Builtin.lenOf x').run P u=.ok n u)∧(Builtin.firstCells inf.size n x').run P w=.ok ⟨new'⟩ w)
theorem Qk{z:Array Value}{n:Nat}(h:z.toList.all ky=true)(hz:z.size≠0):(Builtin.zeroCells z n).toList.all ky=true:=by
 rw[List.all_eq_true]at h ⊢
 intro v hv
 simp only[Builtin.zeroCells,Array.toList_map,List.mem_map,Array.mem_toList_iff,Array.mem_range]at hv
 obtain⟨i,hi,rfl⟩:=hv
 have a:i % z.size<z.size:=Nat.mod_lt _ O
 have:z[i % z.size]! = z[i % z.size]:=by simp[a]
 rw[this]
 exact h _ Y8
theorem j6(h:Rel P β s w){d:TypeDesc}{inf:TypeInfo}{x x':Value}(hx:VRel P β x x'){n:Nat}{new:List Value}(hn:newL (some d) inf x s=some (n,new)) :
 ∃new',VR P w d inf x' n new'∧LRel P β new new':=by
 unfold newL at hn
 split at hn
 ·rename_i k e
  cases e
  split at hn
  ·rename_i l z g
   split at hn
   ·rename_i hb
    simp only[aG,Nat.ble_eq]at hb
    obtain⟨⟨h1,h2⟩,f⟩:=hb
    simp only[bF,Prod.mk.injEq]at hn
    obtain⟨rfl,a⟩:=hn
    cases hx
    have hp:newL.plain0=ky:=by
     funext v
     cases v<;>rfl
    rw[hp,←jJ]at f
    by_cases h0:l*inf.size=0
    ·have:Nat.beq (l*inf.size) 0=true:=by rw[h0];rfl
     rw[this]at a
     simp only at a
     subst a
     exact⟨[],⟨fun _=>⟨rfl,h1,h2,z,g,by rw[aF h0]⟩,fun b=>by simp[Vd]at b⟩,.nil⟩
    ·have:Nat.beq (l*inf.size) 0=false:=by rw[cL];intro b;exact h0 (aJ b)
     rw[this]at a
     simp only at a
     subst a
     refine⟨(Builtin.zeroCells z.cells l).toList,⟨fun _=>⟨rfl,h1,h2,z,g,by rw[aD h0]⟩,fun b=>by simp[Vd]at b⟩,?_⟩
     by_cases c:z.cells.size=0
     ·have:(Builtin.zeroCells z.cells l).toList=[]:=by simp[Builtin.zeroCells,c]
      rw[this];exact .nil
     ·exact kw (Qk f c)
   ·cases hn
  ·cases hn
 ·rename_i hd e
  cases e
  split at hn
  ·rename_i k hk
   split at hn
   ·rename_i l hl
    simp only[bF,Prod.mk.injEq]at hn
    obtain⟨rfl,rfl⟩:=hn
    obtain⟨g1,g2⟩:=Vb (P:=P) hx hk
    obtain⟨m,i,j⟩:=uk h hx hl g2
    refine⟨m,⟨fun b=>?_,fun _=>⟨g1,i⟩⟩,j⟩
    cases d<;>simp[Vd]at b
    exact(hd _ rfl).elim
   ·cases hn
  ·cases hn
 ·rename_i e;cases e
theorem jS{n:Nat}(h:n≤1000000):IntKind.i64.wrap (n:Int)=n:=IntWalk.i64_in _ O
theorem kX{argTypes:Array TypeId}{sType xType e:TypeId}{d:TypeDesc}{inf:TypeInfo}(h0:argTypes[0]? = some sType)(h1:argTypes[1]? = some xType)
 (hs:P.underlying sType=some (.slice e)) (hd:P.underlying xType=some d) (hi:P.info? e=some inf) {x':Value} {n:Nat} {new':List Value} (ha:VR P w d inf x' n new')
 {base:Option Addr} {sLen cap:Nat} (b:sLen+n≤cap) (ty:TypeId) :
 (Builtin.append_ argTypes ty #[.slice base sLen cap,x']).run P w =
  (match base with|some a=>(storeCells (a.add (sLen*inf.size)) new').run P w|none=>.ok () w).andThen fun _ w'=>.ok (.slice base (sLen+n) cap) w':=by
 cases d
 case int k=>
  obtain⟨rfl,g1,g2,z,g,rfl⟩:=ha.1 rfl
  have hb:¬((n:Int)*(inf.bytes:Int)>2 ^ 48):=by
   have:n*inf.bytes≤1073741824:=bH (bX _ O) g2
   have h2:((n*inf.bytes:Nat):Int)≤1073741824:=by omega
   rw[Int.natCast_mul]at h2
   omega
  have c:¬((n:Int)<0):=by omega
  by_cases f:n*inf.size=0
  ·simp only[Builtin.append_,h0,h1,List.getElem?_toArray,eP,cQ,Sem.run_bind,run_underlying hs,run_underlying hd,Result.andThen_ok,z6 hi,Sem.run_pure,dP,asInt,asIntOf,jS g1,c,cK,qq hi,hb,Int.toNat_natCast,b,f,eJ,aX]
   cases base<;>simp
  ·simp only[Builtin.append_,h0,h1,List.getElem?_toArray,eP,cQ,Sem.run_bind,run_underlying hs,run_underlying hd,Result.andThen_ok,z6 hi,Sem.run_pure,dP,asInt,asIntOf,jS g1,c,cK,qq hi,hb,Int.toNat_natCast,b,f,eJ,aX,y6 hi g]
   cases base<;>simp
 all_goals
  obtain⟨g1,g2⟩:=ha.2 rfl
  simp only[Builtin.append_,h0,h1,List.getElem?_toArray,eP,cQ,Sem.run_bind,run_underlying hs,run_underlying hd,Result.andThen_ok,z6 hi,Sem.run_pure,aX,cK,g1,b,dP,Bool.not_false,g2]
  cases base<;>simp
theorem W6(n:Nat):∀(r c:Nat),c≤n+(n+768) / 4→Builtin.growBy n r c≤n+(n+768) / 4
 |0,c,h=>h
 |r+1,c,h=>by
  unfold Builtin.growBy
  split
  ·exact h
  ·exact W6 n r _ O
theorem Qq{need cap:Nat}(h:cap<need):Builtin.nextslicecap need cap≤2*need+1000:=by
 unfold Builtin.nextslicecap
 split
 ·omega
 ·split
  ·omega
  ·have:=W6 need 4 cap O;omega
abbrev drewW(w:World):World:={w with drawn:=w.drawn+1}
theorem Ky{argTypes:Array TypeId}{sType xType e:TypeId}{d:TypeDesc}{inf:TypeInfo}(h0:argTypes[0]? = some sType)(h1:argTypes[1]? = some xType)
 (hs:P.underlying sType=some (.slice e)) (hd:P.underlying xType=some d) (hi:P.info? e=some inf) {x':Value} {n:Nat} {new':List Value} (ha:VR P (drewW w) d inf x' n new')
 {base:Option Addr} {sLen cap:Nat} (b:¬sLen+n≤cap) (g:(sLen+n)*(inf.bytes+1)≤1073741824) {z:Value} (h:inf.zero=some z) {old':List Value}
 (ho:(Builtin.firstCells inf.size sLen (.slice base sLen cap)).run P (drewW w)=.ok ⟨old'⟩ (drewW w)) (ty:TypeId) :
 ∃i,sLen+n≤i∧(Builtin.append_ argTypes ty #[.slice base sLen cap,x']).run P w =
  .ok (.slice (some ⟨w.heap.size,0,none⟩) (sLen+n) i) {(drewW w)with heap:=w.heap.push (.cells (⟨old'⟩++⟨new'⟩++Builtin.zeroCells z.cells (i-(sLen+n))) e)}:=by
 have a:¬(((sLen+n:Nat):Int)>IntKind.i64.max):=by
  have:sLen+n≤1073741824:=bH (Nat.le_mul_of_pos_right _ O) g
  have:IntKind.i64.max=9223372036854775807:=by decide
  omega
 have hcap:¬(Builtin.nextslicecap (sLen+n) cap*inf.bytes>2 ^ 48):=by
  have h1:=Qq (need:=sLen+n) (cap:=cap) O
  have h2:Builtin.nextslicecap (sLen+n) cap*inf.bytes≤(2*(sLen+n)+1000)*inf.bytes:=bN _ h1
  have h3:(sLen+n)*inf.bytes≤1073741824:=bH (bX _ O) g
  have h4:inf.bytes≤1073741824:=by
   have:1*(inf.bytes+1)≤(sLen+n)*(inf.bytes+1):=bN _ O
   omega
  rw[dM,Nat.mul_assoc]at h2
  omega
 refine⟨(Question.appendCap (sLen+n) cap e).cut (w.tape w.drawn (Question.appendCap (sLen+n) cap e)),by simp[Question.cut],?_⟩
 cases d
 case int k=>
  obtain⟨rfl,g1,g2,z',j,rfl⟩:=ha.1 rfl
  rw[h]at j;cases j
  have hb:¬((n:Int)*(inf.bytes:Int)>2 ^ 48):=by
   have:n*inf.bytes≤1073741824:=bH (bX _ O) g2
   have h2:((n*inf.bytes:Nat):Int)≤1073741824:=by omega
   rw[Int.natCast_mul]at h2
   omega
  have c:¬((n:Int)<0):=by omega
  by_cases f:n*inf.size=0
  ·simp only[Builtin.append_,h0,h1,List.getElem?_toArray,eP,cQ,Sem.run_bind,run_underlying hs,run_underlying hd,Result.andThen_ok,z6 hi,Sem.run_pure,dP,asInt,asIntOf,jS g1,c,cK,qq hi,hb,Int.toNat_natCast,b,f,eJ,aX,a,false_and,hcap,run_choose,Question.forced,run_askRoom,ho,y6 hi h]
   (simp[newRow];exact⟨rfl,rfl,rfl⟩)
  ·simp only[Builtin.append_,h0,h1,List.getElem?_toArray,eP,cQ,Sem.run_bind,run_underlying hs,run_underlying hd,Result.andThen_ok,z6 hi,Sem.run_pure,dP,asInt,asIntOf,jS g1,c,cK,qq hi,hb,Int.toNat_natCast,b,f,eJ,aX,a,false_and,hcap,run_choose,Question.forced,run_askRoom,ho,y6 hi h]
   (simp[newRow];exact⟨rfl,rfl,rfl⟩)
 all_goals
  obtain⟨g1,g2⟩:=ha.2 rfl
  simp only[Builtin.append_,h0,h1,List.getElem?_toArray,eP,cQ,Sem.run_bind,run_underlying hs,run_underlying hd,Result.andThen_ok,z6 hi,Sem.run_pure,aX,cK,g1,b,dP,Bool.not_false,g2,a,false_and,qq hi,hcap,run_choose,Question.forced,run_askRoom,ho,y6 hi h]
  (simp[newRow];exact⟨rfl,rfl,rfl⟩)
theorem WE(h:Rel P β s w){e:TypeId}{b off cap:Nat}{m:Img}(hb:β b=some m)(d:cap % 2=1)(a:wg e (some ⟨b,off,none⟩) cap s=true) :
 ∃c,s.get b=some (.cells c e)∧e=m.elem:=by
 unfold wg at a
 rw[d]at a
 simp only at a
 split at a
 ·rename_i c e' hg
  have he:=aJ a
  subst he
  exact⟨c,hg,(h.row hb hg).1⟩
 ·cases a
theorem Vg{inf:TypeInfo}{need n:Nat}{new:List Value}(h:Zw inf need n new=true) :
 need*(inf.bytes+1)≤1073741824∧new.all plainCell=true∧new.length=n*inf.size∧∃z,inf.zero=some z∧z.cells.size=inf.size:=by
 unfold Zw at h
 simp only[aG,Nat.ble_eq]at h
 obtain⟨⟨⟨h1,h2⟩,b⟩,a⟩:=h
 have b:=aJ b
 rw[yd]at b
 refine⟨h1,h2,by omega,?_⟩
 split at a
 ·rename_i z c
  have a:=aJ a
  rw[yd]at a
  refine⟨z,c,?_⟩
  have:=jJ z
  rw[←eA,this]
  omega
 ·cases a
theorem uO(z:Array Value)(n:Nat):(Builtin.zeroCells z n).size=n*z.size:=by simp[Builtin.zeroCells]
theorem zes(h:Rel P β s w){e:TypeId}{inf:TypeInfo}(hi:P.info? e=some inf){c c':List Value}(hc:LRel P β c c'){need d:Nat}(hn:need≤d){rest:Array Value}
 (hlen:c.length=need*inf.size) (a:rest.size=(d-need)*inf.size) {k:Result Next}
 (l:k=.ok (.value (.slice (some ⟨w.heap.size,0,none⟩) need d)) {(drewW w)with heap:=w.heap.push (.cells (⟨c'⟩++rest) e)}) :
 OpS P β s w (uK e c need s) k:=by
 unfold uK
 split
 ·rename_i b
  intro hf
  have j:=Vi hf
  have hx:=Ext.row h b j (c:=c) (c':=⟨c'⟩++rest) e (0,0) Y8 (fun i v hv=>by
   obtain⟨v',g1,g2⟩:=hc.get hv
   refine⟨v',?_,g2⟩
   have g:i<c'.length:=by
    rcases cM i c'.length with f|f
    ·exact f
    ·rw[cV f]at g1;cases g1
   rw[Array.getElem?_append_left (by simpa using g)]
   simpa using g1)
  refine⟨_,_,_,l,hx.drew rfl rfl rfl rfl,_,rfl,(VRel.sgrown (m:=⟨w.heap.size,0,(⟨c'⟩++rest:Array Value).size,e,false⟩) Ren.add_self hn ?_)⟩
  simp only[Program.cellsOf,hi,cP,bL,Array.size_append,a]
  have:(⟨c'⟩:Array Value).size=need*inf.size:=by
   show c'.length=_
   rw[hc.length,hlen]
  rw[this,Nat.sub_mul]
  have:need*inf.size≤d*inf.size:=bN _ hn
  omega
 ·exact .stuck
theorem vO{sz n:Nat}{base:Option Addr}{len cap:Nat}{l:List Value}(h:xQ sz n (.slice base len cap) s=some l)(hb:base=none→n=0):l.length=n*sz:=by
 unfold xQ at h
 split at h
 ·rename_i e;cases e
  cases h
  simp[hb rfl]
 ·rename_i e;cases e
  split at h
  ·rw[y7]at h
   split at h
   ·rename_i hle
    cases h
    simp only[bU]
    omega
   ·cases h
  ·cases h
 ·cases h
end
end Go.M
