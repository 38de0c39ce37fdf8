/- The other operations of the abstract machine. -/
/- Conversions, literals, maps; and all operations together. -/
/- Maps; and all operations together. -/
import Derived.Test.YtocnbjjmmgolfaaGreatA05
import Derived.RangeFuncRecord
import Derived.Laws.BytesString
namespace Go.M
section
variable{P:Program}{β:Ren}{s:St}{w:World}
theorem types0{argTypes:Array TypeId}{t:TypeId}{l:List TypeId}(h:argTypes.toList=t::l):argTypes[0]? = some t:=by
 rw[←Array.getElem?_toList,h];rfl
theorem cap_sound(h:Rel P β s w){argTypes:Array TypeId}{args args':List Value}(ha:LRel P β args args')(ty:TypeId) :
  OpS P β s w (capM P argTypes.toList args s) ((zu (Builtin.cap_ argTypes ty ⟨args'⟩)).run P w):=by
 unfold capM
 split
 ·rename_i t rest a len c htypes
  have h0:=types0 htypes
  cases ha with
  | @cons _ y' _ _ hy ha=>
  cases ha
  split
  ·rename_i e hu hc
   have key:∀(a':Option Addr) (len' c':Nat),(zu (Builtin.cap_ argTypes ty ⟨[.slice a' len' c']⟩)).run P w=.ok (.value (.int .i64 (c':Int))) w:=by
    intro a' len' c'
    refine zx ?_
    simp[Builtin.cap_,h0,run_underlying hu,goInt]
   cases hy with
   |snil=>exact .value h (.int _ _) (key _ _ _)
   | @sknown _ _ _ c' _ hb=>
    have:2*c' / 2=c':=by omega
    rw[this]
    exact .value h (.int _ _) (key _ _ _)
   |szero hb=>exact .value h (.int _ _) (key _ _ _)
   |sgrown hb _ _=>omega
   |sempty hb _=>omega
  ·exact .stuck
 ·exact .stuck
theorem len_sound(h:Rel P β s w){argTypes:Array TypeId}{args args':List Value}(ha:LRel P β args args')(ty:TypeId) :
  OpS P β s w (lenM P argTypes.toList args s) ((zu (Builtin.len_ argTypes ty ⟨args'⟩)).run P w):=by
 unfold lenM
 split
 ·rename_i t rest x htypes
  have h0:=types0 htypes
  cases ha with
  | @cons _ y' _ _ hy ha=>
  cases ha
  split
  ·rename_i e a n c hu
   have key:∀(a':Option Addr) (c':Nat),(zu (Builtin.len_ argTypes ty ⟨[.slice a' n c']⟩)).run P w=.ok (.value (.int .i64 (n:Int))) w:=fun a' c'=>
    zx V0
   cases hy<;>exact .value h (.int _ _) (key _ _)
  ·rename_i b hu
   cases hy
   exact .value h (.int _ _) (zx V0)
  ·rename_i n e hu
   exact .value h (.int _ _) (zx V0)
  ·rename_i k e hu
   cases hy
   exact .value h (.int _ _) (zx V0)
  ·rename_i k e r hu
   cases hy with
   |mref hb=>
    split
    ·rename_i es c hg
     obtain⟨o',ho,hor⟩:=h.obj _ _ _ hb (h.lt hg) hg
     cases hor with
     |map hlen he=>
      refine .value h (.int _ _) (zx ?_)
      simp[Builtin.len_,h0,run_underlying hu,goInt,getObj,Sem.run,ho,hlen]
    ·exact .stuck
  ·exact .stuck
 ·exact .stuck
theorem min_sound(h:Rel P β s w){argTypes:Array TypeId}{args args':List Value}(ha:LRel P β args args')(ty:TypeId) :
  OpS P β s w (minM args s) ((zu (Builtin.min_ argTypes ty ⟨args'⟩)).run P w):=by
 unfold minM
 split
 ·rename_i k x k' y
  cases ha with
  | @cons _ _ _ _ hx ha=>cases ha with
   | @cons _ _ _ _ hy ha=>
    cases ha;cases hx;cases hy
    refine .value h (.int _ _) (zx ?_)
    simp only[Builtin.min_,List.foldlM,Builtin.min2,ile_eq]
    by_cases hxy:x≤y
    ·have:¬y<x:=by omega
     simp[hxy,this]
    ·have:y<x:=by omega
     simp[hxy,this]
 ·exact .stuck
theorem max_sound(h:Rel P β s w){argTypes:Array TypeId}{args args':List Value}(ha:LRel P β args args')(ty:TypeId) :
  OpS P β s w (maxM args s) ((zu (Builtin.max_ argTypes ty ⟨args'⟩)).run P w):=by
 unfold maxM
 split
 ·rename_i k x k' y
  cases ha with
  | @cons _ _ _ _ hx ha=>cases ha with
   | @cons _ _ _ _ hy ha=>
    cases ha;cases hx;cases hy
    refine .value h (.int _ _) (zx ?_)
    simp only[Builtin.max_,List.foldlM,Builtin.max2,ile_eq]
    by_cases hxy:y≤x
    ·have:¬y>x:=by omega
     simp[hxy,this]
    ·have:y>x:=by omega
     simp[hxy,this]
 ·exact .stuck
theorem copy_sound(h:Rel P β s w){argTypes:Array TypeId}{args args':List Value}(ha:LRel P β args args')(ty:TypeId) :
  OpS P β s w (copyM P argTypes.toList args s) ((zu (Builtin.copy_ argTypes ty ⟨args'⟩)).run P w):=by
 unfold copyM
 split
 ·rename_i dType rest base dLen dCap src htypes
  have h0:=types0 htypes
  cases ha with
  | @cons _ y' _ _ hy ha=>cases ha with
   | @cons _ src' _ _ hx ha=>
    cases ha
    split
    ·rename_i e hu
     split
     ·rename_i inf n hi hlen
      obtain⟨g1,g2⟩:=lenV_sound (P:=P) hx hlen
      split
      ·rename_i new hnew
       obtain⟨new',g3,g4⟩:=firstL_sound h hx hnew (fun a len cap e=>by
        have:=g2 a len cap e
        have:=Nat.min_le_left n dLen
        show Nat.min n dLen≤len
        exact Nat.le_trans this O)
       split
       ·rename_i b off
        split
        ·rename_i nx s₁ hst
         intro _
         have key:∀(m:Img) (o' cap':Nat) (w':World),(storeCells ⟨m.blk,o',none⟩ new').run P w=.ok () w' →
           (zu (Builtin.copy_ argTypes ty ⟨[.slice (some ⟨m.blk,o',none⟩) dLen cap',src']⟩)).run P w=.ok (.value (.int .i64 ((Nat.min n dLen:Nat):Int))) w':=fun m o' cap' w' hs=>
          zx (by simp[Builtin.copy_,h0,run_underlying hu,g1,zF hi,g3,hs,goInt])
         have zero:∀(m:Img) (o' cap':Nat),β b=some m→dLen=0→∃w',(zu (Builtin.copy_ argTypes ty ⟨[.slice (some ⟨m.blk,o',none⟩) dLen cap',src']⟩)).run P w=.ok (.value (.int .i64 ((Nat.min n dLen:Nat):Int))) w'∧Ext P β s w β s₁ w':=by
          intro m o' cap' hb hz
          have hn0:Nat.min n dLen=0:=by rw[hz];exact Nat.min_zero n
          have hl:new=[]:=by
           cases src with
           |slice a l c=>
            apply List.eq_nil_of_length_eq_zero
            have hx':=hx
            rw[firstL_length hnew (fun _=>hn0),hn0,Nat.zero_mul]
           |string t=>
            unfold yD at hnew
            simp only at hnew
            split at hnew
            ·rename_i hsz
             have hsz:=Nat.eq_of_beq_eq_true hsz
             rw[hn0]at hsz
             cases hnew
             have:t.data.toList=[]:=by
              apply List.eq_nil_of_length_eq_zero
              rw[Array.length_toList];exact hsz.symm
             rw[this];rfl
            ·cases hnew
           |_=>simp[lenV]at hlen
          subst hl
          cases g4
          obtain⟨_,w',q1,q2⟩:=yn h hb .nil hst
          have:w'=w:=by
           have:(storeCells ⟨m.blk,off+m.sh,none⟩ []).run P w=.ok () w:=rfl
           rw[this]at q1;cases q1;rfl
          subst this
          exact⟨w',key m o' cap' w' rfl,q2⟩
         cases hy with
         |sknown hb=>
          obtain⟨_,w',q1,q2⟩:=yn h hb g4 hst
          exact⟨β,w',_,key _ _ _ w' q1,q2,_,rfl,.int _ _⟩
         |sgrown hb _ _=>
          obtain⟨_,w',q1,q2⟩:=yn h hb g4 hst
          exact⟨β,w',_,key _ _ _ w' q1,q2,_,rfl,.int _ _⟩
         |sempty hb _=>
          obtain⟨w',q1,q2⟩:=zero _ _ _ hb rfl
          exact⟨β,w',_,q1,q2,_,rfl,.int _ _⟩
         |szero hb=>
          obtain⟨w',q1,q2⟩:=zero _ _ _ hb rfl
          exact⟨β,w',_,q1,q2,_,rfl,.int _ _⟩
        ·exact .stuck
       ·exact .stuck
      ·exact .stuck
     ·exact .stuck
    ·exact .stuck
 ·exact .stuck
theorem map_rel{ρ ρ':Operand→Value}{l:List Operand}(h:∀x∈l,VRel P β (ρ x) (ρ' x)):LRel P β (yw ρ l) (l.map ρ'):=by
 induction l with
 |nil=>exact .nil
 |cons x l ih=>exact .cons (h x Y8) (ih fun y hy=>h y (by simp[hy]))
theorem array_map{ρ:Operand→Value}(a:Array Operand):a.map ρ=⟨a.toList.map ρ⟩:=by apply Array.ext';simp
theorem call_sound(h:Rel P β s w){f f':Value}{args args':List Value}(hf:VRel P β f f')(ha:LRel P β args args') :
  OpS P β s w (callV P f args s) ((Deferred.ofValue f' ⟨args'⟩ >>= fun d=>invoke d.target d.args).run P w):=by
 unfold callV
 split
 ·rename_i n first captured
  split
  ·rename_i hfn
   cases hf with
   | @func _ f1 f1' c1 c1' h1 h2=>
    intro _
    refine⟨β,w,.enter n ⟨f1'++args'++c1'⟩,?_,Ext.refl h,_,rfl,(h1.append ha).append h2⟩
    unfold funcF at hfn
    split at hfn
    ·rename_i fn hq
     simp only[Bool.and_eq_true,Bool.not_eq_true']at hfn
     have hb:¬fn.body=none:=fun hbb=>by simp[hbb]at hfn
     have hnm : ¬ fn.name = "runtime.NumGoroutine" := fun hbb => by simp [hbb] at hfn
     simp[Deferred.ofValue,invoke,callFunc,hq,hnm,hb]
    ·cases hfn
  ·exact .stuck
 ·rename_i b
  split
  ·rename_i lp hg
   split
   ·rename_i hlen
    cases hf with
    |func _ _ fl=>cases fl
    | @yield _ m hb=>
     intro _
     obtain⟨o',ho',hr⟩:=h.obj b m _ hb (h.lt hg) hg
     cases hr with
     | @loop _ r hft hp hA hB hs hj=>
      refine⟨β,w,.round m.blk r.fn (roundT r ⟨args'⟩) r.assign r.body,?_,Ext.refl h,m,r,⟨args'⟩,hb,ho',rfl,ha⟩
      have hl2:=ha.length
      have hl3:=Nat.eq_of_beq_eq_true hlen
      simp only[zH,Nat.add_zero]at hl3
      have hsz:(⟨args'⟩:Array Value).size=r.params.size:=by
       show args'.length=_
       rw[hl2,hl3,←hp,Array.length_toList]
      have:=run_yield (P:=P) (args:=⟨args'⟩) ho' hsz
      simpa[Deferred.ofValue,invoke,roundT]using this
   ·exact .stuck
  ·exact .stuck
 ·exact .stuck
theorem bytesL_spec:∀(l:List Value) (acc bs:List UInt8),bytesL l acc=some bs→∃ns:List Int,l=ns.map (Value.int .u8)∧bs=acc.reverse++ns.map (fun n=>UInt8.ofNat n.toNat)
 | [],acc,bs,h=>by simp[bytesL]at h;exact⟨[],rfl,by simp[h]⟩
 |v::l,acc,bs,h=>by
  cases v
  case int k n=>
   cases k
   case u8=>
    obtain⟨ns,h1,h2⟩:=bytesL_spec l _ bs h
    exact⟨n::ns,by simp[h1],by simp[h2]⟩
   all_goals simp[bytesL]at h
  all_goals simp[bytesL]at h
theorem foldl_push(ns:List Int):∀b:ByteArray,(ns.foldl (fun r n=>r.push (UInt8.ofNat n.toNat)) b).data.toList=b.data.toList++ns.map (fun n=>UInt8.ofNat n.toNat):=by
 induction ns with
 |nil=>intro b;simp
 |cons n ns ih=>intro b;simp[ih]
theorem int_list{ns:List Int}{l':List Value}(h:LRel P β (ns.map (Value.int .u8)) l'):l'=ns.map (Value.int .u8):=by
 induction ns generalizing l' with
 |nil=>cases h;rfl
 |cons n ns ih=>cases h with
  |cons hv hl=>cases hv;simp[ih hl]
theorem text_sound(h:Rel P β s w){x x':Value}(hx:VRel P β x x'):OpS P β s w (textM x s) ((zu (Conv.bytesToString x')).run P w):=by
 unfold textM
 split
 ·cases hx
  exact .value h (.string _) rfl
 ·rename_i b off len cap
  split
  ·rename_i c e hg
   split
   ·rename_i l hl
    split
    ·rename_i bs hbs
     obtain⟨ns,rfl,hbs'⟩:=bytesL_spec _ _ _ hbs
     have fin:∀(a:Addr) (cap':Nat),(loadCells a len).run P w=.ok (ns.map (Value.int .u8)).toArray w →
       (zu (Conv.bytesToString (.slice (some a) len cap'))).run P w=.ok (.value (.string ⟨⟨bs⟩⟩)) w:=fun a cap' hh=>by
      refine zx ?_
      rw[run_bytesToString w a len cap' ns hh]
      congr 2
      apply ByteArray.ext
      apply Array.ext'
      rw[foldl_push]
      simp only[List.reverse_nil,List.nil_append]at hbs'
      rw[hbs']
      rfl
     have main:∀m:Img,β b=some m→(loadCells ⟨m.blk,off+m.sh,none⟩ len).run P w=.ok (ns.map (Value.int .u8)).toArray w:=fun m hb=>by
      obtain⟨l',h1,h2⟩:=qf h hb hg hl
      rw[h1,int_list h2]
     have zero:len=0→∀a:Addr,(loadCells a len).run P w=.ok (ns.map (Value.int .u8)).toArray w:=fun h0 a=>by
      subst h0
      simp[xd]at hl
      cases ns with
      |nil=>simp[loadCells,loadCellsFrom]
      |cons _ _=>simp at hl
     cases hx with
     |sknown hb=>exact .value h (.string _) (fin _ _ (main _ hb))
     |sgrown hb _ _=>exact .value h (.string _) (fin _ _ (main _ hb))
     |sempty hb _=>exact .value h (.string _) (fin _ _ (zero rfl _))
     |szero hb=>exact .value h (.string _) (fin _ _ (zero rfl _))
    ·exact .stuck
   ·exact .stuck
  ·exact .stuck
 ·exact .stuck
theorem bytes_sound(h:Rel P β s w){e:TypeId}{inf:TypeInfo}(hi:P.info? e=some inf)(hone:inf.size=1)(b:ByteArray) :
  OpS P β s w (newS e (yw (fun c=>Value.int .u8 c.toNat) b.data.toList) b.size s) ((zu (Conv.stringToBytes e b)).run P w):=by
 unfold newS
 split
 ·rename_i hroom
  intro hf
  have hnx:=free_new hf
  let q:=Question.appendCap b.size 0 e
  let nc:=q.cut (w.tape w.drawn q)
  have hnc:b.size≤nc:=by simp[nc,q,Question.cut]
  let c':Array Value:=(b.data.map fun b=>Value.int .u8 b.toNat)++Array.replicate (nc-b.size) (.int .u8 0)
  have hx:=Ext.row h hroom hnx (c:=yw (fun c=>Value.int .u8 c.toNat) b.data.toList) (c':=c') e (c'.size,c'.size+1) (by intro i hi';simp only;omega) (fun i v hv=>by
   rw[mapL_eq]at hv
   have hlt:i<b.data.size:=by
    rcases Nat.lt_or_ge i b.data.size with hh|hh
    ·exact hh
    ·rw[List.getElem?_eq_none (by simpa using hh)]at hv;cases hv
   refine⟨v,?_,?_⟩
   ·simp only[c']
    rw[Array.getElem?_append_left (by simpa using hlt)]
    simpa using hv
   ·simp only[List.getElem?_map,Option.map_eq_some_iff]at hv
    obtain⟨_,_,rfl⟩:=hv
    exact .int _ _)
  refine⟨_,{(drewW w)with heap:=w.heap.push (.cells c' e (c'.size,c'.size+1))},.value (.slice (some ⟨w.heap.size,0,none⟩) b.size nc),?_,hx.drew rfl rfl rfl rfl,_,rfl,?_⟩
  ·refine zx ?_
   simp only[Conv.stringToBytes,Sem.run_bind,run_choose,Question.forced,Bool.false_eq_true,if_false,Result.andThen_ok,newRow,run_newObj,Sem.run_pure,markStringish,run_shape,World.shape?]
   simp only[Array.getElem?_push_size,run_freeze,World.freeze,Nat.one_ne_zero,if_false,Result.andThen_ok]
   congr 1
   simp only[World.mk.injEq,and_true]
   show _=_
   apply Array.ext_getElem?
   intro r
   rw[Array.getElem?_modify]
   by_cases hr:w.heap.size=r
   ·subst hr
    simp[c',nc,q]
   ·simp only[hr,if_false,Array.getElem?_push]
    rw[if_neg (fun hh=>hr hh.symm),if_neg (fun hh=>hr hh.symm)]
  ·refine VRel.sgrown (m:=⟨w.heap.size,0,c'.size,e,false⟩) Ren.add_self hnc ?_
   simp only[Program.cellsOf,hi,Option.map_some,Option.getD_some,hone]
   have:c'.size=b.data.size+(nc-b.size):=by simp[c']
   rw[this]
   have:b.data.size=b.size:=rfl
   omega
 ·exact .stuck
end
end Go.M
namespace Go.M
section
variable{P:Program}{β:Ren}{s:St}{w:World}
theorem convert_sound(h:Rel P β s w){src dst:TypeId}{x x':Value}(hx:VRel P β x x'):OpS P β s w (qE P src dst x s) ((zu (convert src dst x')).run P w):=by
  unfold qE
  split
  · rename_i d k hs hd
    split
    · rename_i k' n
      cases hx
      exact .value h (.int _ _) (zx (by simp[convert,run_underlying hs,run_underlying hd,Conv.intToInt]))
    · exact .stuck
  · rename_i e hs hd
    split
    · rename_i he
      have key:∀a l c,(zu (convert src dst (.slice a l c))).run P w=(zu (Conv.bytesToString (.slice a l c))).run P w:=fun a l c=>by
        simp only[zu,Sem.run_bind,run_convert_bytes_string w src dst e a l c hs he hd]
      have ht:=text_sound (s:=s) h hx
      cases hx<;>first|(rw[key];exact ht)|(unfold textM;exact .stuck)
    · exact .stuck
  · rename_i d hn hs hd
    split
    · rename_i b
      cases hx
      refine .value h (.string _) (zx ?_)
      simp only[convert,Sem.run_bind,run_underlying hs,run_underlying hd,Result.andThen_ok]
      cases d<;>rfl
    · exact .stuck
  · rename_i d e hs hd
    split
    · rename_i b inf he hi
      split
      · rename_i hone
        cases hx
        have:=bytes_sound h hi (Nat.eq_of_beq_eq_true hone) b
        have e1:(zu (convert src dst (.string b))).run P w=(zu (Conv.stringToBytes e b)).run P w:=by
          simp only[zu,convert,Sem.run_bind,run_underlying hs,run_underlying hd,Result.andThen_ok]
          cases d<;>simp[run_underlying he]
        rw[e1];exact this
      · exact .stuck
    · exact .stuck
  · exact .stuck
theorem cutL_sound{t:TypeId}{off:Nat}{c c':List Value}{v:Value}(hc:LRel P β c c')(h:cutL (yH P t) off c=some v)(w:World) :
    ∃v',(part t ⟨c'⟩ off).run P w=.ok v' w∧VRel P β v v':=by
  unfold cutL at h
  split at h
  · rename_i hs
    rw[zC]at h
    obtain⟨v',h1,h2⟩:=hc.get h
    exact⟨v',by simp[part,shapeOf_one hs,h1],h2⟩
  · rename_i n hs
    split at h
    · rename_i l hl
      cases h
      rw[y5,y6]at hl
      split at hl
      · cases hl
        refine⟨.agg ⟨(c'.drop off).take n⟩,?_,.agg ((hc.drop off).take n)⟩
        simp only[part,Sem.run_bind,shapeOf_many hs,Result.andThen_ok,if_true,Sem.run_pure]
        congr 2
        apply Array.ext'
        simp[List.extract]
      · cases hl
    · cases h
  · cases h
theorem fieldV_sound(h:Rel P β s w){t:TypeId}{x x':Value}{f:Nat}(hx:VRel P β x x'):OpS P β s w (fieldV P t x f s) ((zu (Instr.field t x' f)).run P w):=by
  unfold fieldV
  split
  · rename_i cs fields hu
    split
    · rename_i fd hfd
      rw[zC]at hfd
      have hfd':fields[f]? = some fd:=by simpa using hfd
      split
      · rename_i v hv
        cases hx with
        |agg hl=>
          obtain⟨v',h1,h2⟩:=cutL_sound hl hv w
          exact .value h h2 (zx (by simp[Instr.field,run_underlying hu,hfd',asAgg,h1]))
      · exact .stuck
    · exact .stuck
  · exact .stuck
theorem indexV_sound(h:Rel P β s w){t:TypeId}{x x' i i':Value}(hx:VRel P β x x')(hi:VRel P β i i'):OpS P β s w (indexV P t x i s) ((zu (Instr.index t x' i')).run P w):=by
  unfold indexV
  split
  · rename_i k n
    cases hi
    split
    · rename_i cs len e hu
      split
      · rename_i inf hlt hinf
        have hlt:n<len:=by simpa[Nat.blt_eq]using hlt
        split
        · rename_i v hv
          cases hx with
          |agg hl=>
            obtain⟨v',h1,h2⟩:=cutL_sound hl hv w
            refine .value h h2 (zx ?_)
            simp only[Instr.index,asIntOf,Sem.run_bind,Sem.run_pure,Result.andThen_ok,run_underlying hu]
            rw [if_pos (by constructor; · exact Int.natCast_nonneg n
                           · exact Int.ofNat_lt.2 hlt)]
            simp[zF hinf,h1]
        · exact .stuck
      · exact .stuck
    · rename_i b hu
      split
      · rename_i c hc
        cases hx
        refine .value h (.int _ _) (zx ?_)
        rw[zC]at hc
        have hb:b[n]? = some c:=by
          rw[Array.getElem?_toList]at hc
          have hlt:n<b.data.size:=by
            rcases Nat.lt_or_ge n b.data.size with hh|hh
            · exact hh
            · rw[Array.getElem?_eq_none hh]at hc;cases hc
          have hlt':n<b.size:=hlt
          rw[getElem?_pos b n hlt']
          rw[Array.getElem?_eq_getElem hlt]at hc
          exact hc
        simp[Instr.index,asIntOf,run_underlying hu,hb]
      · exact .stuck
    · exact .stuck
  · exact .stuck
theorem qg{t:TypeId}{z:List Value}(h:zeroL P t=some z):∃i v,P.info? t=some i∧i.zero=some v∧v.cells.toList=z∧v.cells.size=i.size∧z.all xv=true:=by
  unfold zeroL at h
  split at h
  · rename_i i hi
    split at h
    · rename_i v hv
      split at h
      · rename_i hb
        cases h
        simp only[Bool.and_eq_true]at hb
        have h2:=Nat.eq_of_beq_eq_true hb.2
        rw[zH]at h2
        refine⟨i,v,hi,hv,cellsL_eq v,?_,hb.1⟩
        rw[←Array.length_toList,cellsL_eq]
        omega
      · cases h
    · cases h
  · cases h
theorem foldl_set(off:Nat):∀(vs:List Value) (k:Nat) (c:Array Value),off+k+vs.length≤c.size →
    ((vs.zipIdx k).foldl (fun cs (p:Value×Nat)=>cs.setIfInBounds (off+p.2) p.1) c).toList=c.toList.take (off+k)++vs++c.toList.drop (off+k+vs.length)
  | [],k,c,h=>by simp
  |v::vs,k,c,h=>by
    simp only[List.zipIdx_cons,List.foldl_cons]
    simp only[List.length_cons]at h
    rw[foldl_set off vs (k+1) (c.setIfInBounds (off+k) v) (by simp;omega)]
    rw[Array.toList_setIfInBounds]
    have hlt:off+k<c.toList.length:=by simp;omega
    rw[show off+(k+1)=off+k+1 by omega]
    rw[List.take_set,List.drop_set_of_lt O]
    rw[List.take_succ_eq_append_getElem hlt]
    rw[List.set_append_right _ _ (by simp;omega)]
    have e1:off+k-(List.take (off+k) c.toList).length=0:=by simp;omega
    rw[e1]
    simp only[List.set_cons_zero,List.length_cons,List.append_assoc,List.cons_append,List.nil_append]
    rw[show off+k+1+vs.length=off+k+(vs.length+1)by omega]
theorem fill_sound{place:Nat→Option (Nat×Nat)}{ρ ρ':Operand→Value}:∀(parts:List (Nat×Operand)) (c c' r:List Value),LRel P β c c'→(∀p∈parts,VRel P β (ρ p.2) (ρ' p.2)) →
    xZ place ρ parts c=some r→∃r',Instr.fill place ⟨c'⟩ (parts.map fun p=>(p.1,ρ' p.2))=some ⟨r'⟩∧LRel P β r r'
  | [],c,c',r,hc,_,h=>by
    simp only[xZ,Option.some.injEq]at h
    subst h
    exact⟨c',rfl,hc⟩
  |(i,x)::rest,c,c',r,hc,hp,h=>by
    unfold xZ at h
    split at h
    · rename_i off size hpl
      split at h
      · rename_i c₁ hsz hput
        have hx:LRel P β (yk (ρ x)) (ρ' x).cells.toList:=(hp (i,x) Y8).cells
        have hsz:=Nat.eq_of_beq_eq_true hsz
        rw[zH]at hsz
        obtain⟨hlen,rfl⟩:=lput_spec _ _ _ _ hput
        have hl1:=hx.length
        rw[Array.length_toList]at hl1
        have hl2:=hc.length
        have e1:((ρ' x).cells.size≠size||off+(ρ' x).cells.size>(⟨c'⟩:Array Value).size)=false:=by
          have h1:(ρ' x).cells.size=size:=by omega
          have h2:¬off+(ρ' x).cells.size>c'.length:=by omega
          simp[h1]
          omega
        have hset:=foldl_set off (ρ' x).cells.toList 0 ⟨c'⟩ (by simp;omega)
        obtain⟨r',g1,g2⟩:=fill_sound rest (c.take off++yk (ρ x)++c.drop (off+(yk (ρ x)).length)) (c'.take off++(ρ' x).cells.toList++c'.drop (off+(ρ' x).cells.toList.length)) r
          (((hc.take off).append hx).append (by rw[hx.length];exact hc.drop _)) (fun p hpp=>hp p (by simp[hpp])) h
        refine⟨r',?_,g2⟩
        rw[←g1]
        simp only[List.map_cons,Instr.fill,hpl]
        rw[if_neg (by rw[e1];simp)]
        congr 1
        apply Array.ext'
        rw[←Array.foldl_toList,Array.toList_zipIdx]
        simpa using hset
      · cases h
    · cases h
theorem run_places:∀(fields:List Field) (w:World),fields.all (fun f=>(P.info? f.type).isSome)=true →
    ∃l:List (Nat×Nat),(fields.mapM fun f=>do pure (f.offset,←sizeOf f.type):Sem (List (Nat×Nat))).run P w=.ok l w∧∀i p,placeF P fields i=some p→l[i]? = some p
  | [],w,_=>⟨[],rfl,by simp[placeF,zM]⟩
  |f::fs,w,h=>by
    simp only[List.all_cons,Bool.and_eq_true]at h
    obtain⟨l,h1,h2⟩:=run_places fs w h.2
    obtain⟨inf,hinf⟩:=Option.isSome_iff_exists.1 h.1
    refine⟨(f.offset,inf.size)::l,?_,fun i p hp=>?_⟩
    · simp only[List.mapM_cons,Sem.run_bind,zF hinf,Result.andThen_ok,Sem.run_pure,h1]
    · cases i with
      |zero=>simpa[placeF,zM,hinf]using hp
      |succ i=>simpa using h2 i p (by simpa[placeF,zM]using hp)
theorem fill_place{place place':Nat→Option (Nat×Nat)}:∀(parts:List (Nat×Operand)) (ρ:Operand→Value) (c:List Value) (r:List Value),(∀i p,place i=some p→place' i=some p) →
    xZ place ρ parts c=some r→xZ place' ρ parts c=some r
  | [],_,_,_,_,h=>h
  |(i,x)::rest,ρ,c,r,hp,h=>by
    unfold xZ at h ⊢
    split at h
    · rename_i off size hpl
      rw[hp _ _ hpl]
      split at h
      · rename_i c₁ e1 e2
        simp only[e1,e2]
        exact fill_place rest ρ _ r hp h
      · cases h
    · cases h
theorem build_sound(h:Rel P β s w){t:TypeId}{parts:Array (Nat×Operand)}{ρ ρ':Operand→Value}(hp:∀p∈parts.toList,VRel P β (ρ p.2) (ρ' p.2)) :
    OpS P β s w (buildM P t parts.toList ρ s) ((zu (Instr.build t (parts.map fun(i,x)=>(i,ρ' x)))).run P w):=by
  have hparts:(parts.map fun(i,x)=>(i,ρ' x)).toList=parts.toList.map fun p=>(p.1,ρ' p.2):=by simp
  unfold buildM
  split
  · rename_i z fields hz hu
    split
    · rename_i c hall hfill
      obtain⟨i,v,h1,h2,h3,h4,h5⟩:=qg hz
      obtain⟨l,g1,g2⟩:=run_places fields.toList w hall
      have hfill':=fill_place _ _ _ _ (place':=fun i=>(⟨l⟩:Array (Nat×Nat))[i]?) (fun i p hp=>by simpa using g2 i p hp) hfill
      obtain⟨r',q1,q2⟩:=fill_sound _ _ _ _ (xu h5) hp hfill'
      refine .value h (.agg q2) (zx ?_)
      have hzc:v.cells=⟨z⟩:=by apply Array.ext';rw[h3]
      have hm:(fields.mapM fun f=>do pure (f.offset,←sizeOf f.type):Sem (Array (Nat×Nat))).run P w=.ok ⟨l⟩ w:=by
        rw[Array.mapM_eq_mapM_toList,Sem.run_map,g1]
        rfl
      simp only[Instr.build,Sem.run_bind,z7 h1 h2,Result.andThen_ok,run_underlying hu,hm,hzc,hparts,q1,Sem.run_pure]
    · exact .stuck
  · rename_i z n e hz hu
    split
    · rename_i inf hinf
      split
      · rename_i c hfill
        obtain⟨i,v,h1,h2,h3,h4,h5⟩:=qg hz
        obtain⟨r',q1,q2⟩:=fill_sound _ _ _ _ (xu h5) hp hfill
        refine .value h (.agg q2) (zx ?_)
        have hzc:v.cells=⟨z⟩:=by apply Array.ext';rw[h3]
        simp only[Instr.build,Sem.run_bind,z7 h1 h2,Result.andThen_ok,run_underlying hu,zF hinf,hzc,hparts,q1,Sem.run_pure]
      · exact .stuck
    · exact .stuck
  · exact .stuck
theorem repL_length(l:List Value):∀k,(repL l k).length=k*l.length
  |0=>by simp[repL]
  |k+1=>by simp[repL,repL_length l k,Nat.add_mul,Nat.add_comm]
theorem repL_get(l:List Value):∀(k i:Nat),i<k*l.length→(repL l k)[i]? = l[i % l.length]?
  |0,i,h=>by simp at h
  |k+1,i,h=>by
    simp only[repL]
    rw[List.getElem?_append]
    split
    · rename_i hlt
      rw[Nat.mod_eq_of_lt hlt]
    · rename_i hge
      rw[repL_get l k (i-l.length) (by rw[Nat.add_mul,Nat.one_mul]at h;omega)]
      congr 1
      exact(Nat.mod_eq_sub_mod (a:=i) (b:=l.length) O).symm
theorem range_repL{z:Array Value}(n:Nat)(hz:n*z.size≠0):((Array.range (n*z.size)).map fun i=>z[i % z.size]!).toList=repL z.toList n:=by
  have hpos:0<z.size:=Nat.pos_of_ne_zero fun e=>hz (by rw[e];rfl)
  apply List.ext_getElem?
  intro i
  by_cases hi:i<n*z.size
  · rw[repL_get _ _ _ (by simpa using hi)]
    have hlt:i % z.size<z.size:=Nat.mod_lt _ hpos
    simp[hi,hlt]
  · rw[List.getElem?_eq_none (by simp;omega),List.getElem?_eq_none (by rw[repL_length];simpa using hi)]
theorem repL_plain{l:List Value}(h:l.all xv=true):∀k,(repL l k).all xv=true
  |0=>rfl
  |k+1=>by simp[repL,h,repL_plain h k]
theorem newK_sound(h:Rel P β s w){e:TypeId}{c c':List Value}(hc:LRel P β c c'){len cap:Nat}{r':Result Next}
    (hr:r'=.ok (.value (.slice (some ⟨w.heap.size,0,none⟩) len cap)) {w with heap:=w.heap.push (.cells ⟨c'⟩ e)}):OpS P β s w (newK e c len cap s) r':=by
  unfold newK
  split
  · rename_i hroom
    intro hf
    have hnx:=free_new hf
    have hx:=Ext.row h hroom hnx (c:=c) (c':=⟨c'⟩) e (0,0) Y8 (fun i v hv=>by
      obtain⟨v',g1,g2⟩:=hc.get hv
      exact⟨v',by simpa using g1,g2⟩)
    exact⟨_,_,_,hr,hx,_,rfl,VRel.sknown (m:=⟨w.heap.size,0,(⟨c'⟩:Array Value).size,e,false⟩) Ren.add_self⟩
  · exact .stuck
theorem zeros_eq{e:TypeId}{inf:TypeInfo}{z:List Value}(hi:P.info? e=some inf)(hz:zeroL P e=some z)(n:Nat) :
    ∃v,inf.zero=some v∧(n*inf.size=0→((Array.range (n*inf.size)).map ((#[]:Array Value)[· % (#[]:Array Value).size]!))=⟨repL z n⟩) ∧
      (n*inf.size≠0→((Array.range (n*inf.size)).map (v.cells[· % v.cells.size]!))=⟨repL z n⟩):=by
  obtain⟨i,v,h1,h2,h3,h4,h5⟩:=qg hz
  rw[hi]at h1;cases h1
  refine⟨v,h2,fun h0=>?_,fun h0=>?_⟩
  · apply Array.ext'
    have:repL z n=[]:=by
      apply List.eq_nil_of_length_eq_zero
      rw[repL_length,←h3,Array.length_toList,h4,h0]
    simp[h0,this]
  · apply Array.ext'
    rw[←h4]at h0 ⊢
    rw[range_repL n h0,h3]
theorem buildSlice_sound(h:Rel P β s w){t:TypeId}{len:Nat}{parts:Array (Nat×Operand)}{ρ ρ':Operand→Value}(hp:∀p∈parts.toList,VRel P β (ρ p.2) (ρ' p.2)) :
    OpS P β s w (xE P t len parts.toList ρ s) ((zu (Instr.buildSlice t len (parts.map fun(i,x)=>(i,ρ' x)))).run P w):=by
  have hparts:(parts.map fun(i,x)=>(i,ρ' x)).toList=parts.toList.map fun p=>(p.1,ρ' p.2):=by simp
  unfold xE
  split
  · rename_i e hu
    split
    · rename_i inf z hinf hz
      split
      · rename_i c hle hfill
        obtain⟨_,_,_,_,_,_,h5⟩:=qg hz
        obtain⟨v,q0,q1,q2⟩:=zeros_eq hinf hz len
        obtain⟨r',q3,q4⟩:=fill_sound _ _ _ _ (xu (repL_plain h5 len)) hp hfill
        refine newK_sound h q4 (zx ?_)
        have hle':¬len*inf.size>2 ^ 24:=by simp only[Nat.ble_eq]at hle;omega
        by_cases h0:len*inf.size=0
        · simp only[Instr.buildSlice,Sem.run_bind,run_underlying hu,Result.andThen_ok,zF hinf,hle',if_false]
          rw[if_pos h0]
          simp only[Sem.run_pure,Sem.run_bind,Result.andThen_ok,q1 h0,hparts,q3]
          simp[newRow]
        · simp only[Instr.buildSlice,Sem.run_bind,run_underlying hu,Result.andThen_ok,zF hinf,hle',if_false]
          rw[if_neg h0]
          simp only[Sem.run_pure,Sem.run_bind,Result.andThen_ok,z7 hinf q0,q2 h0,hparts,q3]
          simp[newRow]
      · exact .stuck
    · exact .stuck
  · exact .stuck
theorem makeSlice_sound(h:Rel P β s w){t:TypeId}{l c l' c':Value}(hl:VRel P β l l')(hc:VRel P β c c'):OpS P β s w (xw P t l c s) ((zu (Instr.makeSlice t l' c')).run P w):=by
  unfold xw
  split
  · rename_i e hu
    split
    · rename_i inf z hinf hz
      split
      · rename_i k a k' b
        split
        · rename_i hb
          simp only[Bool.and_eq_true,Nat.ble_eq]at hb
          cases hl;cases hc
          obtain⟨v,q0,q1,q2⟩:=zeros_eq hinf hz b
          obtain⟨_,_,_,_,_,_,h5⟩:=qg hz
          refine newK_sound h (xu (repL_plain h5 b)) (zx ?_)
          have hbs:b≤1073741824:=Nat.le_trans (Nat.le_mul_of_pos_right _ O) hb.2
          have w1:IntKind.i64.wrap (a:Int)=a:=IntWalk.i64_in _ O
          have w2:IntKind.i64.wrap (b:Int)=b:=IntWalk.i64_in _ O
          have hbb:b*inf.bytes≤1073741824:=Nat.le_trans (Nat.mul_le_mul_left _ O) hb.2
          have c1:((decide ((b:Int)<0)||decide ((inf.bytes:Int)*(b:Int)>2 ^ 48))||decide ((a:Int)<0)||decide ((a:Int)>(b:Int)))=false:=by
            have h1:((b*inf.bytes:Nat):Int)≤1073741824:=by omega
            rw[Int.natCast_mul,Int.mul_comm]at h1
            simp only[Bool.or_eq_false_iff,decide_eq_false_iff_not]
            exact⟨⟨⟨by omega,by omega⟩,by omega⟩,by omega⟩
          simp only[Instr.makeSlice,Sem.run_bind,run_underlying hu,Result.andThen_ok,asInt,asIntOf,Sem.run_pure,yZ hinf,Int.ofNat_eq_natCast,w1,w2,c1,Bool.false_eq_true,if_false,run_askRoom,Int.toNat_natCast,zF hinf]
          by_cases h0:b*inf.size=0
          · rw[if_pos h0]
            simp only[Sem.run_pure,Sem.run_bind,Result.andThen_ok,q1 h0]
            simp[newRow]
          · rw[if_neg h0]
            simp only[Sem.run_pure,Sem.run_bind,Result.andThen_ok,z7 hinf q0,q2 h0]
            simp[newRow]
        · exact .stuck
      · exact .stuck
    · exact .stuck
  · exact .stuck
theorem zeros_all{e:TypeId}{inf:TypeInfo}{z:List Value}(hi:P.info? e=some inf)(hz:zeroL P e=some z)(n:Nat):∃v,inf.zero=some v∧(Builtin.zeroCells v.cells n).toList=repL z n:=by
  obtain⟨v,q0,q1,q2⟩:=zeros_eq hi hz n
  obtain⟨i,v2,h1,h2,h3,h4,h5⟩:=qg hz
  rw[hi]at h1
  cases h1
  rw[q0]at h2
  cases h2
  refine⟨v,q0,?_⟩
  by_cases h0:n*inf.size=0
  · have hl:(repL z n).length=0:=by rw[repL_length,←h3,Array.length_toList,h4];exact h0
    rw[List.eq_nil_of_length_eq_zero hl]
    apply List.eq_nil_of_length_eq_zero
    rw[Array.length_toList,zeroCells_size,h4]
    exact h0
  · have:=q2 h0
    unfold Builtin.zeroCells
    rw[←h4]at this
    rw[this]
theorem clear_sound(h:Rel P β s w){argTypes:Array TypeId}{args args':List Value}(ha:LRel P β args args')(ty:TypeId) :
    OpS P β s w (clearM P argTypes.toList args s) ((zu (Builtin.clear_ argTypes ty ⟨args'⟩)).run P w):=by
  unfold clearM
  split
  · rename_i t rest base n cap htypes
    have h0:=types0 htypes
    cases ha with
    | @cons _ y' _ _ hy ha=>
      cases ha
      split
      · rename_i e hu
        split
        · have key:∀a c,y'=.slice a 0 c→OpS P β s w (okV (.tuple ⟨[]⟩) s) ((zu (Builtin.clear_ argTypes ty ⟨[y']⟩)).run P w):=fun a c e=>by
            subst e
            refine .value h (.tuple .nil) (zx ?_)
            cases a<;>simp[Builtin.clear_,h0,run_underlying hu]
          cases hy<;>exact key _ _ rfl
        · rename_i k
          split
          · rename_i b off
            split
            · rename_i inf z hinf hz
              split
              · rename_i nx s1 hst
                obtain⟨v,q0,q1⟩:=zeros_all hinf hz (k+1)
                obtain⟨_,_,_,_,_,_,h5⟩:=qg hz
                have hpl:=xu (P:=P) (β:=β) (repL_plain h5 (k+1))
                intro _
                have key:∀(m:Img) (cap':Nat),β b=some m→∃w',(zu (Builtin.clear_ argTypes ty ⟨[.slice (some ⟨m.blk,off+m.sh,none⟩) (k+1) cap']⟩)).run P w=.ok (.value (.tuple ⟨[]⟩)) w'∧Ext P β s w β s1 w':=by
                  intro m cap' hb
                  obtain⟨_,w',q3,q4⟩:=yn h hb hpl hst
                  refine⟨w',zx ?_,q4⟩
                  simp[Builtin.clear_,h0,run_underlying hu,z7 hinf q0,q1,q3]
                cases hy with
                |sknown hb=>
                  obtain⟨w',g1,g2⟩:=key _ _ hb
                  exact⟨β,w',_,g1,g2,_,rfl,.tuple .nil⟩
                |sgrown hb _ _=>
                  obtain⟨w',g1,g2⟩:=key _ _ hb
                  exact⟨β,w',_,g1,g2,_,rfl,.tuple .nil⟩
              · exact .stuck
            · exact .stuck
          · exact .stuck
      · exact .stuck
  · exact .stuck
end
end Go.M
namespace Go.M
section
variable{P:Program}{β:Ren}{s:St}{w:World}
theorem run_checkKey{k:TypeId}{d:TypeDesc}(hu:P.underlying k=some d)(hd:keyD d=true)(b:Bool)(n:Nat)(v:Value)(w:World):(Instr.checkKey b (n+1) k v).run P w=.ok () w:=by
 simp only[Instr.checkKey,Sem.run_bind,run_underlying hu,Result.andThen_ok]
 cases d<;>simp[keyD]at hd<;>cases v<;>rfl
theorem sameNow_rel{d:TypeDesc}{k e k' e':Value}{b:Bool}(hk:VRel P β k k')(he:VRel P β e e')(h:Instr.sameNow d k e=some b):Instr.sameNow d k' e'=some b:=by
 unfold Instr.sameNow at h
 split at h
 ·cases hk;cases he;exact h
 ·cases hk;cases he;exact h
 ·cases hk;cases he;exact h
 ·cases h
theorem bytes_eq{a b:ByteArray}(h:(a==b)=true):a=b:=by
 have h':(a.data==b.data)=true:=h
 exact ByteArray.ext (by simpa using h')
theorem bytes_self(a:ByteArray):(a==a)=true:=by
 show(a.data==a.data)=true
 simp
theorem sameNow_bits{d:TypeDesc}{k e:Value}(h:Instr.sameNow d k e=some true)(n:Nat):Instr.sameBits n e k=true:=by
 unfold Instr.sameNow at h
 split at h
 ·split at h
  ·rename_i hk
   subst hk
   simp only[Option.some.injEq,beq_iff_eq]at h
   subst h
   cases n<;>simp[Instr.sameBits]
  ·cases h
 ·simp only[Option.some.injEq]at h
  rw[bytes_eq h]
  cases n<;>exact bytes_self _
 ·simp only[Option.some.injEq,beq_iff_eq]at h
  subst h
  cases n<;>simp[Instr.sameBits]
 ·cases h
def EList(P:Program)(β:Ren)(es es':List MapEntry):Prop:=es'.length=es.length∧∀(i:Nat) (e:MapEntry),es[i]? = some e→∃e',es'[i]? = some e'∧ERel P β e e'
theorem findNow_rel{d:TypeDesc}{k k':Value}(hk:VRel P β k k'):∀(es es':List MapEntry) (i:Nat) (r:Option (Nat×Value)),EList P β es es'→Instr.findNow d k es i=some r →
  ∃r',Instr.findNow d k' es' i=some r'∧(r=none→r'=none)∧(∀j v,r=some (j,v)→∃v',r'=some (j,v')∧VRel P β v v')
 | [],es',i,r,h,hf=>by
  have:es'=[]:=List.eq_nil_of_length_eq_zero h.1
  subst this
  simp only[Instr.findNow,Option.some.injEq]at hf
  subst hf
  exact⟨none,rfl,fun _=>rfl,fun _ _ h=>by cases h⟩
 |e::es,es',i,r,h,hf=>by
  obtain⟨e',he',hr⟩:=h.2 0 e rfl
  cases es' with
  |nil=>simp at he'
  |cons e'' es'=>
   simp only[List.getElem?_cons_zero,Option.some.injEq]at he'
   subst he'
   unfold Instr.findNow at hf ⊢
   split at hf
   ·rename_i hs
    simp only[Option.some.injEq]at hf
    subst hf
    rw[sameNow_rel hk hr.1 hs]
    exact⟨_,rfl,Y8,fun j v h=>by cases h;exact⟨_,rfl,hr.2.1⟩⟩
   ·rename_i hs
    rw[sameNow_rel hk hr.1 hs]
    exact findNow_rel hk es es' (i+1) r ⟨by simpa using h.1,fun j x hx=>by simpa using h.2 (j+1) x (by simpa using hx)⟩ hf
   ·cases hf
theorem findNow_at{d:TypeDesc}{k:Value}:∀(es:List MapEntry) (i j:Nat) (v:Value),Instr.findNow d k es i=some (some (j,v))→i≤j∧∃e,es[j-i]? = some e∧Instr.sameNow d k e.key=some true
 | [],i,j,v,h=>by simp[Instr.findNow]at h
 |e::es,i,j,v,h=>by
  unfold Instr.findNow at h
  split at h
  ·rename_i hs
   simp only[Option.some.injEq,Prod.mk.injEq]at h
   obtain⟨rfl,_⟩:=h
   exact⟨Nat.le_refl _,e,by simp,hs⟩
  ·obtain⟨h1,e',h2,h3⟩:=findNow_at es (i+1) j v h
   refine⟨by omega,e',?_,h3⟩
   rw[show j-i=(j-(i+1))+1 by omega]
   simpa using h2
  ·cases h
theorem Rel.entries(h:Rel P β s w){r:Nat}{m:Img}{es:Array MapEntry}{clock:Nat}(hb:β r=some m)(hg:s.get r=some (.map es clock)) :
  ∃es',w.heap[m.blk]? = some (.map es' clock)∧EList P β es.toList es'.toList:=by
 obtain⟨o',ho,hor⟩:=h.obj r m _ hb (h.lt hg) hg
 cases hor with
 | @map _ es' _ hlen he=>
  exact⟨es',ho,by simpa using hlen,fun i e hi=>by
   obtain⟨e',h1,h2⟩:=he i e (by simpa using hi)
   exact⟨e',by simpa using h1,h2⟩⟩
theorem pair_sound(h:Rel P β s w){commaOk ok:Bool}{v v':Value}(hv:VRel P β v v'){r':Result Next}(hr:r'=.ok (.value (if commaOk then .tuple #[v',.bool ok]else v')) w) :
  OpS P β s w (okPair commaOk v ok s) r':=by
 unfold okPair
 cases commaOk
 ·exact .value h hv hr
 ·exact .value h (.tuple (l':=[v',.bool ok]) (.cons hv (.cons (.bool _) .nil))) hr
theorem lookup_sound(h:Rel P β s w){t:TypeId}{x x' i i':Value}{commaOk:Bool}(hx:VRel P β x x')(hi:VRel P β i i') :
  OpS P β s w (lookupM P t x i commaOk s) ((zu (Instr.lookup t x' i' commaOk)).run P w):=by
 unfold lookupM
 split
 ·rename_i k e hu
  split
  ·rename_i d es hd hes
   -- the entries that the model reads
   have key:keyD d=true→∃es':Array MapEntry,EList P β es es'.toList ∧
     ∀r',Instr.findNow d i' es'.toList 0=some r'→(Instr.lookup t x' i' commaOk).run P w =
      (match r' with|some (_,v)=>.ok (if commaOk then .tuple #[v,.bool true]else v) w|none=>((zeroValue e).run P w).andThen fun z w=>.ok (if commaOk then .tuple #[z,.bool false]else z) w):=by
    intro hkd
    unfold entriesM at hes
    split at hes
    ·cases hes
     cases hx
     refine⟨#[],⟨rfl,by simp⟩,fun r' hf=>?_⟩
     simp only[Instr.lookup,Sem.run_bind,run_underlying hu,Result.andThen_ok,Sem.run_pure,run_checkKey hd hkd,Instr.findKey,run_underlying hd,hf]
     cases r'<;>simp
    ·rename_i r
     split at hes
     ·rename_i es₀ clock hg
      cases hes
      cases hx with
      |mref hb=>
       obtain⟨es',ho,hel⟩:=h.entries hb hg
       refine⟨es',hel,fun r' hf=>?_⟩
       simp only[Instr.lookup,Sem.run_bind,run_underlying hu,Result.andThen_ok,getObj,Sem.run,ho,Sem.run_pure,run_checkKey hd hkd,Instr.findKey,run_underlying hd,hf]
       cases r'<;>simp
     ·cases hes
    ·cases hes
   split
   ·rename_i j v hkd hf
    obtain⟨es',h1,h2⟩:=key hkd
    obtain⟨r',g1,_,g3⟩:=findNow_rel hi _ _ _ _ h1 hf
    obtain⟨v',rfl,hv⟩:=g3 _ _ rfl
    exact pair_sound h hv (zx (h2 _ g1))
   ·rename_i hkd hf
    split
    ·rename_i inf hinf
     split
     ·rename_i z hz
      split
      ·rename_i hpl
       obtain⟨es',h1,h2⟩:=key hkd
       obtain⟨r',g1,g2,_⟩:=findNow_rel hi _ _ _ _ h1 hf
       have:=g2 rfl
       subst this
       refine pair_sound h (plainZ_rel hpl) (zx ?_)
       rw[h2 _ g1]
       simp[z7 hinf hz]
      ·exact .stuck
     ·exact .stuck
    ·exact .stuck
   ·exact .stuck
  ·exact .stuck
 ·exact .stuck
theorem set_sound(h:Rel P β s w){r:Nat}{m:Img}(hb:β r=some m){es₀:Array MapEntry}{c₀:Nat}(hg:s.get r=some (.map es₀ c₀)){es es':Array MapEntry}{clock:Nat}
  (hel:EList P β es.toList es'.toList) {r':Result Next} (hr:r'=.ok .skip {w with heap:=w.heap.setIfInBounds m.blk (.map es' clock)}):OpS P β s w (setM r es clock s) r':=by
 unfold setM
 split
 ·rename_i hmay
  intro _
  have hlt:=h.img r m hb (h.lt hg)
  refine⟨β,_,.skip,hr,Ext.write h hb hmay hg _ Y8 (fun q hq=>by simp[Array.getElem?_setIfInBounds_ne (Ne.symm hq)]) ⟨.map es' clock,by simp[hlt],?_⟩ rfl rfl rfl,rfl⟩
  exact .map (by simpa using hel.1) fun i e hi=>by
   obtain⟨e',h1,h2⟩:=hel.2 i e (by simpa using hi)
   exact⟨e',by simpa using h1,h2⟩
 ·exact .stuck
theorem update_sound(h:Rel P β s w){t:TypeId}{mp mp' k k' v v':Value}(hm:VRel P β mp mp')(hk:VRel P β k k')(hv:VRel P β v v') :
  OpS P β s w (updateM P t mp k v s) ((Instr.mapUpdate t mp' k' v' >>= fun _=>pure Next.skip).run P w):=by
 unfold updateM
 split
 ·rename_i kt e r hu
  split
  ·rename_i d es clock hd hg
   cases hm with
   | @mref _ m hb=>
    obtain⟨es',ho,hel⟩:=h.entries hb hg
    split
    ·rename_i i u hkd hf
     obtain⟨r',g1,_,g3⟩:=findNow_rel hk _ _ _ _ hel hf
     obtain⟨u',rfl,_⟩:=g3 _ _ rfl
     obtain⟨_,e',he',hsame⟩:=findNow_at _ _ _ _ g1
     have hi':es'[i]? = some e':=by simpa using he'
     refine set_sound h hb hg (es':=es'.modify i fun e=>{e with key:=k',val:=v'}) ⟨by simp[hel.1],fun j x hx=>?_⟩ ?_
     ·simp only[Array.getElem?_toList]at hx ⊢
      rw[Array.getElem?_modify]at hx ⊢
      have hj:∀x,es[j]? = some x→∃x',es'[j]? = some x'∧ERel P β x x':=fun x hx=>by
       obtain⟨x',h1,h2⟩:=hel.2 j x (by simpa using hx)
       exact⟨x',by simpa using h1,h2⟩
      by_cases hij:i=j
      ·simp only[hij,if_true,Option.map_eq_some_iff]at hx ⊢
       obtain⟨x₀,hx₀,rfl⟩:=hx
       obtain⟨x',h1,h2⟩:=hj x₀ hx₀
       exact⟨_,⟨x',h1,rfl⟩,hk,hv,h2.2.2⟩
      ·simp only[hij,if_false]at hx ⊢
       exact hj x hx
     ·simp only[Instr.mapUpdate,Sem.run_bind,run_underlying hu,Result.andThen_ok,getObj,Sem.run,ho,run_checkKey hd hkd,Instr.findKey,run_underlying hd,g1,Sem.run_pure,hi',Option.map_some,Option.getD_some,Instr.keyThatStays,sameNow_bits hsame,if_true,setObj]
    ·rename_i hkd hf
     obtain⟨r',g1,g2,_⟩:=findNow_rel hk _ _ _ _ hel hf
     have:=g2 rfl
     subst this
     refine set_sound h hb hg (es':=es'.push {key:=k',val:=v',born:=clock}) ⟨by simpa using hel.1,fun j x hx=>?_⟩ ?_
     ·have hlen:es'.size=es.size:=by simpa using hel.1
      simp only[Array.getElem?_toList,Array.getElem?_push]at hx ⊢
      by_cases hj:j=es.size
      ·rw[if_pos hj]at hx
       rw[if_pos O]
       cases hx
       exact⟨_,rfl,hk,hv,rfl⟩
      ·rw[if_neg hj]at hx
       rw[if_neg O]
       obtain⟨x',h1,h2⟩:=hel.2 j x (by simpa using hx)
       exact⟨x',by simpa using h1,h2⟩
     ·simp only[Instr.mapUpdate,Sem.run_bind,run_underlying hu,Result.andThen_ok,getObj,Sem.run,ho,run_checkKey hd hkd,Instr.findKey,run_underlying hd,g1,Sem.run_pure,setObj]
    ·exact .stuck
  ·exact .stuck
 ·exact .stuck
theorem nil_sound(h:Rel P β s w){x x':Value}(hx:VRel P β x x'){o:Oper}{ρ':Operand→Value}{y:Operand}(ho:o.op=.nilCheck y)(hy:ρ' y=x'):OpS P β s w (nilM x s) ((execOp ρ' o).run P w):=by
 unfold nilM
 split
 ·cases hx with
  |ptr hb=>exact .value h (.ptr hb) (by simp[execOp,ho,hy])
 ·cases hx with
  |func h1 h2 fl=>exact .value h (.func h1 h2 fl) (by simp[execOp,ho,hy])
 ·exact .stuck
theorem arr_sound(h:Rel P β s w){t:TypeId}{x x':Value}(hx:VRel P β x x'){o:Oper}{ρ':Operand→Value}{y:Operand}(ho:o.op=.sliceToArrayPointer t y)(hy:ρ' y=x'):OpS P β s w (arrM P t x s) ((execOp ρ' o).run P w):=by
 unfold arrM
 split
 ·rename_i n e b off len c hu
  split
  ·rename_i hle
   have hle:=Nat.le_of_ble_eq_true hle
   cases hx with
   |sknown hb=>exact .value h (.ptr hb) (by simp[execOp,ho,hy,Instr.arrayAt,run_underlying hu,show ¬len<n+1 by omega])
   |sgrown hb hc hs=>exact .value h (.ptr hb) (by simp[execOp,ho,hy,Instr.arrayAt,run_underlying hu,show ¬len<n+1 by omega])
   |sempty hb hs=>omega
   |szero hb=>omega
  ·exact .stuck
 ·exact .stuck
theorem builtin_sound(h:Rel P β s w){b:Builtin}{argTypes:Array TypeId}{args args':List Value}(ha:LRel P β args args')(ty:TypeId)(consts:Array Bool) :
  OpS P β s w (yy P b argTypes.toList args s) ((builtin b argTypes ty consts ⟨args'⟩).run P w):=by
 cases b<;>first
  |exact append_sound h ha ty
  |exact cap_sound h ha ty
  |exact len_sound h ha ty
  |exact min_sound h ha ty
  |exact max_sound h ha ty
  |exact copy_sound h ha ty
  |exact clear_sound h ha ty
  |exact .stuck
theorem step_sound(h:Rel P β s w){ρ ρ':Operand→Value}(o:Oper)(hρ:∀x∈o.op.operands.toList,VRel P β (ρ x) (ρ' x)) :
  OpS P β s w (zh P ρ o.op s) ((execOp ρ' o).run P w):=by
 obtain⟨dst,op,type,pos,after,guard⟩:=o
 cases op with
 |move x=>exact .value h (hρ x Y5) rfl
 |assign x=>exact .value h (hρ x Y5) rfl
 |pick c a b=>exact pick_sound h (hρ c Y5) (hρ a Y5) (hρ b Y5)
 |load t a=>exact load_sound h (hρ a Y5)
 |store t a v=>exact store_sound h (hρ a Y5) (hρ v Y5)
 |box e x=>exact box_sound h (hρ x Y5).cells
 |alloc e=>exact alloc_sound h
 |fieldAddr t x f=>exact field_sound h (hρ x Y5)
 |indexAddr t x i=>exact index_sound h (hρ x Y5) (hρ i Y5)
 |binOp op t x y yt=>exact bin_sound h (hρ x Y5) (hρ y Y5) x y
 |unOp op t x=>exact un_sound h (hρ x Y5)
 |extract x i=>exact extract_sound h (hρ x Y5)
 |nilCheck x=>exact nil_sound h (hρ x Y5) rfl rfl
 |sliceToArrayPointer t x=>exact arr_sound h (hρ x Y5) rfl rfl
 |convert src dst x=>exact convert_sound h (hρ x Y5)
 |makeInterface t x=>exact iface_sound h (hρ x Y5)
 |makeFunc fn first captured=>
  simp only[zh]
  split
  ·exact .stuck
  next hk=>
  refine .value h (v':=.func fn ⟨first.toList.map ρ'⟩ ⟨captured.toList.map ρ'⟩) (.func (map_rel fun x hx=>hρ x (by simp[Op.operands];exact .inl (by simpa using hx))) (map_rel fun x hx=>hρ x (by simp[Op.operands];exact .inr (by simpa using hx))) (flatB_no hk _)) ?_
  show Result.ok (Next.value (Value.func fn (first.map ρ') (captured.map ρ'))) w=_
  rw[array_map,array_map]
 |makeMap t r=>
  cases r with
  |none=>exact map_sound h
  |some r=>exact .stuck
 |slice t x lo hi mx=>
  have o1:=opt_map_rel (P:=P) (β:=β) (ρ:=ρ) (ρ':=ρ') (o:=lo) fun x hx=>hρ x (by simp[Op.operands,hx])
  have o2:=opt_map_rel (P:=P) (β:=β) (ρ:=ρ) (ρ':=ρ') (o:=hi) fun x hx=>hρ x (by simp[Op.operands,hx])
  have o3:=opt_map_rel (P:=P) (β:=β) (ρ:=ρ) (ρ':=ρ') (o:=mx) fun x hx=>hρ x (by simp[Op.operands,hx])
  exact slice_sound h (hρ x Y5) o1.1 o1.2 o2.1 o2.2 o3.1 o3.2
 |field t x f=>exact fieldV_sound h (hρ x Y5)
 |index t x i=>exact indexV_sound h (hρ x Y5) (hρ i Y5)
 |panic x=>exact panic_sound h (hρ x Y5)
 |call c=>
  obtain⟨callee,args,argTypes⟩:=c
  cases callee with
  |value f=>
   have h1:=hρ f (by simp[Op.operands,Call.operands])
   have h2:LRel P β (yw ρ args.toList) (args.toList.map ρ'):=map_rel fun x hx=>hρ x (by simp[Op.operands,Call.operands];exact .inr (by simpa using hx))
   have:=call_sound (s:=s) h h1 h2
   rw[←array_map]at this
   exact this
  |builtin b=>
   have h2:LRel P β (yw ρ args.toList) (args.toList.map ρ'):=map_rel fun x hx=>hρ x (by simp[Op.operands,Call.operands];simpa using hx)
   have:=builtin_sound (s:=s) h (b:=b) (argTypes:=argTypes) h2 type (args.map fun | .const _=>true|_=>false)
   rw[←array_map]at this
   exact this
  |invoke r m=>exact .stuck
 |build t parts=>exact build_sound h fun p hp=>hρ p.2 V7
 |buildSlice t len parts=>exact buildSlice_sound h fun p hp=>hρ p.2 V7
 |makeSlice t l c=>exact makeSlice_sound h (hρ l Y5) (hρ c Y5)
 |lookup t x i ok=>exact lookup_sound h (hρ x Y5) (hρ i Y5)
 |mapUpdate t m k x=>exact update_sound h (hρ m Y5) (hρ k Y5) (hρ x Y5)
 |insert t m k x=>exact update_sound h (hρ m Y5) (hρ k Y5) (hρ x Y5)
 |_=>exact .stuck
end
end Go.M
