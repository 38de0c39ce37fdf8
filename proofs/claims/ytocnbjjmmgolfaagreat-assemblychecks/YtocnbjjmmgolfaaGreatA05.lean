/- Append, and the other built-in functions. -/
/- Append, whole. -/
import Derived.Test.YtocnbjjmmgolfaaGreatA04
namespace Go.M
section
variable{P:Program}{β:Ren}{s:St}{w:World}
theorem slice_sound(h:Rel P β s w){t:TypeId}{x x':Value}(hx:VRel P β x x'){lo hi mx lo' hi' mx':Option Value}
  (rlo:∀x,lo=some x→∃x',lo'=some x'∧VRel P β x x') (nlo:lo=none→lo'=none)
  (rhi:∀x,hi=some x→∃x',hi'=some x'∧VRel P β x x') (nhi:hi=none→hi'=none)
  (rmx:∀x,mx=some x→∃x',mx'=some x'∧VRel P β x x') (nmx:mx=none→mx'=none) :
  OpS P β s w (xa P t x lo hi mx s) ((zu (Instr.sliceAt t x' lo' hi' mx')).run P w):=by
 unfold xa
 split
 ·rename_i e hu
  split
  ·rename_i inf a len cap hinf
   split
   ·rename_i hc
    exact sliceS_sound h hu hinf hx (fun _=>hc) Y8 rlo nlo rhi nhi rmx nmx
   ·rename_i hc
    split
    ·rename_i hrow
     exact sliceS_sound h hu hinf hx Y8 (fun _=>⟨(Nat.mod_two_eq_zero_or_one cap).resolve_left hc,hrow⟩) rlo nlo rhi nhi rmx nmx
    ·exact .stuck
  ·exact .stuck
 ·rename_i hu
  split
  ·rename_i b
   cases hx
   unfold cutB
   split
   ·rename_i l hh e1 e2
    split
    ·rename_i hb
     simp only[Bool.and_eq_true,Nat.ble_eq]at hb
     obtain⟨b1,b2,_⟩:=bounds_of (c:=b.size) (m:=b.size) (mx:=none) (mx':=none) e1 e2 rfl rlo nlo rhi nhi Y8 Y8 Y8
     have hb':=run_sliceBounds (P:=P) (isS:=false) b1 b2 (mx:=none) (.inl ⟨rfl,rfl⟩) hb.1 hb.2 (Nat.le_refl b.size) w
     have hm:=nmx rfl
     subst hm
     refine .value h (.string _) ?_
     simp[zu,Instr.sliceAt,Instr.slice,run_underlying hu,hb']
    ·exact .stuck
   ·exact .stuck
  ·exact .stuck
 ·rename_i n e hu
  split
  ·rename_i inf b off hinf
   cases hx with
   | @ptr _ _ mg hb=>
    unfold y9
    split
    ·rename_i l hh m e1 e2 e3
     split
     ·rename_i hbs
      simp only[Bool.and_eq_true,Nat.ble_eq]at hbs
      obtain⟨⟨⟨g1,g2⟩,g3⟩,g4⟩:=hbs
      obtain⟨b1,b2,b3⟩:=bounds_of e1 e2 e3 rlo nlo rhi nhi rmx nmx g4
      have hb':=run_sliceBounds (P:=P) (isS:=false) b1 b2 (cap:=n) (m:=m) (by
       rcases b3 with⟨h1,_,h3⟩|⟨_,k,h2⟩
       ·exact .inl ⟨h1,h3⟩
       ·exact .inr ⟨k,h2⟩) g1 g2 g3 w
      simp only[Bool.true_or]
      refine .value h (cut_known (m:=mg) hb) ?_
      by_cases hml:m=l
      ·simp[zu,Instr.sliceAt,Instr.sureAddr,run_underlying hu,hb',zF hinf,hml]
      ·simp[zu,Instr.sliceAt,Instr.sureAddr,run_underlying hu,hb',zF hinf,hml]
     ·exact .stuck
    ·exact .stuck
  ·exact .stuck
 ·exact .stuck
theorem mapL_eq{α γ:Type}(f:α→γ)(l:List α):yw f l=l.map f:=by
 induction l with
 |nil=>rfl
 |cons x l ih=>simp[yw,ih]
theorem bytes_rel(l:List UInt8):LRel P β (yw (fun c:UInt8=>Value.int .u8 c.toNat) l) (l.map fun c=>Value.int .u8 c.toNat):=by
 induction l with
 |nil=>exact .nil
 |cons c l ih=>exact .cons (.int _ _) ih
theorem firstL_sound(h:Rel P β s w){sz n:Nat}{x x':Value}(hx:VRel P β x x'){l:List Value}(hl:yD sz n x s=some l)(hn:∀a len cap,x=.slice a len cap→n≤len) :
  ∃l',(Builtin.firstCells sz n x').run P w=.ok ⟨l'⟩ w∧LRel P β l l':=by
 unfold yD at hl
 split at hl
 ·cases hx
  cases hl
  exact⟨[],rfl,.nil⟩
 ·rename_i b off len cap
  have hn':=hn _ _ _ rfl
  split at hl
  ·rename_i c e hg
   have zero:n=0→∀a:Addr,∀len' cap':Nat,(Builtin.firstCells sz n (.slice (some a) len' cap')).run P w=.ok ⟨[]⟩ w∧l=[]:=fun h0 a len' cap'=>by
    subst h0
    simp only[Nat.zero_mul]at hl
    refine⟨by simp[Builtin.firstCells,loadCells,loadCellsFrom],?_⟩
    simpa[xd]using hl.symm
   cases hx with
   |sknown hb=>exact qf h hb hg hl
   |sgrown hb _ _=>exact qf h hb hg hl
   |sempty hb _=>
    obtain⟨h1,h2⟩:=zero O _ _ _
    exact⟨[],h1,by rw[h2];exact .nil⟩
   |szero hb=>
    obtain⟨h1,h2⟩:=zero O _ _ _
    exact⟨[],h1,by rw[h2];exact .nil⟩
  ·cases hl
 ·rename_i t
  split at hl
  ·rename_i hsz
   have hsz:=Nat.eq_of_beq_eq_true hsz
   subst hsz
   cases hx
   cases hl
   refine⟨_,?_,bytes_rel _⟩
   have:(t.extract 0 t.size)=t:=ByteArray.extract_zero_size
   simp only[Builtin.firstCells,this]
   show Result.ok _ _=_
   congr 1
   apply Array.ext'
   simp
  ·cases hl
 ·cases hl
theorem lenV_sound{x x':Value}{n:Nat}(hx:VRel P β x x')(hn:lenV x=some n):(∀u:World,(Builtin.lenOf x').run P u=.ok n u)∧∀a len cap,x=.slice a len cap→n≤len:=by
 unfold lenV at hn
 split at hn
 ·rename_i a len cap
  cases hn
  refine⟨?_,fun a' len' cap' e=>by cases e;exact Nat.le_refl _⟩
  cases hx<;>exact fun _=>rfl
 ·cases hn
  cases hx
  exact⟨fun _=>rfl,by simp⟩
 ·cases hn
def isIntD:TypeDesc→Bool
 | .int _=>true
 |_=>false
def Appended(P:Program)(w:World)(d:TypeDesc)(inf:TypeInfo)(x':Value)(n:Nat)(new':List Value):Prop:=
 (isIntD d=true→x'=.int .i64 (n:Int)∧n≤1000000∧n*(inf.bytes+1)≤1073741824∧∃z,inf.zero=some z∧new'=if n*inf.size=0 then []else(Builtin.zeroCells z.cells n).toList) ∧
 (isIntD d=false→(∀u:World,(Builtin.lenOf x').run P u=.ok n u)∧(Builtin.firstCells inf.size n x').run P w=.ok ⟨new'⟩ w)
theorem zeroCells_plain{z:Array Value}{n:Nat}(h:z.toList.all xv=true)(hz:z.size≠0):(Builtin.zeroCells z n).toList.all xv=true:=by
 rw[List.all_eq_true]at h ⊢
 intro v hv
 simp only[Builtin.zeroCells,Array.toList_map,List.mem_map,Array.mem_toList_iff,Array.mem_range]at hv
 obtain⟨i,hi,rfl⟩:=hv
 have hlt:i % z.size<z.size:=Nat.mod_lt _ O
 have:z[i % z.size]! = z[i % z.size]:=by simp[hlt]
 rw[this]
 exact h _ Y8
theorem newL_sound(h:Rel P β s w){d:TypeDesc}{inf:TypeInfo}{x x':Value}(hx:VRel P β x x'){n:Nat}{new:List Value}(hn:newL (some d) inf x s=some (n,new)) :
  ∃new',Appended P w d inf x' n new'∧LRel P β new new':=by
 unfold newL at hn
 split at hn
 ·rename_i k e
  cases e
  split at hn
  ·rename_i l z hz
   split at hn
   ·rename_i hb
    simp only[Bool.and_eq_true,Nat.ble_eq]at hb
    obtain⟨⟨h1,h2⟩,h3⟩:=hb
    simp only[Option.some.injEq,Prod.mk.injEq]at hn
    obtain⟨rfl,hnew⟩:=hn
    cases hx
    have hp:newL.plain0=xv:=by
     funext v
     cases v<;>rfl
    rw[hp,←cellsL_eq]at h3
    by_cases h0:l*inf.size=0
    ·have:Nat.beq (l*inf.size) 0=true:=by rw[h0];rfl
     rw[this]at hnew
     simp only at hnew
     subst hnew
     exact⟨[],⟨fun _=>⟨rfl,h1,h2,z,hz,by rw[if_pos h0]⟩,fun hh=>by simp[isIntD]at hh⟩,.nil⟩
    ·have:Nat.beq (l*inf.size) 0=false:=by rw[Bool.eq_false_iff];intro hh;exact h0 (Nat.eq_of_beq_eq_true hh)
     rw[this]at hnew
     simp only at hnew
     subst hnew
     refine⟨(Builtin.zeroCells z.cells l).toList,⟨fun _=>⟨rfl,h1,h2,z,hz,by rw[if_neg h0]⟩,fun hh=>by simp[isIntD]at hh⟩,?_⟩
     by_cases hzs:z.cells.size=0
     ·have:(Builtin.zeroCells z.cells l).toList=[]:=by simp[Builtin.zeroCells,hzs]
      rw[this];exact .nil
     ·exact xu (zeroCells_plain h3 hzs)
   ·cases hn
  ·cases hn
 ·rename_i hd e
  cases e
  split at hn
  ·rename_i k hk
   split at hn
   ·rename_i l hl
    simp only[Option.some.injEq,Prod.mk.injEq]at hn
    obtain⟨rfl,rfl⟩:=hn
    obtain⟨g1,g2⟩:=lenV_sound (P:=P) hx hk
    obtain⟨l',g3,g4⟩:=firstL_sound h hx hl g2
    refine⟨l',⟨fun hh=>?_,fun _=>⟨g1,g3⟩⟩,g4⟩
    cases d<;>simp[isIntD]at hh
    exact(hd _ rfl).elim
   ·cases hn
  ·cases hn
 ·rename_i e;cases e
theorem wrap_small{n:Nat}(h:n≤1000000):IntKind.i64.wrap (n:Int)=n:=IntWalk.i64_in _ O
theorem xX{argTypes:Array TypeId}{sType xType e:TypeId}{d:TypeDesc}{inf:TypeInfo}(h0:argTypes[0]? = some sType)(h1:argTypes[1]? = some xType)
  (hs:P.underlying sType=some (.slice e)) (hd:P.underlying xType=some d) (hi:P.info? e=some inf) {x':Value} {n:Nat} {new':List Value} (ha:Appended P w d inf x' n new')
  {base:Option Addr} {sLen cap:Nat} (hfit:sLen+n≤cap) (ty:TypeId) :
  (Builtin.append_ argTypes ty #[.slice base sLen cap,x']).run P w =
   (match base with|some a=>(storeCells (a.add (sLen*inf.size)) new').run P w|none=>.ok () w).andThen fun _ w'=>.ok (.slice base (sLen+n) cap) w':=by
 cases d
 case int k=>
  obtain⟨rfl,g1,g2,z,g3,rfl⟩:=ha.1 rfl
  have hb:¬((n:Int)*(inf.bytes:Int)>2 ^ 48):=by
   have:n*inf.bytes≤1073741824:=Nat.le_trans (Nat.mul_le_mul_left _ O) g2
   have h2:((n*inf.bytes:Nat):Int)≤1073741824:=by omega
   rw[Int.natCast_mul]at h2
   omega
  have hneg:¬((n:Int)<0):=by omega
  by_cases h00:n*inf.size=0
  ·simp only[Builtin.append_,h0,h1,List.getElem?_toArray,List.getElem?_cons_zero,List.getElem?_cons_succ,Sem.run_bind,run_underlying hs,run_underlying hd,Result.andThen_ok,zF hi,Sem.run_pure,if_true,asInt,asIntOf,wrap_small g1,hneg,if_false,yZ hi,hb,Int.toNat_natCast,hfit,h00,Bool.not_true,Bool.false_eq_true]
   cases base<;>simp
  ·simp only[Builtin.append_,h0,h1,List.getElem?_toArray,List.getElem?_cons_zero,List.getElem?_cons_succ,Sem.run_bind,run_underlying hs,run_underlying hd,Result.andThen_ok,zF hi,Sem.run_pure,if_true,asInt,asIntOf,wrap_small g1,hneg,if_false,yZ hi,hb,Int.toNat_natCast,hfit,h00,Bool.not_true,Bool.false_eq_true,z7 hi g3]
   cases base<;>simp
 all_goals
  obtain⟨g1,g2⟩:=ha.2 rfl
  simp only[Builtin.append_,h0,h1,List.getElem?_toArray,List.getElem?_cons_zero,List.getElem?_cons_succ,Sem.run_bind,run_underlying hs,run_underlying hd,Result.andThen_ok,zF hi,Sem.run_pure,Bool.false_eq_true,if_false,g1,hfit,if_true,Bool.not_false,g2]
  cases base<;>simp
theorem growBy_le(n:Nat):∀(r c:Nat),c≤n+(n+768) / 4→Builtin.growBy n r c≤n+(n+768) / 4
 |0,c,h=>h
 |r+1,c,h=>by
  unfold Builtin.growBy
  split
  ·exact h
  ·exact growBy_le n r _ O
theorem nextslicecap_le{need cap:Nat}(h:cap<need):Builtin.nextslicecap need cap≤2*need+1000:=by
 unfold Builtin.nextslicecap
 split
 ·omega
 ·split
  ·omega
  ·have:=growBy_le need 4 cap O;omega
abbrev drewW(w:World):World:={w with drawn:=w.drawn+1}
theorem run_append_out{argTypes:Array TypeId}{sType xType e:TypeId}{d:TypeDesc}{inf:TypeInfo}(h0:argTypes[0]? = some sType)(h1:argTypes[1]? = some xType)
  (hs:P.underlying sType=some (.slice e)) (hd:P.underlying xType=some d) (hi:P.info? e=some inf) {x':Value} {n:Nat} {new':List Value} (ha:Appended P (drewW w) d inf x' n new')
  {base:Option Addr} {sLen cap:Nat} (hfit:¬sLen+n≤cap) (hsm:(sLen+n)*(inf.bytes+1)≤1073741824) {z:Value} (hz:inf.zero=some z) {old':List Value}
  (ho:(Builtin.firstCells inf.size sLen (.slice base sLen cap)).run P (drewW w)=.ok ⟨old'⟩ (drewW w)) (ty:TypeId) :
  ∃nc,sLen+n≤nc∧(Builtin.append_ argTypes ty #[.slice base sLen cap,x']).run P w =
   .ok (.slice (some ⟨w.heap.size,0,none⟩) (sLen+n) nc) {(drewW w)with heap:=w.heap.push (.cells (⟨old'⟩++⟨new'⟩++Builtin.zeroCells z.cells (nc-(sLen+n))) e)}:=by
 have hbig':¬(((sLen+n:Nat):Int)>IntKind.i64.max):=by
  have:sLen+n≤1073741824:=Nat.le_trans (Nat.le_mul_of_pos_right _ O) hsm
  have:IntKind.i64.max=9223372036854775807:=by decide
  omega
 have hcap:¬(Builtin.nextslicecap (sLen+n) cap*inf.bytes>2 ^ 48):=by
  have h1:=nextslicecap_le (need:=sLen+n) (cap:=cap) O
  have h2:Builtin.nextslicecap (sLen+n) cap*inf.bytes≤(2*(sLen+n)+1000)*inf.bytes:=Nat.mul_le_mul_right _ h1
  have h3:(sLen+n)*inf.bytes≤1073741824:=Nat.le_trans (Nat.mul_le_mul_left _ O) hsm
  have h4:inf.bytes≤1073741824:=by
   have:1*(inf.bytes+1)≤(sLen+n)*(inf.bytes+1):=Nat.mul_le_mul_right _ O
   omega
  rw[Nat.add_mul,Nat.mul_assoc]at h2
  omega
 refine⟨(Question.appendCap (sLen+n) cap e).cut (w.tape w.drawn (Question.appendCap (sLen+n) cap e)),by simp[Question.cut],?_⟩
 cases d
 case int k=>
  obtain⟨rfl,g1,g2,z',g3,rfl⟩:=ha.1 rfl
  rw[hz]at g3;cases g3
  have hb:¬((n:Int)*(inf.bytes:Int)>2 ^ 48):=by
   have:n*inf.bytes≤1073741824:=Nat.le_trans (Nat.mul_le_mul_left _ O) g2
   have h2:((n*inf.bytes:Nat):Int)≤1073741824:=by omega
   rw[Int.natCast_mul]at h2
   omega
  have hneg:¬((n:Int)<0):=by omega
  by_cases h00:n*inf.size=0
  ·simp only[Builtin.append_,h0,h1,List.getElem?_toArray,List.getElem?_cons_zero,List.getElem?_cons_succ,Sem.run_bind,run_underlying hs,run_underlying hd,Result.andThen_ok,zF hi,Sem.run_pure,if_true,asInt,asIntOf,wrap_small g1,hneg,if_false,yZ hi,hb,Int.toNat_natCast,hfit,h00,Bool.not_true,Bool.false_eq_true,hbig',false_and,hcap,run_choose,Question.forced,run_askRoom,ho,z7 hi hz]
   (simp[newRow];exact⟨rfl,rfl,rfl⟩)
  ·simp only[Builtin.append_,h0,h1,List.getElem?_toArray,List.getElem?_cons_zero,List.getElem?_cons_succ,Sem.run_bind,run_underlying hs,run_underlying hd,Result.andThen_ok,zF hi,Sem.run_pure,if_true,asInt,asIntOf,wrap_small g1,hneg,if_false,yZ hi,hb,Int.toNat_natCast,hfit,h00,Bool.not_true,Bool.false_eq_true,hbig',false_and,hcap,run_choose,Question.forced,run_askRoom,ho,z7 hi hz]
   (simp[newRow];exact⟨rfl,rfl,rfl⟩)
 all_goals
  obtain⟨g1,g2⟩:=ha.2 rfl
  simp only[Builtin.append_,h0,h1,List.getElem?_toArray,List.getElem?_cons_zero,List.getElem?_cons_succ,Sem.run_bind,run_underlying hs,run_underlying hd,Result.andThen_ok,zF hi,Sem.run_pure,Bool.false_eq_true,if_false,g1,hfit,if_true,Bool.not_false,g2,hbig',false_and,yZ hi,hcap,run_choose,Question.forced,run_askRoom,ho,z7 hi hz]
  (simp[newRow];exact⟨rfl,rfl,rfl⟩)
theorem rowB_elem(h:Rel P β s w){e:TypeId}{b off cap:Nat}{m:Img}(hb:β b=some m)(hodd:cap % 2=1)(hrow:rowB e (some ⟨b,off,none⟩) cap s=true) :
  ∃c,s.get b=some (.cells c e)∧e=m.elem:=by
 unfold rowB at hrow
 rw[hodd]at hrow
 simp only at hrow
 split at hrow
 ·rename_i c e' hg
  have he:=Nat.eq_of_beq_eq_true hrow
  subst he
  exact⟨c,hg,(h.row hb hg).1⟩
 ·cases hrow
theorem growB_spec{inf:TypeInfo}{need n:Nat}{new:List Value}(h:growB inf need n new=true) :
  need*(inf.bytes+1)≤1073741824∧new.all plainCell=true∧new.length=n*inf.size∧∃z,inf.zero=some z∧z.cells.size=inf.size:=by
 unfold growB at h
 simp only[Bool.and_eq_true,Nat.ble_eq]at h
 obtain⟨⟨⟨h1,h2⟩,h3⟩,h4⟩:=h
 have h3:=Nat.eq_of_beq_eq_true h3
 rw[zH]at h3
 refine⟨h1,h2,by omega,?_⟩
 split at h4
 ·rename_i z hz
  have h4:=Nat.eq_of_beq_eq_true h4
  rw[zH]at h4
  refine⟨z,hz,?_⟩
  have:=cellsL_eq z
  rw[←Array.length_toList,this]
  omega
 ·cases h4
theorem zeroCells_size(z:Array Value)(n:Nat):(Builtin.zeroCells z n).size=n*z.size:=by simp[Builtin.zeroCells]
theorem newS_sound(h:Rel P β s w){e:TypeId}{inf:TypeInfo}(hi:P.info? e=some inf){c c':List Value}(hc:LRel P β c c'){need nc:Nat}(hn:need≤nc){rest:Array Value}
  (hlen:c.length=need*inf.size) (hrest:rest.size=(nc-need)*inf.size) {r':Result Next}
  (hr:r'=.ok (.value (.slice (some ⟨w.heap.size,0,none⟩) need nc)) {(drewW w)with heap:=w.heap.push (.cells (⟨c'⟩++rest) e)}) :
  OpS P β s w (newS e c need s) r':=by
 unfold newS
 split
 ·rename_i hroom
  intro hf
  have hnx:=free_new hf
  have hx:=Ext.row h hroom hnx (c:=c) (c':=⟨c'⟩++rest) e (0,0) Y8 (fun i v hv=>by
   obtain⟨v',g1,g2⟩:=hc.get hv
   refine⟨v',?_,g2⟩
   have hlt:i<c'.length:=by
    rcases Nat.lt_or_ge i c'.length with hh|hh
    ·exact hh
    ·rw[List.getElem?_eq_none hh]at g1;cases g1
   rw[Array.getElem?_append_left (by simpa using hlt)]
   simpa using g1)
  refine⟨_,_,_,hr,hx.drew rfl rfl rfl rfl,_,rfl,(VRel.sgrown (m:=⟨w.heap.size,0,(⟨c'⟩++rest:Array Value).size,e,false⟩) Ren.add_self hn ?_)⟩
  simp only[Program.cellsOf,hi,Option.map_some,Option.getD_some,Array.size_append,hrest]
  have:(⟨c'⟩:Array Value).size=need*inf.size:=by
   show c'.length=_
   rw[hc.length,hlen]
  rw[this,Nat.sub_mul]
  have:need*inf.size≤nc*inf.size:=Nat.mul_le_mul_right _ hn
  omega
 ·exact .stuck
theorem firstL_length{sz n:Nat}{base:Option Addr}{len cap:Nat}{l:List Value}(h:yD sz n (.slice base len cap) s=some l)(hb:base=none→n=0):l.length=n*sz:=by
 unfold yD at h
 split at h
 ·rename_i e;cases e
  cases h
  simp[hb rfl]
 ·rename_i e;cases e
  split at h
  ·rw[y5]at h
   split at h
   ·rename_i hle
    cases h
    simp only[List.length_take]
    omega
   ·cases h
  ·cases h
 ·rename_i e;cases e
 ·cases h
end
end Go.M
namespace Go.M
section
variable{P:Program}{β:Ren}{s:St}{w:World}
theorem OpS.after{β₁:Ren}{s₁:St}{w₁:World}(h:Ext P β s w β₁ s₁ w₁)(hnext:s₁.next=s.next)(hβ:β₁=β){r:Res Next}{r':Result Next}(hr:OpS P β₁ s₁ w₁ r r'):OpS P β s w r r':=by
 subst hβ
 cases r with
 |stuck=>trivial
 |ok n s'=>
  intro hf
  obtain⟨β',w',n',h1,h2,h3⟩:=hr (fun b hl hu=>hf b O hu)
  exact⟨β',w',n',h1,h.trans h2 hf,h3⟩
 |panic v s'=>
  intro hf
  obtain⟨β',w',n',h1,h2,h3⟩:=hr (fun b hl hu=>hf b O hu)
  exact⟨β',w',n',h1,h.trans h2 hf,h3⟩
theorem newL_nil{d:TypeDesc}{inf:TypeInfo}{x x':Value}(hx:VRel P β x x'){new:List Value}(hn:newL (some d) inf x s=some (0,new)):new=[]:=by
 unfold newL at hn
 split at hn
 ·split at hn
  ·split at hn
   ·simp only[Option.some.injEq,Prod.mk.injEq]at hn
    obtain⟨h1,h2⟩:=hn
    rw[h1]at h2
    simpa using h2.symm
   ·cases hn
  ·cases hn
 ·split at hn
  ·rename_i k hk
   split at hn
   ·rename_i l hl
    simp only[Option.some.injEq,Prod.mk.injEq]at hn
    obtain⟨rfl,rfl⟩:=hn
    cases hx<;>simp only[lenV,Option.some.injEq,reduceCtorEq]at hk
    case string t=>
     unfold yD at hl
     simp only at hl
     split at hl
     ·cases hl
      have:t.data.toList=[]:=by
       apply List.eq_nil_of_length_eq_zero
       rw[Array.length_toList];exact hk
      rw[this];rfl
     ·cases hl
    all_goals exact List.eq_nil_of_length_eq_zero (by rw[firstL_length hl Y8];simp)
   ·cases hn
  ·cases hn
 ·cases hn
theorem Rel.drewW(h:Rel P β s w):Rel P β s (drewW w):=h.of_heap rfl
section
variable{argTypes:Array TypeId}{sType xType e:TypeId}{d:TypeDesc}{inf:TypeInfo}
theorem append_fits(h:Rel P β s w)(h0:argTypes[0]? = some sType)(h1:argTypes[1]? = some xType)(hs:P.underlying sType=some (.slice e))(hd:P.underlying xType=some d)
  (hi:P.info? e=some inf) {base:Option Addr} {sLen cap n:Nat} {y' x x':Value} (hy:VRel P β (.slice base sLen cap) y') (hx:VRel P β x x') {new:List Value}
  (hn:newL (some d) inf x s=some (n,new)) (hfit:sLen+n≤cap / 2) {b off:Nat} (hbase:base=some ⟨b,off,none⟩) {s₁:St} {nx:Next}
  (hst:yB b (off+sLen*inf.size) new s=.ok nx s₁) (ty:TypeId) :
  OpS P β s w (okV (.slice base (sLen+n) cap) s₁) ((zu (Builtin.append_ argTypes ty #[y',x'])).run P w):=by
 intro _
 subst hbase
 obtain⟨new',ha,hnew⟩:=newL_sound h hx hn
 have small:∀(m:Img) (o':Nat) (cap':Nat),β b=some m→sLen+n=0→∃w',(Builtin.append_ argTypes ty #[.slice (some ⟨m.blk,o',none⟩) sLen cap',x']).run P w=.ok (.slice (some ⟨m.blk,o',none⟩) (sLen+n) cap') w'∧Ext P β s w β s₁ w':=by
  intro m o' cap' hb hz
  have hn0:n=0:=by omega
  subst hn0
  have:=newL_nil hx hn
  subst this
  cases hnew
  obtain⟨_,w',g1,g2⟩:=yn h hb .nil hst
  refine⟨w',?_,g2⟩
  rw[xX h0 h1 hs hd hi ha O ty]
  have:w'=w:=by
   have:(storeCells ⟨m.blk,off+sLen*inf.size+m.sh,none⟩ []).run P w=.ok () w:=rfl
   rw[this]at g1;cases g1;rfl
  subst this
  rfl
 cases hy with
 | @sknown _ _ _ c m hb=>
  obtain⟨_,w',g1,g2⟩:=yn h hb hnew hst
  refine⟨β,w',.value (.slice (some ⟨m.blk,off+m.sh,none⟩) (sLen+n) c),zx ?_,g2,_,rfl,.sknown hb⟩
  rw[xX h0 h1 hs hd hi ha O ty]
  simp only[xF]
  rw[show off+m.sh+sLen*inf.size=off+sLen*inf.size+m.sh by omega,g1]
  rfl
 | @sgrown _ _ _ c cap' m hb hc hsz=>
  obtain⟨_,w',g1,g2⟩:=yn h hb hnew hst
  refine⟨β,w',.value (.slice (some ⟨m.blk,off+m.sh,none⟩) (sLen+n) cap'),zx ?_,g2,_,rfl,.sgrown hb hc hsz⟩
  rw[xX h0 h1 hs hd hi ha O ty]
  simp only[xF]
  rw[show off+m.sh+sLen*inf.size=off+sLen*inf.size+m.sh by omega,g1]
  rfl
 | @sempty _ _ off' cap' m hb hsz=>
  obtain⟨w',g1,g2⟩:=small m off' cap' hb O
  refine⟨β,w',_,zx g1,g2,_,rfl,?_⟩
  have:0+n=0:=by omega
  rw[this]
  exact .sempty hb hsz
 | @szero _ _ off' m hb=>
  obtain⟨w',g1,g2⟩:=small m off' 0 hb O
  refine⟨β,w',_,zx g1,g2,_,rfl,?_⟩
  have:0+n=0:=by omega
  rw[this]
  exact .szero hb
theorem qG(h:Rel P β s w)(h0:argTypes[0]? = some sType)(h1:argTypes[1]? = some xType)(hs:P.underlying sType=some (.slice e))(hd:P.underlying xType=some d)
  (hi:P.info? e=some inf) {base:Option Addr} {sLen cap n:Nat} {base':Option Addr} {cap':Nat} {x x':Value} (hy:VRel P β (.slice base sLen cap) (.slice base' sLen cap')) (hx:VRel P β x x')
  {new old:List Value} (hn:newL (some d) inf x s=some (n,new)) (hfit:¬sLen+n≤cap') (hg:growB inf (sLen+n) n new=true)
  (ho:yD inf.size sLen (.slice base sLen cap) s=some old) (ty:TypeId) {s₁:St} (hk:Ext P β s w β s₁ w) (hnext:s₁.next=s.next) :
  OpS P β s w (newS e (old++new) (sLen+n) s₁) ((zu (Builtin.append_ argTypes ty #[.slice base' sLen cap',x'])).run P w):=by
 obtain⟨new',ha,hnew⟩:=newL_sound h.drewW hx hn
 obtain⟨old',hold,hor⟩:=firstL_sound h.drewW hy ho (fun a len c e=>by cases e;exact Nat.le_refl _)
 obtain⟨g1,g2,g3,z,g4,g5⟩:=growB_spec hg
 obtain⟨nc,hnc,hrun⟩:=run_append_out (w:=w) h0 h1 hs hd hi ha hfit g1 g4 hold ty
 have holen:old.length=sLen*inf.size:=firstL_length ho (fun hb=>by subst hb;cases hy;rfl)
 refine OpS.after hk hnext rfl (newS_sound hk.rel hi (hor.append hnew) hnc (rest:=Builtin.zeroCells z.cells (nc-(sLen+n))) ?_ ?_ ?_)
 ·rw[List.length_append,holen,g3,Nat.add_mul]
 ·rw[zeroCells_size,g5]
 ·have e1:(⟨old'⟩++⟨new'⟩:Array Value)=⟨old'++new'⟩:=by apply Array.ext';simp
  exact zx (by rw[hrun,e1])
theorem append_moves(h:Rel P β s w)(h0:argTypes[0]? = some sType)(h1:argTypes[1]? = some xType)(hs:P.underlying sType=some (.slice e))(hd:P.underlying xType=some d)
  (hi:P.info? e=some inf) {b off sLen cap n o' cap':Nat} {m:Img} {x x':Value} (hb:β b=some m) (hx:VRel P β x x') {c:List Value} (hgb:s.get b=some (.cells c e)) (hme:e=m.elem)
  {new old:List Value} (hn:newL (some d) inf x s=some (n,new)) (hfit:sLen+n≤cap') (hroomc:m.sh≤o'∧o'+cap'*inf.size≤m.size) (hg:growB inf (sLen+n) n new=true)
  (ho:yD inf.size sLen (.slice (some ⟨b,off,none⟩) sLen cap) s=some old) (hoff:sLen=0∨o'=off+m.sh) (hmay:s.may b=true) (ty:TypeId) :
  OpS P β s w (newS e (old++new) (sLen+n) (s.put b none)) ((zu (Builtin.append_ argTypes ty #[.slice (some ⟨m.blk,o',none⟩) sLen cap',x'])).run P w):=by
 unfold newS
 split
 ·rename_i hroom
  intro hf
  have hnx:β s.next=none:=hf s.next Z3 Y8
  obtain⟨new',ha,hnew⟩:=newL_sound h hx hn
  obtain⟨g1,g2,g3,z,g4,g5⟩:=growB_spec hg
  obtain⟨_,c',e',fz,hh,hsz,hfz,hc⟩:=h.row hb hgb
  have holen:old.length=sLen*inf.size:=firstL_length ho Y8
  have hnl:=hnew.length
  have hmul:(sLen+n)*inf.size≤cap'*inf.size:=Nat.mul_le_mul_right _ hfit
  rw[Nat.add_mul]at hmul
  have hin:o'+sLen*inf.size+new'.length≤c'.size:=by rw[hnl,g3];omega
  have hst:=run_storeCells_cells (P:=P) m.blk (o'+sLen*inf.size) new' 0 w (fun j hj=>by
    simp only[World.cell?,hh,Nat.add_zero]
    have:o'+sLen*inf.size+j<c'.size:=by omega
    simp[this])
   (fun j hj=>by
    simp only[World.frozen?,hh,Nat.add_zero]
    have h1:=hfz.2 (o'+sLen*inf.size+j) O (by rw[hnl,g3]at hj;omega)
    simp only[Bool.and_eq_false_iff,decide_eq_false_iff_not]
    by_cases h2:fz.1≤o'+sLen*inf.size+j
    ·exact .inr fun h3=>h1 ⟨h2,h3⟩
    ·exact .inl h2)
   (hnew.oneCell g2)
  rw[Nat.add_zero]at hst
  obtain⟨c₂,k1,k2,k3,k4⟩:=setCells_heap m.blk new' (o'+sLen*inf.size) w c' e' fz hh hin
  obtain⟨q1,q2,q3,q4,q5⟩:=setCells_other m.blk new' (o'+sLen*inf.size) w
  refine⟨_,_,.value (.slice (some ⟨m.blk,o',none⟩) (sLen+n) cap'),zx ?_,
   Ext.move h (m₁:=⟨m.blk,o',m.size,m.elem,false⟩) hb hgb hmay (by simpa[St.room]using hroom) hnx rfl rfl q1 q2 ⟨_,k1,?_⟩ q3 q4 q5,_,rfl,?_⟩
  ·rw[xX h0 h1 hs hd hi ha hfit ty]
   simp only[xF]
   rw[hst]
   rfl
  ·refine .cells hme (by rw[k2];exact hsz) (.inr (by simp only[List.length_append,holen,g3];omega)) (fun i h5 h6=>hfz.2 i (by simp only at h5;omega) h6) fun i v hv=>?_
   rw[List.getElem?_append]at hv
   split at hv
   ·rename_i hlt
    rcases hoff with h00|h00
    ·rw[holen,h00]at hlt;omega
    have hci:c[off+i]? = some v:=by
     unfold yD at ho
     simp only[hgb]at ho
     rw[y5,y6]at ho
     split at ho
     ·cases ho
      simp only[List.length_take]at hlt
      rw[List.getElem?_take_of_lt O,List.getElem?_drop]at hv
      exact hv
     ·cases ho
    obtain⟨v',hv',hr⟩:=hc (off+i) v hci
    refine⟨v',?_,hr⟩
    show c₂[i+o']? = some v'
    rw[k3 _ O,h00,show i+(off+m.sh)=off+i+m.sh by omega]
    exact hv'
   ·rename_i hge
    obtain⟨v',hv',hr⟩:=hnew.get hv
    refine⟨v',?_,hr⟩
    have:=k4 _ v' hv'
    show c₂[i+o']? = some v'
    rw[show i+o'=o'+sLen*inf.size+(i-old.length)by omega]
    exact this
  ·have hv:=VRel.sgrown (P:=P) (β:=β.add s.next ⟨m.blk,o',m.size,m.elem,false⟩) (b:=s.next) (off:=0) (len:=sLen+n) (c:=sLen+n) (cap:=cap') (m:=⟨m.blk,o',m.size,m.elem,false⟩) Ren.add_self hfit (by
    show 0+o'+cap'*P.cellsOf m.elem≤m.size
    rw[←hme]
    simp only[Program.cellsOf,hi,Option.map_some,Option.getD_some]
    omega)
   simpa using hv
 ·exact .stuck
end
theorem append_sound(h:Rel P β s w){argTypes:Array TypeId}{args args':List Value}(ha:LRel P β args args')(ty:TypeId) :
  OpS P β s w (yi P argTypes.toList args s) ((zu (Builtin.append_ argTypes ty ⟨args'⟩)).run P w):=by
 unfold yi
 split
 ·rename_i sType xType rest base sLen cap x htypes
  have h0:argTypes[0]? = some sType:=by rw[←Array.getElem?_toList,htypes];rfl
  have h1:argTypes[1]? = some xType:=by rw[←Array.getElem?_toList,htypes];rfl
  cases ha with
  | @cons _ y' _ _ hy ha=>
  cases ha with
  | @cons _ x' _ _ hx ha=>
  cases ha
  split
  ·rename_i e hs
   split
   ·rename_i inf hi
    split
    ·rename_i n new hn
     cases hd:P.underlying xType with
     |none=>rw[hd]at hn;simp[newL]at hn
     |some d=>
     rw[hd]at hn
     unfold yX
     split
     ·rename_i hfit
      simp only[Nat.ble_eq]at hfit
      split
      ·rename_i b off
       split
       ·rename_i nx s₁ hst
        exact append_fits h h0 h1 hs hd hi hy hx hn hfit rfl hst ty
       ·exact .stuck
      ·rename_i hbase
       split
       ·cases hy with
        |snil=>
         obtain⟨new',hap,hnew⟩:=newL_sound h hx hn
         have:=newL_nil hx hn
         subst this
         cases hnew
         refine .value h (v':=.slice none 0 0) .snil (zx ?_)
         rw[xX h0 h1 hs hd hi hap O ty]
         rfl
        |sknown hb=>exact(hbase _ _ rfl).elim
        |sgrown hb _ _=>exact(hbase _ _ rfl).elim
        |sempty hb _=>exact(hbase _ _ rfl).elim
        |szero hb=>exact(hbase _ _ rfl).elim
       ·exact .stuck
     ·rename_i hfit
      have hfit:¬sLen+n≤cap / 2:=fun hh=>by rw[Nat.ble_eq_true_of_le hh]at hfit;cases hfit
      split
      ·rename_i old hg ho
       simp only[Bool.and_eq_true]at hg
       unfold growM killM
       split
       ·rename_i s₁ hk
        split at hk
        ·rename_i hev
         cases hk
         -- the capacity is known
         cases hy with
         |snil=>exact qG h h0 h1 hs hd hi .snil hx hn O hg.1 ho ty (Ext.refl h) rfl
         |sknown hb=>exact qG h h0 h1 hs hd hi (.sknown hb) hx hn O hg.1 ho ty (Ext.refl h) rfl
         |szero hb=>exact qG h h0 h1 hs hd hi (.szero hb) hx hn O hg.1 ho ty (Ext.refl h) rfl
         |sgrown hb _ _=>omega
         |sempty hb _=>omega
        ·rename_i hod
         split at hk
         ·rename_i a
          split at hk
          ·rename_i hmay
           cases hk
           have hodd:cap % 2=1:=(Nat.mod_two_eq_zero_or_one cap).resolve_left hod
           cases hy with
           |sknown hb=>omega
           |szero hb=>omega
           | @sgrown b off _ c cap' m hb hc hsz=>
            obtain⟨cc,hgb,hme⟩:=rowB_elem h hb hodd hg.2
            have hcells:P.cellsOf m.elem=inf.size:=by rw[←hme];simp[Program.cellsOf,hi]
            by_cases hin:sLen+n≤cap'
            ·exact append_moves h h0 h1 hs hd hi hb hx hgb hme hn hin (by rw[hcells]at hsz;exact⟨by omega,hsz⟩) hg.1 ho (.inr rfl) hmay ty
            ·exact qG h h0 h1 hs hd hi (.sgrown hb hc hsz) hx hn hin hg.1 ho ty (Ext.kill h (h.lt hgb) hmay) rfl
           | @sempty b off off' cap' m hb hsz=>
            obtain⟨cc,hgb,hme⟩:=rowB_elem h hb hodd hg.2
            have hcells:P.cellsOf m.elem=inf.size:=by rw[←hme];simp[Program.cellsOf,hi]
            by_cases hin:0+n≤cap'
            ·exact append_moves h h0 h1 hs hd hi hb hx hgb hme hn hin (by rw[hcells]at hsz;exact hsz) hg.1 ho (.inl rfl) hmay ty
            ·exact qG h h0 h1 hs hd hi (.sempty hb hsz) hx hn hin hg.1 ho ty (Ext.kill h (h.lt hgb) hmay) rfl
          ·cases hk
         ·cases hk
       ·exact .stuck
      ·exact .stuck
    ·exact .stuck
   ·exact .stuck
  ·exact .stuck
 ·exact .stuck
end
end Go.M
