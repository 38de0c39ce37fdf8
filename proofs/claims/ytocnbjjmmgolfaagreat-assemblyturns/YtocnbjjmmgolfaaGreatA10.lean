/- Rules for operations that make slices and structs; maps; drawn regions. -/
/- Bits of numbers. -/
/- More rules: results in cells; slices that a function owns. -/
/- Digits in base 10^9: the digits of a number, the value of digits. -/
/- Digits as they are written one by one; rational numbers: bounds, and how they are made. -/
/- How fractions are brought into lowest terms. -/
/- Walks in a forest that never go back: what a search vH the edges finds, and how deep it goes. -/
import Derived.Test.YtocnbjjmmgolfaaGreatA09
import Derived.Test.YtocnbjjmmgolfaaGreatA00
namespace Go.M
section
variable{P:Program}{I:xP}{F:FF}{s:St}{Q:FF→St→Prop}{d:Option Tmp}{ty:TypeId}{pos:String}{af:Array Edge}{g:Option (Nat×Bool)}
variable{W:List Nat}{s0:St}{L:Hp'}{n:Nat}
def placesL(P:Program):List Field→List (Nat×Nat)
  | []=>[]
  |f::l=>(f.offset,match P.info? f.type with
    |some i=>i.size
    |none=>0)::placesL P l
def rowL(sz:Nat):Nat→Nat→List (Nat×Nat)
  |_,0=>[]
  |i,k+1=>(i*sz,sz)::rowL sz (i+1) k
def buildF(P:Program)(t:TypeId):Option (List Value×List (Nat×Nat)):=
  match zeroL P t,P.underlying t with
  |some z,some (.struct fields)=>match fields.toList.all (fun f=>(P.info? f.type).isSome)with
    |true=>some (z,placesL P fields.toList)
    |false=>none
  |some z,some (.array n e)=>match P.info? e with
    |some inf=>some (z,rowL inf.size 0 n)
    |none=>none
  |_,_=>none
theorem fillL_mono{p q:Nat→Option (Nat×Nat)}{ρ:Operand→Value}(h:∀i x,p i=some x→q i=some x):∀(l:List (Nat×Operand)) (c r:List Value),wA p ρ l c=some r→wA q ρ l c=some r
  | [],_,_,e=>e
  |(i,x)::l,c,r,e=>by
    simp only[wA]at e ⊢
    cases hp:p i with
    |none=>rw[hp]at e;cases e
    |some y=>
      rw[hp]at e
      rw[h i y hp]
      simp only at e ⊢
      split at e
      · next c' h1 h2=>
        exact fillL_mono h l c' r e
      · cases e
theorem places_ok{P:Program}:∀(l:List Field) (i:Nat) (x:Nat×Nat),l.all (fun f=>(P.info? f.type).isSome)=true→qG (placesL P l) i=some x→placeF P l i=some x
  | [],i,x,_,h=>by simp[placesL,qG]at h
  |f::l,0,x,ha,h=>by
    simp only[List.all_cons,Bool.and_eq_true]at ha
    simp only[placesL,qG,Option.some.injEq]at h
    simp only[placeF,qG]
    cases hi:P.info? f.type with
    |none=>rw[hi]at ha;simp at ha
    |some inf=>rw[hi]at h;simp only at h ⊢;rw[h]
  |f::l,i+1,x,ha,h=>by
    simp only[List.all_cons,Bool.and_eq_true]at ha
    simp only[placesL,qG]at h
    have:=places_ok l i x (by simpa using ha.2) h
    simp only[placeF]at this ⊢
    simpa only[qG]using this
theorem row_ok{sz:Nat}:∀(k j i:Nat) (x:Nat×Nat),qG (rowL sz j k) i=some x→some x=some ((j+i)*sz,sz)
  |0,j,i,x,h=>by simp[rowL,qG]at h
  |k+1,j,0,x,h=>by simp only[rowL,qG]at h;rw[←h];simp
  |k+1,j,i+1,x,h=>by
    simp only[rowL,qG]at h
    have:=row_ok k (j+1) i x h
    rw[this]
    congr 3
    omega
theorem xE{t:TypeId}{parts:Array (Nat×Operand)}{z c:List Value}{pl:List (Nat×Nat)}(hb:buildF P t=some (z,pl))(hc:wA (qG pl) (yQ F) parts.toList z=some c)(k:Q (upd F d (.agg ⟨c⟩)) s) :
    OpW P I ⟨d,.build t parts,ty,pos,af,g⟩ F s Q:=by
  refine qf (v:=.agg ⟨c⟩) (s':=s) ?_ k
  simp only[buildF]at hb
  split at hb
  · next z' fields hz hu=>
    split at hb
    · next ha=>
      simp only[Option.some.injEq,Prod.mk.injEq]at hb
      obtain⟨rfl,rfl⟩:=hb
      have:=fillL_mono (q:=placeF P fields.toList) (fun i x h=>places_ok _ i x ha h) _ _ _ hc
      simp only[yX,buildM,hz,hu,ha,this]
      rfl
    · cases hb
  · next z' m e hz hu=>
    cases hi:P.info? e with
    |none=>rw[hi]at hb;cases hb
    |some inf=>
      rw[hi]at hb
      simp only[Option.some.injEq,Prod.mk.injEq]at hb
      obtain⟨rfl,rfl⟩:=hb
      have:=fillL_mono (q:=fun i=>some (i*inf.size,inf.size)) (fun i x h=>by have:=row_ok _ _ _ _ h;rw[Nat.zero_add]at this;exact this.symm) _ _ _ hc
      simp only[yX,buildM,hz,hu,hi,this]
      rfl
  · cases hb
def q6(P:Program)(t:TypeId):Option (TypeId×Nat×Nat×List Value):=
  match P.underlying t with
  |some (.slice e)=>match P.info? e,zeroL P e with
    |some inf,some z=>some (e,inf.size,inf.bytes,z)
    |_,_=>none
  |_=>none
theorem kz{t e:TypeId}{sz by_:Nat}{z:List Value}(h:q6 P t=some (e,sz,by_,z)):P.underlying t=some (.slice e)∧∃inf z',P.info? e=some inf∧inf.size=sz∧inf.bytes=by_∧zeroL P e=some z∧inf.zero=some z'∧ks (qM z') 0=inf.size:=by
  simp only[q6]at h
  split at h
  · next e' hu=>
    split at h
    · next inf z' hi hz=>
      simp only[Option.some.injEq,Prod.mk.injEq]at h
      obtain⟨rfl,rfl,rfl,rfl⟩:=h
      refine⟨hu,inf,?_⟩
      have hz2:=hz
      simp only[zeroL,hi]at hz2
      cases hzz:inf.zero with
      |none=>rw[hzz]at hz2;cases hz2
      |some zz=>
        rw[hzz]at hz2
        simp only at hz2
        split at hz2
        · next hp=>
          simp only[Bool.and_eq_true]at hp
          exact⟨zz,hi,J,J,hz,J,Nat.eq_of_beq_eq_true hp.2⟩
        · cases hz2
    · cases h
  · cases h
theorem yS{t e:TypeId}{len:Nat}{parts:Array (Nat×Operand)}{sz by_:Nat}{z c:List Value}(H:HL W s0 s L n)(hs:q6 P t=some (e,sz,by_,z))(hl:Nat.ble (len*sz) 16777216=true)
    (hc:wA (fun i=>some (i*sz,sz)) (yQ F) parts.toList (repL z len)=some c) (hr:s0.next+n<yC)
    (k:∀b s',HL W s0 s' ((b,.cells c e)::L) (n+1)→Q (upd F d (.slice (some ⟨b,0,none⟩) len (2*len))) s'):OpW P I ⟨d,.buildSlice t len parts,ty,pos,af,g⟩ F s Q:=by
  obtain⟨hu,inf,z',hi,rfl,_,hz,_,_⟩:=kz hs
  refine qf (v:=.slice (some ⟨s.next,0,none⟩) len (2*len)) (s':=s.new (.cells c e)) ?_ (k _ _ (H.new _ hr))
  have hroom:=H.room hr
  simp only[yX,wO,hu,hi,hz,hl,hc,newK,hroom]
  rfl
theorem kW{t e:TypeId}{l m:Operand}{sz by_:Nat}{z:List Value}{a b:Nat}{k1 k2:IntKind}(H:HL W s0 s L n)(hs:q6 P t=some (e,sz,by_,z))(hl:yQ F l=.int k1 (a:Int))(hm:yQ F m=.int k2 (b:Int))
    (h1:a≤b) (h2:b*(by_+1)≤1073741824) (hr:s0.next+n<yC)
    (k:∀bl s',HL W s0 s' ((bl,.cells (repL z b) e)::L) (n+1)→Q (upd F d (.slice (some ⟨bl,0,none⟩) a (2*b))) s'):OpW P I ⟨d,.makeSlice t l m,ty,pos,af,g⟩ F s Q:=by
  obtain⟨hu,inf,z',hi,rfl,rfl,hz,_,_⟩:=kz hs
  refine qf (v:=.slice (some ⟨s.next,0,none⟩) a (2*b)) (s':=s.new (.cells (repL z b) e)) ?_ (k _ _ (H.new _ hr))
  have hroom:=H.room hr
  have e1:(Nat.ble a b&&Nat.ble (b*(inf.bytes+1)) 1073741824)=true:=by
    rw[Bool.and_eq_true];exact⟨Nat.ble_eq_true_of_le h1,Nat.ble_eq_true_of_le h2⟩
  simp only[yX,makeSliceM,hu,hi,hz,hl,hm]
  show(match (Nat.ble a b&&Nat.ble (b*(inf.bytes+1)) 1073741824)with|true=>newK e (repL z b) a b s|false=>.stuck)=_
  simp only[e1,newK,hroom]
  rfl
def jC(s:St)(sz:Nat)(v:Value)(m:Nat)(l:List Value):Prop:=(∃a c,v=.slice a m c)∧vX sz m v s=some l
theorem elems_nil{sz c:Nat}:jC s sz (.slice none 0 c) 0 []:=⟨⟨_,_,rfl⟩,rfl⟩
theorem elems_block{sz b off m cap:Nat}{c l:List Value}{e:TypeId}(hg:s.get b=some (.cells c e))(hl:(c.drop off).take (m*sz)=l)(hm:off+m*sz≤c.length):jC s sz (.slice (some ⟨b,off,none⟩) m cap) m l:=by
  refine⟨⟨_,_,J⟩,?_⟩
  simp only[vX,hg,vE,vN,List.length_drop]
  rw[if_pos O,hl]
theorem jy{sz b m cap:Nat}{c:List Value}{e:TypeId}(hg:s.get b=some (.cells c e))(hm:m*sz=c.length):jC s sz (.slice (some ⟨b,0,none⟩) m cap) m c:=by
  refine elems_block hg ?_ O
  rw[List.drop_zero,hm,List.take_length]
theorem newL_ok{t e:TypeId}{inf:TypeInfo}{x:Value}{m:Nat}{l:List Value}(hu:P.underlying t=some (.slice e))(he:jC s inf.size x m l):newL (P.underlying t) inf x s=some (m,l):=by
  obtain⟨⟨a,c,rfl⟩,h⟩:=he
  simp only[newL,hu,lenV,h]
theorem growB_ok{t e:TypeId}{inf:TypeInfo}{z':Value}{need m:Nat}{new:List Value}(hz:inf.zero=some z')(hz2:ks (qM z') 0=inf.size)(hb:need*(inf.bytes+1)≤1073741824)(hp:new.all plainCell=true)(hl:new.length=m*inf.size) :
    growB inf need m new=true:=by
  simp only[growB,hz,Bool.and_eq_true]
  refine⟨⟨⟨Nat.ble_eq_true_of_le hb,hp⟩,?_⟩,?_⟩
  · rw[vB,Nat.add_zero,hl];exact Nat.beq_refl _
  · rw[hz2];exact Nat.beq_refl _
theorem op_appendNil{as:Array Operand}{ts:Array TypeId}{t t2 e e2:TypeId}{tr:List TypeId}{x y:Operand}{sz by_ m:Nat}{z l:List Value}(H:HL W s0 s L n)(hs:q6 P t=some (e,sz,by_,z))(hu2:P.underlying t2=some (.slice e2))
    (ht:ts.toList=t::t2::tr) (ha:as.toList=[x,y]) (hx:yQ F x=.slice none 0 0) (he:jC s sz (yQ F y) m l) (hm:0<m) (hp:l.all plainCell=true) (hl:l.length=m*sz) (hb:m*(by_+1)≤1073741824) (hr:s0.next+n<yC)
    (k:∀b s',HL W s0 s' ((b,.cells l e)::L) (n+1)→Q (upd F d (.slice (some ⟨b,0,none⟩) m (2*m+1))) s'):OpW P I ⟨d,.call ⟨.builtin .append,as,ts⟩,ty,pos,af,g⟩ F s Q:=by
  obtain⟨hu,inf,z',hi,rfl,rfl,hz,hz1,hz2⟩:=kz hs
  refine qf (v:=.slice (some ⟨s.next,0,none⟩) m (2*m+1)) (s':=s.new (.cells l e)) ?_ (k _ _ (H.new _ hr))
  have hroom:=H.room hr
  have hf:Nat.ble (0+m) (0 / 2)=false:=by
    rw[Bool.eq_false_iff];intro h;have:=Nat.le_of_ble_eq_true h;omega
  have hgrow:growB inf (0+m) m l=true:=growB_ok (t:=t) (e:=e) hz1 hz2 (by rw[Nat.zero_add];exact hb) hp hl
  simp only[yX,kO,wV,ht,ha,vJ,hx,hu,hi,newL_ok hu2 he,jI,hf,hgrow,rowB,vX,growM,killM,newS,hroom,Bool.and_self,Nat.zero_mod,List.nil_append]
  rw[Nat.zero_add]
  rfl
theorem append_full{ts:List TypeId}{t t2 e e2:TypeId}{tr:List TypeId}{y:Value}{sz by_ m b len cap:Nat}{z l c:List Value}(hs:q6 P t=some (e,sz,by_,z))(hu2:P.underlying t2=some (.slice e2))
    (ht:ts=t::t2::tr) (he:jC s sz y m l) (hg:s.get b=some (.cells c e)) (hmay:s.may b=true) (hlen:len*sz=c.length) (hcap:cap / 2<len+m) (hp:l.all plainCell=true) (hl:l.length=m*sz) (hb:(len+m)*(by_+1)≤1073741824) (hroom:s.room=true)
    : wV P ts [.slice (some ⟨b,0,none⟩) len cap,y] s=.ok (.value (.slice (some ⟨s.next,0,none⟩) (len+m) (2*(len+m)+1))) ((if cap % 2=0 then s else s.put b none).new (.cells (c++l) e)):=by
  obtain⟨hu,inf,z',hi,rfl,rfl,hz,hz1,hz2⟩:=kz hs
  have hf:Nat.ble (len+m) (cap / 2)=false:=by
    rw[Bool.eq_false_iff];intro h;have:=Nat.le_of_ble_eq_true h;omega
  have hgrow:growB inf (len+m) m l=true:=growB_ok (t:=t) (e:=e) hz1 hz2 hb hp hl
  have hfirst:vX inf.size len (.slice (some ⟨b,0,none⟩) len cap) s=some c:=(jy (cap:=cap) hg hlen).2
  have hrow:rowB e (some ⟨b,0,none⟩) cap s=true:=by
    simp only[rowB,hg,Nat.beq_refl]
    split<;>rfl
  rw[ht]
  simp only[wV,hu,hi,newL_ok hu2 he,jI,hf,hgrow,hrow,Bool.and_self,hfirst,growM,killM]
  rcases Nat.mod_two_eq_zero_or_one cap with h|h
  · rw[h];simp only[newS,hroom,if_true];rfl
  · rw[h];simp only[hmay,newS,show(s.put b none).room=true from hroom,if_false,Nat.one_ne_zero];rfl
theorem HL.appended(A:Hp'){B:Hp'}{b cap:Nat}{o o':MObj}(H:HL W s0 s (A++(b,o)::B) n)(hr:s0.next+n<yC):HL W s0 ((if cap % 2=0 then s else s.put b none).new o') ((s.next,o')::(A++B)) (n+1):=by
  split
  · have H2:HL W s0 s (A++B) n:=H.sub Y8
    exact H2.new o' hr
  · exact(H.killAt A O).new o' hr
theorem op_append0{as:Array Operand}{ts:Array TypeId}{t t2 e e2:TypeId}{tr:List TypeId}{x y:Operand}{sz by_ m b len cap:Nat}{z l c:List Value}(H:HL W s0 s ((b,.cells c e)::L) n)(hs:q6 P t=some (e,sz,by_,z))(hu2:P.underlying t2=some (.slice e2))
    (ht:ts.toList=t::t2::tr) (ha:as.toList=[x,y]) (hx:yQ F x=.slice (some ⟨b,0,none⟩) len cap) (he:jC s sz (yQ F y) m l) (hlen:len*sz=c.length) (hcap:cap / 2<len+m) (hp:l.all plainCell=true) (hl:l.length=m*sz) (hb:(len+m)*(by_+1)≤1073741824) (hr:s0.next+n<yC)
    (k:∀b' s',HL W s0 s' ((b',.cells (c++l) e)::L) (n+1)→Q (upd F d (.slice (some ⟨b',0,none⟩) (len+m) (2*(len+m)+1))) s'):OpW P I ⟨d,.call ⟨.builtin .append,as,ts⟩,ty,pos,af,g⟩ F s Q:=by
  refine qf ?_ (k _ _ (HL.appended [] (cap:=cap) H hr))
  simp only[yX,kO,ha,vJ,hx]
  exact append_full hs hu2 ht he H.own0 (H.own (b,.cells c e) Y8).2.2.1 hlen hcap hp hl hb (H.room hr)
theorem kv{v:Option Value}{d m:Nat}(h:(v=none∧m=d)∨∃k,v=some (.int k (m:Int))):boundM v d=some m:=by
  rcases h with⟨rfl,rfl⟩|⟨k,rfl⟩
  · rfl
  · rfl
theorem op_sliceHi{t e:TypeId}{x hi:Operand}{sz by_ b off len cap m:Nat}{z c:List Value}{kd:IntKind}{a:Int}(hs:q6 P t=some (e,sz,by_,z))(hx:yQ F x=.slice (some ⟨b,off,none⟩) len cap)(hh:yQ F hi=.int kd a)(hm:a=(m:Int))(hg:s.get b=some (.cells c e))(h1:m≤cap / 2)
    (k:Q (upd F d (.slice (some ⟨b,off,none⟩) m cap)) s):OpW P I ⟨d,.slice t x none (some hi) none,ty,pos,af,g⟩ F s Q:=by
  obtain⟨hu,inf,z',hi',rfl,rfl,hz,hz1,hz2⟩:=kz hs
  subst hm
  refine qf (v:=.slice (some ⟨b,off,none⟩) m cap) (s':=s) ?_ k
  have hb:(Nat.ble 0 m&&Nat.ble m (cap / 2)&&Nat.ble (cap / 2) (cap / 2)&&((some (Value.int kd (m:Int))).isSome || !(none:Option Value).isSome))=true:=by
    simp only[Bool.and_eq_true]
    exact⟨⟨⟨Nat.ble_eq_true_of_le O,Nat.ble_eq_true_of_le h1⟩,Nat.ble_eq_true_of_le Z3⟩,J⟩
  have hrow:rowB e (some ⟨b,off,none⟩) cap s=true:=by
    simp only[rowB,hg,Nat.beq_refl]
    split<;>rfl
  simp only[yX,sliceM,hu,hi',hx,Option.map_none,Option.map_some,hh]
  rcases Nat.mod_two_eq_zero_or_one cap with h|h
  · rw[h]
    simp only[jp,kv (v:=none) (d:=0) (m:=0) (.inl ⟨rfl,rfl⟩),kv (v:=some (.int kd (m:Int))) (d:=len) (m:=m) (.inr ⟨kd,rfl⟩),kv (v:=none) (d:=cap / 2) (m:=cap / 2) (.inl ⟨rfl,rfl⟩),hb,Bool.true_or,Nat.sub_zero]
    have hc:2*(cap / 2)=cap:=by omega
    rw[hc]
    cases hq:Nat.beq (cap / 2) 0 with
    |true=>rfl
    |false=>simp[Addr.add,okV]
  · rw[h]
    simp only[hrow,jp,kv (v:=none) (d:=0) (m:=0) (.inl ⟨rfl,rfl⟩),kv (v:=some (.int kd (m:Int))) (d:=len) (m:=m) (.inr ⟨kd,rfl⟩),kv (v:=none) (d:=cap / 2) (m:=cap / 2) (.inl ⟨rfl,rfl⟩),hb,Bool.false_or,Nat.sub_zero]
    have hc:2*(cap / 2)+1=cap:=by omega
    rw[hc]
    simp[Addr.add,okV]
theorem jq{src dst:TypeId}{x:Operand}{kd:IntKind}{a:Int}{u:TypeDesc}(hu:P.underlying src=some u)(hd:P.underlying dst=some (.int .i64))(hx:yQ F x=.int kd a)(h:qp a)(k:Q (upd F d (.int .i64 a)) s):OpW P I ⟨d,.convert src dst x,ty,pos,af,g⟩ F s Q:=by
  refine qf (v:=.int .i64 a) (s':=s) ?_ k
  simp only[yX,convertM,hu,hd,hx,wrap_in h]
  cases u<;>rfl
section draws
variable{ops:List Oper}{rest:List Drawn}{ix anc:Nat}{free:List Nat}
theorem only_get{s:St}{b:Nat}(h:b<yC):({next:=s.next,bar:=s.next,prot:=[],heap:=only s (some b)}:St).get b=s.get b:=by
  unfold yC at h
  show(Tr.put depth .nil b (s.get b)).get b=s.get b
  have := Tr.get_put depth (.nil : Tr MObj) b b (s.get b) (by have : (2 : Nat) ^ depth = 281474976710656 := by decide
                                                              omega)
  rw[this,if_pos rfl]
theorem zV{t:TypeId}{x:Operand}{b off:Nat}{c:List Value}{e:TypeId}{v:Value}(hg:qG ops ix=some ⟨d,.load t x,ty,pos,af,g⟩)(hw:qV ops F ⟨d,.load t x,ty,pos,af,g⟩=true)
    (hs:qw P t=some none) (hx:yQ F x=.pointer (some ⟨b,off,none⟩)) (hgb:s.get b=some (.cells c e)) (hb:b<yC) (hc:qG c off=some v) (k:kC P I ops rest (upd F d v) s Q) :
    kC P I ops (⟨ix,anc,.light,free⟩::rest) F s Q:=by
  refine zA hg hw ?_
  have e1:kH F ⟨d,.load t x,ty,pos,af,g⟩=some b:=by simp only[kH,hx]
  rw[e1]
  exact zJ hs hx (by rw[only_get hb];exact hgb) hc ⟨J,k⟩
theorem zQ{t:TypeId}{x:Operand}{b off m:Nat}{c:List Value}{e:TypeId}{l:List Value}(hg:qG ops ix=some ⟨d,.load t x,ty,pos,af,g⟩)(hw:qV ops F ⟨d,.load t x,ty,pos,af,g⟩=true)
    (hs:qw P t=some (some m)) (hx:yQ F x=.pointer (some ⟨b,off,none⟩)) (hgb:s.get b=some (.cells c e)) (hb:b<yC) (hc:qX m (kw off c)=some l) (k:kC P I ops rest (upd F d (.agg ⟨l⟩)) s Q) :
    kC P I ops (⟨ix,anc,.light,free⟩::rest) F s Q:=by
  refine zA hg hw ?_
  have e1:kH F ⟨d,.load t x,ty,pos,af,g⟩=some b:=by simp only[kH,hx]
  rw[e1]
  exact zN hs hx (by rw[only_get hb];exact hgb) hc ⟨J,k⟩
theorem HL.wider{s1:St}{W':List Nat}{L':Hp'}{m:Nat}{bar:Nat}{prot:List Nat}(hf:Fine s)(hb:s.bar≤bar)(hp:∀p,p∈s.prot→p∈prot)(H:HL W' {next:=s.next,bar:=bar,prot:=prot,heap:=s.heap} s1 L' m) :
    HL W' s {next:=s1.next,bar:=s.bar,prot:=s.prot,heap:=s1.heap} L' m:=by
  refine⟨J,J,hf.wfb,hf.wfp,H.le,H.most,fun p hpL=>?_,H.dist,H.kept⟩
  obtain⟨h1,h2,h3,h4⟩:=H.own p hpL
  refine⟨h1,h2,?_,h4⟩
  have hbar:s1.bar=bar:=H.bar
  have hprot:s1.prot=prot:=H.prot
  simp only[St.may,Bool.and_eq_true,Bool.not_eq_true',hbar,hprot]at h3
  refine may_of ?_ fun hin=>?_
  · have:=Nat.le_of_ble_eq_true h3.1
    show s.bar≤p.1
    omega
  · have h5:=h3.2
    rw[Bool.eq_false_iff]at h5
    apply h5
    rw[List.any_eq_true]
    exact⟨p.1,hp _ hin,Nat.beq_refl _⟩
end draws
end
end Go.M
namespace Go.M
section
variable{P:Program}{I:xP}{F:FF}{s:St}{Q:FF→St→Prop}{d:Option Tmp}{ty:TypeId}{pos:String}{af:Array Edge}{g:Option (Nat×Bool)}
end
end Go.M
namespace Go.M
section
variable{P:Program}{I:xP}{F:FF}{s:St}{Post:Value→St→Prop}
theorem loadN_of{t:TypeId}{v:Value}{b off n:Nat}{c l:List Value}{e:TypeId}(hs:qw P t=some (some n))(hx:v=.pointer (some ⟨b,off,none⟩))(hg:s.get b=some (.cells c e))(hc:qX n (kw off c)=some l):loadV P t v s=some (.agg ⟨l⟩):=by
 subst hx
 simp only[loadV,hg,hs,cutL,hc]
theorem yP{t:Nat}{ty:TypeId}{b off n:Nat}{c l:List Value}{e:TypeId}(hs:qw P ty=some (some n))(hx:F t=.pointer (some ⟨b,off,none⟩))(hg:s.get b=some (.cells c e))(hc:qX n (kw off c)=some l)(h:Post (.agg ⟨l⟩) s) :
  endQ P [.cell t ty] Post F s:=by
 constructor
 simp only[vD,loadN_of hs hx hg hc]
 exact h
theorem end_cc{t t2:Nat}{ty ty2:TypeId}{b off n b2 off2 n2:Nat}{c l c2 l2:List Value}{e e2:TypeId}(hs:qw P ty=some (some n))(hx:F t=.pointer (some ⟨b,off,none⟩))(hg:s.get b=some (.cells c e))(hc:qX n (kw off c)=some l)
  (hs2:qw P ty2=some (some n2)) (hx2:F t2=.pointer (some ⟨b2,off2,none⟩)) (hg2:s.get b2=some (.cells c2 e2)) (hc2:qX n2 (kw off2 c2)=some l2) (h:Post (.tuple ⟨[.agg ⟨l⟩,.agg ⟨l2⟩]⟩) s) :
  endQ P [.cell t ty,.cell t2 ty2] Post F s:=by
 constructor
 simp only[vD,loadN_of hs hx hg hc,loadN_of hs2 hx2 hg2 hc2]
 exact h
theorem end_tt{t t2:Nat}{v w:Value}(h1:F t=v)(h2:F t2=w)(h:Post (.tuple ⟨[v,w]⟩) s):endQ P [.tmp t,.tmp t2] Post F s:=by
 constructor
 simp only[vD,h1,h2]
 exact h
theorem end_nil(h:Post (.tuple ⟨[]⟩) s):endQ P [] Post F s:=⟨h⟩
end
section
variable{P:Program}{I:xP}{F:FF}{s:St}{Q:FF→St→Prop}{d:Option Tmp}{ty:TypeId}{pos:String}{af:Array Edge}{g:Option (Nat×Bool)}
variable{W:List Nat}{s0:St}{L:Hp'}{n:Nat}
inductive Own(e:TypeId)(sz:Nat):Hp'→Value→List Value→Nat→Prop
 |nil:Own e sz [] (.slice none 0 0) [] 0
 |block (b cap:Nat) (c:List Value) (len:Nat) (hl:len*sz=c.length) (hcap:cap / 2=len):Own e sz [(b,.cells c e)] (.slice (some ⟨b,0,none⟩) len cap) c len
theorem qi{D:Hp'}{as:Array Operand}{ts:Array TypeId}{t t2 e e2:TypeId}{tr:List TypeId}{x y:Operand}{v:Value}{sz by_ m len:Nat}{z l c:List Value}(H:HL W s0 s (D++L) n)(ho:Own e sz D v c len)(hs:q6 P t=some (e,sz,by_,z))(hu2:P.underlying t2=some (.slice e2))
  (ht:ts.toList=t::t2::tr) (ha:as.toList=[x,y]) (hx:yQ F x=v) (he:jC s sz (yQ F y) m l) (hm:0<m) (hp:l.all plainCell=true) (hl:l.length=m*sz) (hb:(len+m)*(by_+1)≤1073741824) (hr:s0.next+n<yC)
  (k:∀b s',HL W s0 s' ((b,.cells (c++l) e)::L) (n+1)→Own e sz [(b,.cells (c++l) e)] (.slice (some ⟨b,0,none⟩) (len+m) (2*(len+m)+1)) (c++l) (len+m)→Q (upd F d (.slice (some ⟨b,0,none⟩) (len+m) (2*(len+m)+1))) s'):OpW P I ⟨d,.call ⟨.builtin .append,as,ts⟩,ty,pos,af,g⟩ F s Q:=by
 cases ho with
 |nil=>
  refine op_appendNil H hs hu2 ht ha hx he hm hp hl (by rw[Nat.zero_add]at hb;exact hb) hr (fun b s' H'=>?_)
  have:=k b s' H'
  rw[Nat.zero_add]at this
  exact this (.block b _ _ _ (by rw[←hl];rfl) O)
 |block b cap c len hlc hcap=>
  refine op_append0 H hs hu2 ht ha hx he hlc O hp hl hb hr (fun b s' H'=>?_)
  exact k b s' H' (.block b _ _ _ (by rw[List.length_append,←hlc,hl,Nat.add_mul]) O)
theorem op_appendNone'{as:Array Operand}{ts:Array TypeId}{t t2 e e2:TypeId}{tr:List TypeId}{x y:Operand}{sz by_ b cap len:Nat}{z c:List Value}(H:HL W s0 s ((b,.cells c e)::L) n)(hs:q6 P t=some (e,sz,by_,z))(hu2:P.underlying t2=some (.slice e2))
  (ht:ts.toList=t::t2::tr) (ha:as.toList=[x,y]) (hx:yQ F x=.slice (some ⟨b,0,none⟩) len cap) (he:jC s sz (yQ F y) 0 []) (hcap:len≤cap / 2) (hlen:len*sz≤c.length) (hr:s0.next+n≤yC)
  (k:∀s',HL W s0 s' ((b,.cells c e)::L) n→Q (upd F d (.slice (some ⟨b,0,none⟩) len cap)) s'):OpW P I ⟨d,.call ⟨.builtin .append,as,ts⟩,ty,pos,af,g⟩ F s Q:=by
 obtain⟨hu,inf,z',hi,rfl,rfl,hz,hz1,hz2⟩:=kz hs
 refine qf (v:=.slice (some ⟨b,0,none⟩) len cap) (s':=s.put b (some (.cells c e))) ?_ (k _ (H.put0 _ hr))
 have hf:Nat.ble len (cap / 2)=true:=Nat.ble_eq_true_of_le hcap
 have hmay:=(H.own (b,.cells c e) Y8).2.2.1
 simp only at hmay
 have hput:∀(m:Nat) (c:List Value),m≤c.length→ky m [] c=some c:=by
  intro m
  induction m with
  |zero=>intro c _;rfl
  |succ m ih=>
   intro c hc
   cases c with
   |nil=>simp at hc
   |cons x c=>simp only[ky,ih c (by simpa using hc)]
 simp only[yX,kO,wV,ht,ha,vJ,hx,hu,hi,newL_ok hu2 he,jI,hf,kZ,Nat.zero_add,Nat.add_zero,H.own0,List.all_nil,Bool.true_and,hmay,hput _ _ hlen]
 rfl
theorem HL.callE(H:HL W s0 s L n){s':St}{L':Hp'}{k:Nat}(H':HL [] s s' L' k):HL W s0 s' (L++L') (n+k):=by
 have h:=H.call H'
 refine{h with own:=fun p hp=>h.own p (by simp only[List.mem_append]at hp ⊢;exact hp.symm),dist:=?_}
 have hd:=h.dist
 rw[List.pairwise_append]at hd ⊢
 exact⟨hd.2.1,hd.1,fun a ha b hb=>fun e=>hd.2.2 b hb a ha e.symm⟩
theorem HL.ownA{A B:Hp'}{b:Nat}{o:MObj}(H:HL W s0 s (A++(b,o)::B) n):s.get b=some o:=(H.own (b,o) Y8).1
theorem HL.left{A B:Hp'}(H:HL W s0 s (A++B) n):HL W s0 s A n:=H.sub (List.sublist_append_left _ _)
theorem op_storeA{A B:Hp'}{t:TypeId}{x v:Operand}{b off sz:Nat}{c c':List Value}{e:TypeId}{vs:List Value}(H:HL W s0 s (A++(b,.cells c e)::B) n)(hs:kD P t=some sz)(hx:yQ F x=.pointer (some ⟨b,off,none⟩))(hv:qM (yQ F v)=vs)
  (hl:Nat.beq (ks vs 0) sz=true) (hp:vs.all plainCell=true) (hc:ky off vs c=some c') (hr:s0.next+n≤yC) (k:∀s',HL W s0 s' (A++(b,.cells c' e)::B) n→Q (upd F d undef) s'):OpW P I ⟨d,.store t x v,ty,pos,af,g⟩ F s Q:=
 op_none (vL hs hx hv hl hp H.ownA (H.own (b,.cells c e) Y8).2.2.1 hc) (k _ (H.putAt A _ hr))
theorem dr_storeAt{ops:List Oper}{rest:List Drawn}{ix anc:Nat}{free fr:List Nat}{t:TypeId}{x v:Operand}{b off sz:Nat}{c c':List Value}{e:TypeId}{vs:List Value}(hgo:qG ops ix=some ⟨d,.store t x v,ty,pos,af,g⟩)(hw:qV ops F ⟨d,.store t x v,ty,pos,af,g⟩=true)
  (hs:kD P t=some sz) (hx:yQ F x=.pointer (some ⟨b,off,none⟩)) (hv:qM (yQ F v)=vs) (hl:Nat.beq (ks vs 0) sz=true) (hp:vs.all plainCell=true) (hg:s.get b=some (.cells c e)) (hm:s.may b=true) (hc:ky off vs c=some c')
  (hfr:qP ops F free=fr) (hne:∀p,p∈fr→p≠b) (k:kC P I ops rest (upd F d undef) (s.put b (some (.cells c' e))) Q):kC P I ops (⟨ix,anc,.whole,free⟩::rest) F s Q:=by
 refine zM hgo hw ?_
 have hm':({s with prot:=qP ops F free++s.prot}:St).may b=true:=by
  simp only[St.may,Bool.and_eq_true,Bool.not_eq_true',Bool.eq_false_iff,ne_eq,List.any_eq_true,not_exists,not_and]at hm ⊢
  refine⟨hm.1,fun p hp2 he=>?_⟩
  rcases List.mem_append.mp hp2 with h|h
  ·rw[hfr]at h
   exact hne p h (Nat.eq_of_beq_eq_true he).symm
  ·exact hm.2 p h he
 exact op_none (vL (s:={s with prot:=qP ops F free++s.prot}) hs hx hv hl hp hg hm' hc) k
theorem xM{ops:List Oper}{rest:List Drawn}{ix anc:Nat}{free fr:List Nat}{t:TypeId}{x v:Operand}{b off sz:Nat}{c c':List Value}{e:TypeId}{vs:List Value}(H:HL W s0 s ((b,.cells c e)::L) n)(hgo:qG ops ix=some ⟨d,.store t x v,ty,pos,af,g⟩)(hw:qV ops F ⟨d,.store t x v,ty,pos,af,g⟩=true)
  (hs:kD P t=some sz) (hx:yQ F x=.pointer (some ⟨b,off,none⟩)) (hv:qM (yQ F v)=vs) (hl:Nat.beq (ks vs 0) sz=true) (hp:vs.all plainCell=true) (hc:ky off vs c=some c')
  (hfr:qP ops F free=fr) (hne:∀p,p∈fr→p≠b) (hr:s0.next+n≤yC) (k:∀s',HL W s0 s' ((b,.cells c' e)::L) n→kC P I ops rest (upd F d undef) s' Q):kC P I ops (⟨ix,anc,.whole,free⟩::rest) F s Q:=
 dr_storeAt hgo hw hs hx hv hl hp H.own0 (H.own (b,.cells c e) Y8).2.2.1 hc hfr hne (k _ (H.put0 _ hr))
theorem kT{p0:Nat×MObj}{ops:List Oper}{rest:List Drawn}{ix anc:Nat}{free fr:List Nat}{t:TypeId}{x v:Operand}{b off sz:Nat}{c c':List Value}{e:TypeId}{vs:List Value}(H:HL W s0 s (p0::(b,.cells c e)::L) n)(hgo:qG ops ix=some ⟨d,.store t x v,ty,pos,af,g⟩)(hw:qV ops F ⟨d,.store t x v,ty,pos,af,g⟩=true)
  (hs:kD P t=some sz) (hx:yQ F x=.pointer (some ⟨b,off,none⟩)) (hv:qM (yQ F v)=vs) (hl:Nat.beq (ks vs 0) sz=true) (hp:vs.all plainCell=true) (hc:ky off vs c=some c')
  (hfr:qP ops F free=fr) (hne:∀p,p∈fr→p≠b) (hr:s0.next+n≤yC) (k:∀s',HL W s0 s' (p0::(b,.cells c' e)::L) n→kC P I ops rest (upd F d undef) s' Q):kC P I ops (⟨ix,anc,.whole,free⟩::rest) F s Q:=
 dr_storeAt hgo hw hs hx hv hl hp H.own1 (H.own (b,.cells c e) Y8).2.2.1 hc hfr hne (k _ (H.put1 _ hr))
theorem ke{p0 p1:Nat×MObj}{ops:List Oper}{rest:List Drawn}{ix anc:Nat}{free fr:List Nat}{t:TypeId}{x v:Operand}{b off sz:Nat}{c c':List Value}{e:TypeId}{vs:List Value}(H:HL W s0 s (p0::p1::(b,.cells c e)::L) n)(hgo:qG ops ix=some ⟨d,.store t x v,ty,pos,af,g⟩)(hw:qV ops F ⟨d,.store t x v,ty,pos,af,g⟩=true)
  (hs:kD P t=some sz) (hx:yQ F x=.pointer (some ⟨b,off,none⟩)) (hv:qM (yQ F v)=vs) (hl:Nat.beq (ks vs 0) sz=true) (hp:vs.all plainCell=true) (hc:ky off vs c=some c')
  (hfr:qP ops F free=fr) (hne:∀p,p∈fr→p≠b) (hr:s0.next+n≤yC) (k:∀s',HL W s0 s' (p0::p1::(b,.cells c' e)::L) n→kC P I ops rest (upd F d undef) s' Q):kC P I ops (⟨ix,anc,.whole,free⟩::rest) F s Q:=
 dr_storeAt hgo hw hs hx hv hl hp H.own2 (H.own (b,.cells c e) Y8).2.2.1 hc hfr hne (k _ (H.put2 _ hr))
theorem vU{p0 p1 p2:Nat×MObj}{ops:List Oper}{rest:List Drawn}{ix anc:Nat}{free fr:List Nat}{t:TypeId}{x v:Operand}{b off sz:Nat}{c c':List Value}{e:TypeId}{vs:List Value}(H:HL W s0 s (p0::p1::p2::(b,.cells c e)::L) n)(hgo:qG ops ix=some ⟨d,.store t x v,ty,pos,af,g⟩)(hw:qV ops F ⟨d,.store t x v,ty,pos,af,g⟩=true)
  (hs:kD P t=some sz) (hx:yQ F x=.pointer (some ⟨b,off,none⟩)) (hv:qM (yQ F v)=vs) (hl:Nat.beq (ks vs 0) sz=true) (hp:vs.all plainCell=true) (hc:ky off vs c=some c')
  (hfr:qP ops F free=fr) (hne:∀p,p∈fr→p≠b) (hr:s0.next+n≤yC) (k:∀s',HL W s0 s' (p0::p1::p2::(b,.cells c' e)::L) n→kC P I ops rest (upd F d undef) s' Q):kC P I ops (⟨ix,anc,.whole,free⟩::rest) F s Q:=
 dr_storeAt hgo hw hs hx hv hl hp H.own3 (H.own (b,.cells c e) Y8).2.2.1 hc hfr hne (k _ (H.put3 _ hr))
theorem dr_store4{p0 p1 p2 p3:Nat×MObj}{ops:List Oper}{rest:List Drawn}{ix anc:Nat}{free fr:List Nat}{t:TypeId}{x v:Operand}{b off sz:Nat}{c c':List Value}{e:TypeId}{vs:List Value}(H:HL W s0 s (p0::p1::p2::p3::(b,.cells c e)::L) n)(hgo:qG ops ix=some ⟨d,.store t x v,ty,pos,af,g⟩)(hw:qV ops F ⟨d,.store t x v,ty,pos,af,g⟩=true)
  (hs:kD P t=some sz) (hx:yQ F x=.pointer (some ⟨b,off,none⟩)) (hv:qM (yQ F v)=vs) (hl:Nat.beq (ks vs 0) sz=true) (hp:vs.all plainCell=true) (hc:ky off vs c=some c')
  (hfr:qP ops F free=fr) (hne:∀p,p∈fr→p≠b) (hr:s0.next+n≤yC) (k:∀s',HL W s0 s' (p0::p1::p2::p3::(b,.cells c' e)::L) n→kC P I ops rest (upd F d undef) s' Q):kC P I ops (⟨ix,anc,.whole,free⟩::rest) F s Q:=
 dr_storeAt hgo hw hs hx hv hl hp H.own4 (H.own (b,.cells c e) Y8).2.2.1 hc hfr hne (k _ (H.put4 _ hr))
theorem dr_store5{p0 p1 p2 p3 p4:Nat×MObj}{ops:List Oper}{rest:List Drawn}{ix anc:Nat}{free fr:List Nat}{t:TypeId}{x v:Operand}{b off sz:Nat}{c c':List Value}{e:TypeId}{vs:List Value}(H:HL W s0 s (p0::p1::p2::p3::p4::(b,.cells c e)::L) n)(hgo:qG ops ix=some ⟨d,.store t x v,ty,pos,af,g⟩)(hw:qV ops F ⟨d,.store t x v,ty,pos,af,g⟩=true)
  (hs:kD P t=some sz) (hx:yQ F x=.pointer (some ⟨b,off,none⟩)) (hv:qM (yQ F v)=vs) (hl:Nat.beq (ks vs 0) sz=true) (hp:vs.all plainCell=true) (hc:ky off vs c=some c')
  (hfr:qP ops F free=fr) (hne:∀p,p∈fr→p≠b) (hr:s0.next+n≤yC) (k:∀s',HL W s0 s' (p0::p1::p2::p3::p4::(b,.cells c' e)::L) n→kC P I ops rest (upd F d undef) s' Q):kC P I ops (⟨ix,anc,.whole,free⟩::rest) F s Q:=
 dr_storeAt hgo hw hs hx hv hl hp H.own5 (H.own (b,.cells c e) Y8).2.2.1 hc hfr hne (k _ (H.put5 _ hr))
theorem kf{b:Code}{Q:FOut→Prop}(h:CodeW P I b F s (seqQ P I (.loop b) Q)):CodeW P I (.loop b) F s Q:=by
 obtain⟨o,hq,n,hn⟩:=h.ends
 cases o with
 |normal F₁ s₁=>
  obtain⟨o₂,hq2,n₂,hn2⟩:=hq
  refine⟨o₂,hq2,n+n₂+1,fun m hm=>?_⟩
  obtain⟨m,rfl⟩:∃k,m=k+1:=⟨m-1,by omega⟩
  simp only[kG,hn m O]
  exact hn2 m O
 |exit i F₁ s₁=>
  refine⟨_,hq,n+1,fun m hm=>?_⟩
  obtain⟨m,rfl⟩:∃k,m=k+1:=⟨m-1,by omega⟩
  simp only[kG,hn m O]
 |ret F₁ s₁=>
  refine⟨_,hq,n+1,fun m hm=>?_⟩
  obtain⟨m,rfl⟩:∃k,m=k+1:=⟨m-1,by omega⟩
  simp only[kG,hn m O]
 |stuck=>
  refine⟨_,hq,n+1,fun m hm=>?_⟩
  obtain⟨m,rfl⟩:∃k,m=k+1:=⟨m-1,by omega⟩
  simp only[kG,hn m O]
theorem HL.rm{k:Nat}(H:HL W s0 s L n)(h:k+(n+s0.next)≤yC):s.next+k≤yC:=by have:=H.most;omega
theorem en{P Q:Prop}(h:Q)(g:Q→P:=by(intro h;(repeat first|refine zD ?_|refine yO ?_|refine xI ?_|refine qc ?_|refine kX ?_|refine zR ?_|refine xF ?_|refine yN ?_|refine ql ?_|refine xU ?_|refine xX ?_|refine xZ ?_|refine yJ rfl ?_|refine yL rfl ?_);(first|refine yB ?_|refine nrm_end ?_|refine xG ?_|refine vW ?_|skip);exact h)):P:=g h
end
end Go.M
namespace Go.Proofs.C14
def dg(n:Nat):List Int:=if h:n=0 then []else((n % 1000000000:Nat):Int)::dg (n / 1000000000)
termination_by n
decreasing_by exact Nat.div_lt_self (Nat.pos_of_ne_zero h) U
def kK:List Int→Nat
  | []=>0
  |x::l=>x.toNat+1000000000*kK l
def Dig(l:List Int):Prop:=∀x∈l,0≤x∧x<1000000000
theorem kY:dg 0=[]:=by rw[dg];simp
theorem dg_pos{n:Nat}(h:n≠0):dg n=((n % 1000000000:Nat):Int)::dg (n / 1000000000):=by rw[dg];simp[h]
theorem dg_small{n:Nat}(h:n≠0)(h2:n<1000000000):dg n=[(n:Int)]:=by
  rw[dg_pos h,Nat.mod_eq_of_lt h2,Nat.div_eq_of_lt h2,kY]
theorem kq(n:Nat):Dig (dg n):=by
  induction n using Nat.strongRecOn with
  |ind n ih=>
    by_cases h:n=0
    · subst h;rw[kY];intro x hx;cases hx
    · rw[dg_pos h]
      intro x hx
      rcases List.mem_cons.mp hx with rfl|hx
      · omega
      · exact ih _ (Nat.div_lt_self O U) x hx
theorem dval_dg(n:Nat):kK (dg n)=n:=by
  induction n using Nat.strongRecOn with
  |ind n ih=>
    by_cases h:n=0
    · subst h;rw[kY];rfl
    · rw[dg_pos h,kK,ih _ (Nat.div_lt_self O U)]
      omega
theorem dg_inj{m n:Nat}(h:dg m=dg n):m=n:=by rw[←dval_dg m,h,dval_dg]
theorem dg_nil{n:Nat}:dg n=[]↔n=0:=by
  constructor
  · intro h;have:=dval_dg n;rw[h]at this;exact this.symm
  · rintro rfl;exact kY
theorem dg_len0{n:Nat}:(dg n).length=0↔n=0:=by rw[List.length_eq_zero_iff,dg_nil]
theorem dg_len:∀(k n:Nat),n<1000000000 ^ k→(dg n).length≤k
  | 0, n, h => by have : n = 0 := by simpa using h
                  subst this;rw[kY];simp
  |k+1,n,h=>by
    by_cases hn:n=0
    · subst hn;rw[kY];simp
    · rw[dg_pos hn]
      have:=dg_len k (n / 1000000000) (by rw[Nat.pow_succ]at h;exact Nat.div_lt_of_lt_mul (by rw[Nat.mul_comm];exact h))
      simp only[List.length_cons]
      omega
theorem jl{n:Nat}(h:n<1000000000000000000):(dg n).length≤2:=dg_len 2 n (by simpa using h)
theorem dval_app(l r:List Int):kK (l++r)=kK l+1000000000 ^ l.length*kK r:=by
  induction l with
  |nil=>simp[kK]
  |cons x l ih=>simp only[List.cons_append,kK,ih,List.length_cons,Nat.pow_succ];rw[Nat.mul_add,←Nat.mul_assoc,Nat.mul_comm 1000000000 (1000000000 ^ l.length)];omega
theorem dval_lt{l:List Int}(h:Dig l):kK l<1000000000 ^ l.length:=by
  induction l with
  |nil=>simp[kK]
  |cons x l ih=>
    have h1:=h x Y8
    have h2:=ih fun y hy=>h y (by simp[hy])
    simp only[kK,List.length_cons,Nat.pow_succ]
    omega
theorem Dig.tail{x:Int}{l:List Int}(h:Dig (x::l)):Dig l:=fun y hy=>h y (by simp[hy])
theorem Dig.app{l r:List Int}(h:Dig l)(h2:Dig r):Dig (l++r):=fun x hx=>(List.mem_append.mp hx).elim (h x) (h2 x)
theorem Dig.nil:Dig []:=fun _ h=>by cases h
theorem Dig.one{x:Int}(h:0≤x)(h2:x<1000000000):Dig [x]:=fun y hy=>by rw[List.mem_singleton.mp hy];exact⟨h,h2⟩
theorem Dig.take{l:List Int}(h:Dig l)(n:Nat):Dig (l.take n):=fun x hx=>h x (List.mem_of_mem_take hx)
theorem Dig.at{l:List Int}(h:Dig l)(k:Nat):0≤l.getD k 0∧l.getD k 0<1000000000:=by
  rw[List.getD_eq_getElem?_getD]
  by_cases hk:k<l.length
  · rw[List.getElem?_eq_getElem hk];exact h _ (List.getElem_mem hk)
  · rw[List.getElem?_eq_none O];simp
def vI(l:List Int):Nat→Nat
  |0=>0
  |n+1=>if l.getD n 0=0 then vI l n else n+1
theorem nlen_le(l:List Int):∀n,vI l n≤n
  |0=>Nat.le_refl _
  |n+1=>by simp only[vI];split;{have:=nlen_le l n;omega};{omega}
theorem dg_dval:∀{l:List Int},Dig l→(l=[]∨l.getD (l.length-1) 0≠0)→dg (kK l)=l
  | [],_,_=>kY
  |x::l,h,h2=>by
    have hx:=h x Y8
    rcases h2 with h2|h2
    · cases h2
    · have hl:l=[]∨l.getD (l.length-1) 0≠0:=by
        cases l with
        |nil=>exact .inl rfl
        |cons y l=>exact .inr (by simpa using h2)
      have ih:=dg_dval h.tail hl
      have hv:kK (x::l)≠0:=by
        cases l with
        |nil=>simp at h2;simp only[kK];omega
        |cons y l=>
          intro h0
          have:kK (y::l)=0:=by simp only[kK]at h0 ⊢;omega
          rw[this,kY]at ih
          cases ih
      rw[dg_pos hv,kK]
      have e1:(x.toNat+1000000000*kK l) % 1000000000=x.toNat:=by omega
      have e2:(x.toNat+1000000000*kK l) / 1000000000=kK l:=by omega
      rw[e1,e2,ih]
      congr 1
      omega
theorem dval_take0{l:List Int}{n:Nat}(hn:n<l.length)(h:l.getD n 0=0):kK (l.take (n+1))=kK (l.take n):=by
  rw[List.take_succ_eq_append_getElem hn,dval_app]
  rw[List.getD_eq_getElem?_getD,List.getElem?_eq_getElem hn]at h
  simp only[Option.getD_some]at h
  rw[h]
  simp[kK]
theorem nlen_val{l:List Int}:∀n,n≤l.length→kK (l.take (vI l n))=kK (l.take n)
  |0,_=>rfl
  |n+1,h=>by
    simp only[vI]
    split
    · next h0=>rw[nlen_val n O,dval_take0 O h0]
    · rfl
theorem nlen_last{l:List Int}:∀n,n≤l.length→l.take (vI l n)=[]∨(l.take (vI l n)).getD ((l.take (vI l n)).length-1) 0≠0
  |0,_=>.inl rfl
  |n+1,h=>by
    simp only[vI]
    split
    · exact nlen_last n O
    · next h0=>
      right
      have e:(l.take (n+1)).length-1=n:=by simp;omega
      rw[e,List.getD_eq_getElem?_getD,List.getElem?_take,if_pos O,←List.getD_eq_getElem?_getD]
      exact h0
theorem take_nlen{l:List Int}(h:Dig l):l.take (vI l l.length)=dg (kK l):=by
  rw[←dg_dval (h.take _) (nlen_last _ Z3),nlen_val _ Z3,List.take_length]
theorem nlen_eq{l:List Int}(h:Dig l):vI l l.length=(dg (kK l)).length:=by
  rw[←take_nlen h,List.length_take]
  have:=nlen_le l l.length
  omega
theorem nlen0{l:List Int}(h:Dig l):vI l l.length=0↔kK l=0:=by rw[nlen_eq h,dg_len0]
def cmpD(la lb:List Int):Nat→Int
  |0=>0
  |n+1=>if la.getD n 0<lb.getD n 0 then -1 else if lb.getD n 0<la.getD n 0 then 1 else cmpD la lb n
def cmpZ(la lb:List Int):Int:=if la.length<lb.length then -1 else if lb.length<la.length then 1 else cmpD la lb la.length
def cmpN(m n:Nat):Int:=if m<n then -1 else if n<m then 1 else 0
def cmpI(m n:Int):Int:=if m<n then -1 else if n<m then 1 else 0
theorem dval_last{l:List Int}{n:Nat}(hn:n<l.length):kK (l.take (n+1))=kK (l.take n)+1000000000 ^ n*(l.getD n 0).toNat:=by
  rw[List.take_succ_eq_append_getElem hn,dval_app,List.getD_eq_getElem?_getD,List.getElem?_eq_getElem hn]
  have:(l.take n).length=n:=by simp;omega
  rw[this]
  simp[kK]
theorem cmpD_val{la lb:List Int}(ha:Dig la)(hb:Dig lb):∀n,n≤la.length→n≤lb.length→cmpD la lb n=cmpN (kK (la.take n)) (kK (lb.take n))
  |0,_,_=>by simp[cmpD,cmpN,kK]
  |n+1,h1,h2=>by
    simp only[cmpD]
    rw[dval_last O,dval_last O]
    have l1:=dval_lt (ha.take n)
    have l2:=dval_lt (hb.take n)
    have e1:(la.take n).length=n:=by simp;omega
    have e2:(lb.take n).length=n:=by simp;omega
    rw[e1]at l1
    rw[e2]at l2
    have d1:=ha.at n
    have d2:=hb.at n
    generalize la.getD n 0=x at *
    generalize lb.getD n 0=y at *
    generalize hA:kK (la.take n)=A at *
    generalize hB:kK (lb.take n)=B at *
    generalize hP:1000000000 ^ n=P at *
    have ih:=cmpD_val ha hb n O O
    rw[hA,hB]at ih
    have key:∀{A B P:Nat} {x y:Int},0≤x→A<P→x<y→A+P*x.toNat<B+P*y.toNat:=by
      intro A B P x y h0 h1 h2
      have h3:P*(x.toNat+1)≤P*y.toNat:=Nat.mul_le_mul_left _ O
      rw[Nat.mul_add,Nat.mul_one]at h3
      omega
    by_cases hxy:x<y
    · rw[if_pos hxy,cmpN,if_pos (key d1.1 l1 hxy)]
    · rw[if_neg hxy]
      by_cases hyx:y<x
      · have:=key (A:=B) (B:=A) (P:=P) d2.1 l2 hyx
        rw[if_pos hyx,cmpN,if_neg O,if_pos this]
      · have e:x=y:=by omega
        subst e
        rw[if_neg hyx,ih]
        simp only[cmpN,Nat.add_lt_add_iff_right]
theorem dg_len_lt{m n:Nat}(h:(dg m).length<(dg n).length):m<n:=by
  apply Decidable.byContradiction
  intro hn
  have h1:=dval_lt (kq n)
  have:∀k n,(dg n).length=k+1→1000000000 ^ k≤n:=by
    intro k
    induction k with
    |zero=>
      intro n hk
      have h0:n≠0:=fun h0=>by rw[h0,kY]at hk;simp at hk
      rw[Nat.pow_zero]
      omega
    |succ k ih=>
      intro n hk
      have hn:n≠0:=fun h0=>by rw[h0,kY]at hk;simp at hk
      rw[dg_pos hn,List.length_cons]at hk
      rw[Nat.pow_succ]
      have:=Nat.div_add_mod n 1000000000
      have:=Nat.mul_le_mul_right 1000000000 (ih (n / 1000000000) O)
      omega
  obtain⟨k,hk⟩:∃k,(dg n).length=k+1:=⟨(dg n).length-1,by omega⟩
  have h2:=this k n hk
  have h3:=dval_lt (kq m)
  rw[dval_dg]at h3
  have h4:1000000000 ^ (dg m).length≤1000000000 ^ k:=Nat.pow_le_pow_right U O
  omega
theorem cmpZ_dg(m n:Nat):cmpZ (dg m) (dg n)=cmpN m n:=by
  unfold cmpZ
  by_cases h1:(dg m).length<(dg n).length
  · rw[if_pos h1,cmpN,if_pos (dg_len_lt h1)]
  · rw[if_neg h1]
    by_cases h2:(dg n).length<(dg m).length
    · have:=dg_len_lt h2
      rw[if_pos h2,cmpN,if_neg O,if_pos this]
    · rw[if_neg h2,cmpD_val (kq m) (kq n) _ Z3 O,List.take_length,show(dg m).length=(dg n).length by omega,List.take_length,dval_dg,dval_dg]
end Go.Proofs.C14
namespace Go.Proofs.C14
def dv:List Int→Int
 | []=>0
 |x::l=>x+1000000000*dv l
theorem dv_app(l r:List Int):dv (l++r)=dv l+1000000000 ^ l.length*dv r:=by
 induction l with
 |nil=>simp[dv]
 |cons x l ih=>
  simp only[List.cons_append,dv,ih,List.length_cons,Int.pow_succ]
  rw[Int.mul_add,←Int.mul_assoc,Int.mul_comm 1000000000 (1000000000 ^ l.length)]
  omega
theorem dv_dval{l:List Int}(h:Dig l):dv l=(kK l:Int):=by
 induction l with
 |nil=>rfl
 |cons x l ih=>
  have:=h x Y8
  rw[dv,kK,ih h.tail]
  omega
theorem dv_dg(n:Nat):dv (dg n)=(n:Int):=by rw[dv_dval (kq n),dval_dg]
theorem dv_take_succ{l:List Int}{n:Nat}(hn:n<l.length):dv (l.take (n+1))=dv (l.take n)+1000000000 ^ n*l.getD n 0:=by
 rw[List.take_succ_eq_append_getElem hn,dv_app,List.getD_eq_getElem?_getD,List.getElem?_eq_getElem hn]
 have:(l.take n).length=n:=by simp;omega
 rw[this]
 simp[dv]
theorem qg(l:List Int)(n:Nat):dv (l.take (n+1))=dv (l.take n)+1000000000 ^ n*l.getD n 0:=by
 by_cases hn:n<l.length
 ·exact dv_take_succ hn
 ·rw[List.take_of_length_le O,List.take_of_length_le O,List.getD_eq_getElem?_getD,List.getElem?_eq_none O]
  simp
theorem jz{l:List Int}{n:Nat}(h:l.length≤n):dv (l.take n)=dv l:=by rw[List.take_of_length_le h]
theorem dv_set{l:List Int}:∀{k:Nat} {x:Int},k<l.length→dv (l.set k x)=dv l+1000000000 ^ k*(x-l.getD k 0):=by
 induction l with
 |nil=>intro k x h;simp at h
 |cons y l ih=>
  intro k x h
  cases k with
  |zero=>simp only[List.set_cons_zero,dv,List.getD_cons_zero,Int.pow_zero];omega
  |succ k=>
   simp only[List.set_cons_succ,dv,List.getD_cons_succ,ih (by simpa using h:k<l.length),Int.pow_succ]
   rw[Int.mul_add,←Int.mul_assoc,Int.mul_comm 1000000000 (1000000000 ^ k)]
   omega
theorem dv_snoc(l:List Int)(x:Int):dv (l++[x])=dv l+1000000000 ^ l.length*x:=by rw[dv_app];simp[dv]
theorem dv_zeros(n:Nat):dv (List.replicate n 0)=0:=by
 induction n with
 |zero=>rfl
 |succ n ih=>rw[List.replicate_succ,dv,ih];rfl
theorem dig_zeros(n:Nat):Dig (List.replicate n 0):=fun x hx=>by rw[(List.mem_replicate.mp hx).2];decide
theorem Dig.set{l:List Int}(h:Dig l){k:Nat}{x:Int}(h0:0≤x)(h1:x<1000000000):Dig (l.set k x):=fun y hy=>
 (List.mem_or_eq_of_mem_set hy).elim (h y) fun e=>by rw[e];exact⟨h0,h1⟩
theorem dv_nonneg{l:List Int}(h:Dig l):0≤dv l:=by rw[dv_dval h];omega
theorem dv_lt{l:List Int}(h:Dig l):dv l<1000000000 ^ l.length:=by
 rw[dv_dval h]
 have:=Int.ofNat_lt.mpr (dval_lt h)
 rw[Int.natCast_pow]at this
 exact this
theorem powB(n:Nat):(0:Int)<1000000000 ^ n:=Int.pow_pos U
theorem step_sum{P A S c x w:Int}(h:A+P*c=S)(hw:w=x+c):(A+P*(w % 1000000000))+P*1000000000*(w / 1000000000)=S+P*x:=by
 have e:P*1000000000*(w / 1000000000)=P*(1000000000*(w / 1000000000)):=by rw[Int.mul_assoc]
 have e2:=Int.mul_ediv_add_emod w 1000000000
 have e3:P*(w % 1000000000)+P*(1000000000*(w / 1000000000))=P*w:=by rw[←Int.mul_add];congr 1;omega
 have e4:P*w=P*x+P*c:=by rw[hw,Int.mul_add]
 omega
def Bd(q:Rat)(N D:Nat):Prop:=q.num.natAbs≤N∧q.den≤D
theorem Bd.le{q:Rat}{N D N' D':Nat}(h:Bd q N D)(h1:N≤N')(h2:D≤D'):Bd q N' D':=⟨Nat.le_trans h.1 h1,Nat.le_trans h.2 h2⟩
theorem Bd.neg{q:Rat}{N D:Nat}(h:Bd q N D):Bd (-q) N D:=⟨by rw[Rat.neg_num,Int.natAbs_neg];exact h.1,by rw[Rat.neg_den];exact h.2⟩
theorem bd_mkRat{n:Int}{d:Nat}:Bd (mkRat n d) n.natAbs (max d 1):=by
 constructor
 ·rw[Rat.num_mkRat]
  split
  ·simp
  ·exact Nat.le_trans (Int.natAbs_ediv_le_natAbs _ _) Z3
 ·rw[Rat.den_mkRat]
  split
  ·omega
  ·exact Nat.le_trans (Nat.div_le_self _ _) O
theorem Bd.add{a b:Rat}{N1 D1 N2 D2:Nat}(h1:Bd a N1 D1)(h2:Bd b N2 D2):Bd (a+b) (N1*D2+N2*D1) (D1*D2):=by
 rw[Rat.add_def']
 have hd:=Nat.mul_le_mul h1.2 h2.2
 have hp:=Nat.mul_pos a.den_pos b.den_pos
 refine bd_mkRat.le ?_ O
 refine Nat.le_trans (Int.natAbs_add_le _ _) ?_
 rw[Int.natAbs_mul,Int.natAbs_mul,Int.natAbs_natCast,Int.natAbs_natCast]
 exact Nat.add_le_add (Nat.mul_le_mul h1.1 h2.2) (Nat.mul_le_mul h2.1 h1.2)
theorem Bd.mul{a b:Rat}{N1 D1 N2 D2:Nat}(h1:Bd a N1 D1)(h2:Bd b N2 D2):Bd (a*b) (N1*N2) (D1*D2):=by
 rw[Rat.mul_def']
 have hd:=Nat.mul_le_mul h1.2 h2.2
 have hp:=Nat.mul_pos a.den_pos b.den_pos
 refine bd_mkRat.le ?_ O
 rw[Int.natAbs_mul]
 exact Nat.mul_le_mul h1.1 h2.1
end Go.Proofs.C14
namespace Go.Proofs.C14
theorem gcd_pos{p q:Int}(hq:q≠0):0<Nat.gcd p.natAbs q.natAbs:=Nat.gcd_pos_of_pos_right _ O
theorem sign_mul_ediv{p q:Int}(hq:q≠0):(Rat.divInt p q).num=if q<0 then -(p / (Nat.gcd p.natAbs q.natAbs:Int))else p / (Nat.gcd p.natAbs q.natAbs:Int):=by
 rw[Rat.num_divInt]
 have e:Int.gcd q p=Nat.gcd p.natAbs q.natAbs:=by rw[Int.gcd,Nat.gcd_comm]
 rw[e]
 have hd:((Nat.gcd p.natAbs q.natAbs:Nat):Int)∣p:=Int.ofNat_dvd_left.mpr (Nat.gcd_dvd_left _ _)
 by_cases h:q<0
 ·rw[if_pos h,Int.sign_eq_neg_one_of_neg h,Int.neg_one_mul,Int.neg_ediv_of_dvd hd]
 ·rw[if_neg h,Int.sign_eq_one_of_pos O,Int.one_mul]
theorem den_ediv{p q:Int}(hq:q≠0):((Rat.divInt p q).den:Int)=if q<0 then -(q / (Nat.gcd p.natAbs q.natAbs:Int))else q / (Nat.gcd p.natAbs q.natAbs:Int):=by
 rw[Rat.den_divInt,if_neg hq]
 have e:Int.gcd q p=Nat.gcd p.natAbs q.natAbs:=by rw[Int.gcd,Nat.gcd_comm]
 rw[e]
 have hd:((Nat.gcd p.natAbs q.natAbs:Nat):Int)∣q:=Int.ofNat_dvd_left.mpr (Nat.gcd_dvd_right _ _)
 by_cases h:q<0
 ·rw[if_pos h,←Int.neg_ediv_of_dvd hd,Int.natCast_ediv]
  congr 1
  omega
 ·rw[if_neg h,Int.natCast_ediv]
  congr 1
  omega
theorem lowest_terms{N:Int}{D:Nat}(hD:D≠0)(h:N.natAbs.Coprime D):(mkRat N D).num=N∧(mkRat N D).den=D:=by
 have:mkRat N D=⟨N,D,hD,h⟩:=(Rat.mk_eq_mkRat N D hD h).symm
 rw[this]
 exact⟨rfl,rfl⟩
theorem mul_across(a b:Rat):(a*b).num=(mkRat a.num b.den).num*(mkRat b.num a.den).num∧(a*b).den=(mkRat a.num b.den).den*(mkRat b.num a.den).den:=by
 have e:a*b=mkRat ((mkRat a.num b.den).num*(mkRat b.num a.den).num) ((mkRat a.num b.den).den*(mkRat b.num a.den).den):=by
  rw[←Rat.mul_def',Rat.mkRat_mul_mkRat,Rat.mul_def',Nat.mul_comm b.den a.den]
 have hx:(mkRat a.num b.den).num.natAbs∣a.num.natAbs:=by
  rw[Rat.num_mkRat,if_neg b.den_nz,Int.natAbs_ediv_of_dvd (Int.ofNat_dvd_left.mpr (Nat.gcd_dvd_right _ _)),Int.natAbs_natCast]
  exact Nat.div_dvd_of_dvd (Nat.gcd_dvd_right _ _)
 have hy:(mkRat b.num a.den).num.natAbs∣b.num.natAbs:=by
  rw[Rat.num_mkRat,if_neg a.den_nz,Int.natAbs_ediv_of_dvd (Int.ofNat_dvd_left.mpr (Nat.gcd_dvd_right _ _)),Int.natAbs_natCast]
  exact Nat.div_dvd_of_dvd (Nat.gcd_dvd_right _ _)
 have dx:(mkRat a.num b.den).den∣b.den:=by
  rw[Rat.den_mkRat,if_neg b.den_nz];exact Nat.div_dvd_of_dvd (Nat.gcd_dvd_left _ _)
 have dy:(mkRat b.num a.den).den∣a.den:=by
  rw[Rat.den_mkRat,if_neg a.den_nz];exact Nat.div_dvd_of_dvd (Nat.gcd_dvd_left _ _)
 have c:((mkRat a.num b.den).num*(mkRat b.num a.den).num).natAbs.Coprime ((mkRat a.num b.den).den*(mkRat b.num a.den).den):=by
  rw[Int.natAbs_mul]
  refine Nat.Coprime.mul_left (Nat.Coprime.mul_right (mkRat a.num b.den).reduced ?_) (Nat.Coprime.mul_right ?_ (mkRat b.num a.den).reduced)
  ·exact Nat.Coprime.coprime_dvd_left hx (Nat.Coprime.coprime_dvd_right dy a.reduced)
  ·exact Nat.Coprime.coprime_dvd_left hy (Nat.Coprime.coprime_dvd_right dx b.reduced)
 have hD:(mkRat a.num b.den).den*(mkRat b.num a.den).den≠0:=Nat.mul_ne_zero (mkRat a.num b.den).den_nz (mkRat b.num a.den).den_nz
 have:=lowest_terms hD c
 rw[e]
 exact this
theorem add_int{a b:Rat}(ha:a.den=1)(hb:b.den=1):(a+b).num=a.num+b.num∧(a+b).den=1:=by
 have e:a+b=mkRat (a.num+b.num) 1:=by rw[Rat.add_def',ha,hb];simp
 rw[e]
 exact lowest_terms U (Nat.coprime_one_right _)
theorem mul_int{a b:Rat}(ha:a.den=1)(hb:b.den=1):(a*b).num=a.num*b.num∧(a*b).den=1:=by
 have e:a*b=mkRat (a.num*b.num) 1:=by rw[Rat.mul_def',ha,hb]
 rw[e]
 exact lowest_terms U (Nat.coprime_one_right _)
def cmpQ(a b:Rat):Int:=if a<b then -1 else if b<a then 1 else 0
theorem cmpQ_eq(a b:Rat):cmpI (a.num*b.den) (b.num*a.den)=cmpQ a b:=by
 unfold cmpI cmpQ
 simp only[Rat.lt_iff]
end Go.Proofs.C14
namespace Go.Proofs.C14
section
variable(e:Nat→Int×Int)
def Inc(k:Nat)(v:Int):Prop:=(e k).1=v∨(e k).2=v
instance (k:Nat)(v:Int):Decidable (Inc e k v):=inferInstanceAs (Decidable (_∨_))
def oth(k:Nat)(v:Int):Int:=(e k).1+(e k).2-v
def NB(tree:List Nat):Int→Int→List Nat→Int→Prop
 |v,_,[],w=>v=w
 |v,last,k::r,w=>k∈tree∧(k:Int)≠last∧Inc e k v∧NB tree (oth e k v) k r w
def Fo(tree:List Nat):Prop:=∀v last r,NB e tree v last r v→r=[]
variable{e}
theorem oth_inc{k:Nat}{v:Int}(h:Inc e k v):Inc e k (oth e k v):=by
 unfold Inc oth at *;omega
theorem oth_oth{k:Nat}{v:Int}:oth e k (oth e k v)=v:=by unfold oth;omega
theorem inc_two{k:Nat}{v w:Int}(h:Inc e k v)(h2:Inc e k w):w=v∨w=oth e k v:=by
 unfold Inc oth at *;omega
theorem NB.last{tree:List Nat}{v l1 l2:Int}{r:List Nat}{w:Int}(h:NB e tree v l1 r w)(hl:∀k,k∈tree→(k:Int)≠l2):NB e tree v l2 r w:=by
 cases r with
 |nil=>exact h
 |cons k r=>exact⟨h.1,hl k h.1,h.2.2.1,h.2.2.2⟩
theorem NB.start{tree:List Nat}{v l1:Int}{r:List Nat}{w:Int}(h:NB e tree v l1 r w):NB e tree v (-1) r w:=h.last fun k _=>by omega
theorem NB.mono{t1 t2:List Nat}(hs:∀k∈t1,k∈t2):∀{r:List Nat} {v l w:Int},NB e t1 v l r w→NB e t2 v l r w
 | [],_,_,_,h=>h
 |_::_,_,_,_,h=>⟨hs _ h.1,h.2.1,h.2.2.1,NB.mono hs h.2.2.2⟩
theorem NB.cut{tree:List Nat}:∀{r1:List Nat} {v l w:Int} {k:Nat} {r2:List Nat},NB e tree v l (r1++k::r2) w →
  ∃x,NB e tree v l r1 x∧Inc e k x∧k∈tree∧NB e tree (oth e k x) k r2 w∧(r1=[]→(k:Int)≠l)
 | [],v,l,w,k,r2,h=>⟨v,rfl,h.2.2.1,h.1,h.2.2.2,fun _=>h.2.1⟩
 |j::r1,v,l,w,k,r2,h=>by
  obtain⟨x,h1,h2,h3,h4,_⟩:=NB.cut (r1:=r1) h.2.2.2
  exact⟨x,⟨h.1,h.2.1,h.2.2.1,h1⟩,h2,h3,h4,fun h0=>by cases h0⟩
theorem Fo.nodup{tree:List Nat}(hF:Fo e tree):∀{r:List Nat} {v l w:Int},NB e tree v l r w→r.Nodup
 | [],_,_,_,_=>List.nodup_nil
 |k::r,v,l,w,h=>by
  refine List.nodup_cons.mpr ⟨fun hk=>?_,Fo.nodup hF h.2.2.2⟩
  obtain⟨r1,r2,hr⟩:=List.append_of_mem hk
  have h2:=h.2.2.2
  rw[hr]at h2
  obtain⟨x,hx1,hx2,_,_,hx5⟩:=NB.cut h2
  rcases inc_two h.2.2.1 hx2 with hx|hx
  ·subst hx
   have:=hF x l (k::r1) ⟨h.1,h.2.1,h.2.2.1,hx1⟩
   cases this
  ·subst hx
   have:=hF _ _ r1 hx1
   subst this
   exact hx5 rfl rfl
theorem len_sub:∀{r t:List Nat},r.Nodup→(∀k∈r,k∈t)→r.length≤t.length
 | [],_,_,_=>Nat.zero_le _
 |k::r,t,h,hs=>by
  obtain⟨t1,t2,ht⟩:=List.append_of_mem (hs k Y8)
  obtain⟨hk,hn⟩:=List.nodup_cons.mp h
  have:r.length≤(t1++t2).length:=len_sub hn fun j hj=>by
   have h1:=hs j (by simp[hj])
   rw[ht]at h1
   rcases List.mem_append.mp h1 with h1|h1
   ·exact List.mem_append_left _ h1
   ·rcases List.mem_cons.mp h1 with h1|h1
    ·subst h1;exact(hk hj).elim
    ·exact List.mem_append_right _ h1
  rw[ht]
  simp only[List.length_append,List.length_cons]at this ⊢
  omega
theorem NB.mem{tree:List Nat}:∀{r:List Nat} {v l w:Int},NB e tree v l r w→∀k∈r,k∈tree
 | [],_,_,_,_,k,hk=>by cases hk
 |j::r,_,_,_,h,k,hk=>by
  rcases List.mem_cons.mp hk with hk|hk
  ·subst hk;exact h.1
  ·exact NB.mem h.2.2.2 k hk
theorem Fo.short{tree:List Nat}(hF:Fo e tree){r:List Nat}{v l w:Int}(h:NB e tree v l r w):r.length≤tree.length:=len_sub (hF.nodup h) h.mem
theorem NB.snoc{tree:List Nat}:∀{r:List Nat} {v l w:Int} {k:Nat},NB e tree v l r w→k∈tree→Inc e k w→(∀j,r.getLast? = some j→j≠k)→(r=[]→(k:Int)≠l)→NB e tree v l (r++[k]) (oth e k w)
 | [],v,l,w,k,h,hk,hi,_,hl=>by
  have:v=w:=h
  subst this
  exact⟨hk,hl rfl,hi,rfl⟩
 |j::r,v,l,w,k,h,hk,hi,hj,_=>by
  refine⟨h.1,h.2.1,h.2.2.1,NB.snoc (r:=r) h.2.2.2 hk hi (fun i hr=>hj i ?_) (fun hr=>?_)⟩
  ·cases r with
   |nil=>cases hr
   |cons a r=>simpa[List.getLast?_cons_cons]using hr
  ·subst hr
   have:=hj j Y8
   omega
theorem NB.reverse{tree:List Nat}:∀{r:List Nat} {v l w:Int},NB e tree v l r w→NB e tree w (-1) r.reverse v
 | [],v,l,w,h=>h.symm
 |k::r,v,l,w,h=>by
  rw[List.reverse_cons]
  have h1:=NB.reverse h.2.2.2
  have h2:=NB.snoc (k:=k) h1 h.1 (oth_inc h.2.2.1) (fun j hj=>?_) (fun _=>by omega)
  ·rwa[oth_oth]at h2
  ·rw[List.getLast?_reverse]at hj
   cases r with
   |nil=>cases hj
   |cons a r=>
    have:a=j:=by simpa using hj
    subst this
    have:=h.2.2.2.2.1
    omega
def Cn(e:Nat→Int×Int)(tree:List Nat)(v w:Int):Prop:=∃r,NB e tree v (-1) r w
theorem Cn.refl{tree:List Nat}{v:Int}:Cn e tree v v:=⟨[],rfl⟩
theorem Cn.symm{tree:List Nat}{v w:Int}(h:Cn e tree v w):Cn e tree w v:=by obtain⟨r,h⟩:=h;exact⟨_,h.reverse⟩
theorem NB.trans{tree:List Nat}:∀(r:List Nat) {v w x:Int} {s:List Nat},NB e tree v (-1) r w→NB e tree w (-1) s x→Cn e tree v x:=by
 intro r
 induction hn:r.length generalizing r with
 |zero=>
  intro v w x s h1 h2
  have:r=[]:=List.length_eq_zero_iff.mp hn
  subst this
  have:v=w:=h1
  subst this
  exact⟨s,h2⟩
 |succ n ih=>
  intro v w x s h1 h2
  obtain⟨r',k,rfl⟩:∃r' k,r=r'++[k]:=by
   rcases List.eq_nil_or_concat r with h|⟨r',k,h⟩
   ·subst h;simp at hn
   ·exact⟨r',k,by simpa using h⟩
  obtain⟨y,hy1,hy2,hy3,hy4,_⟩:=NB.cut (r2:=[]) h1
  have hw:oth e k y=w:=hy4
  have hlen:r'.length=n:=by simpa using hn
  cases s with
  |nil=>
   have:w=x:=h2
   subst this
   exact⟨_,h1⟩
  |cons j s=>
   by_cases hjk:j=k
   ·subst hjk
    have h3:=h2.2.2.2
    rw[←hw,oth_oth]at h3
    exact ih r' hlen hy1 h3.start
   ·have h3:NB e tree y (-1) (k::j::s) x:=⟨hy3,by omega,hy2,by rw[hw];exact⟨h2.1,by omega,h2.2.2.1,h2.2.2.2⟩⟩
    exact ih r' hlen hy1 h3
theorem Cn.trans{tree:List Nat}{v w x:Int}(h1:Cn e tree v w)(h2:Cn e tree w x):Cn e tree v x:=by
 obtain⟨r,h1⟩:=h1
 obtain⟨s,h2⟩:=h2
 exact NB.trans r h1 h2
theorem Cn.mono{t1 t2:List Nat}(hs:∀k∈t1,k∈t2){v w:Int}(h:Cn e t1 v w):Cn e t2 v w:=by obtain⟨r,h⟩:=h;exact⟨r,h.mono hs⟩
theorem NB.split{tree:List Nat}{k:Nat}:∀{r:List Nat} {v l w:Int},NB e (tree++[k]) v l r w →
  NB e tree v l r w∨∃r1 r2 x,r=r1++k::r2∧NB e tree v l r1 x∧Inc e k x∧NB e (tree++[k]) (oth e k x) k r2 w∧(r1=[]→(k:Int)≠l)
 | [],v,l,w,h=>.inl h
 |j::r,v,l,w,h=>by
  by_cases hj:j=k
  ·subst hj
   exact .inr ⟨[],r,v,rfl,rfl,h.2.2.1,h.2.2.2,fun _=>h.2.1⟩
  ·have hm:j∈tree:=by
    rcases List.mem_append.mp h.1 with h1|h1
    ·exact h1
    ·exact(hj (List.mem_singleton.mp h1)).elim
   rcases NB.split h.2.2.2 with h1|⟨r1,r2,x,h1,h2,h3,h4,_⟩
   ·exact .inl ⟨hm,h.2.1,h.2.2.1,h1⟩
   ·exact .inr ⟨j::r1,r2,x,by rw[h1];rfl,⟨hm,h.2.1,h.2.2.1,h2⟩,h3,h4,fun h0=>by cases h0⟩
theorem NB.once{tree:List Nat}(hF:Fo e tree){k:Nat}(hn:¬Cn e tree (e k).1 (e k).2){x:Int}(hx:Inc e k x){r:List Nat}{w:Int}(h:NB e (tree++[k]) (oth e k x) k r w):NB e tree (oth e k x) k r w:=by
 rcases NB.split h with h|⟨r1,r2,z,_,h2,h3,_,h5⟩
 ·exact h
 ·exfalso
  rcases inc_two (oth_inc hx) h3 with hz|hz
  ·subst hz
   have:=hF _ _ _ h2
   exact h5 this rfl
  ·rw[oth_oth]at hz
   subst hz
   have hc:Cn e tree (oth e k z) z:=⟨_,h2.start⟩
   apply hn
   rcases hx with hx|hx
   ·have:oth e k z=(e k).2:=by unfold oth;omega
    rw[this]at hc
    rw[←hx]at hc
    exact hc.symm
   ·have:oth e k z=(e k).1:=by unfold oth;omega
    rw[this]at hc
    rw[←hx]at hc
    exact hc
theorem Cn.oth{tree:List Nat}{k:Nat}{x:Int}(hx:Inc e k x)(h:Cn e tree (oth e k x) x):Cn e tree (e k).1 (e k).2:=by
 rcases hx with hx|hx
 ·have:C14.oth e k x=(e k).2:=by unfold C14.oth;omega
  rw[this,←hx]at h
  exact h.symm
 ·have:C14.oth e k x=(e k).1:=by unfold C14.oth;omega
  rw[this,←hx]at h
  exact h
theorem Fo.add{tree:List Nat}(hF:Fo e tree){k:Nat}(hn:¬Cn e tree (e k).1 (e k).2):Fo e (tree++[k]):=by
 intro v l r h
 rcases NB.split h with h1|⟨r1,r2,x,h1,h2,h3,h4,_⟩
 ·exact hF _ _ _ h1
 ·exfalso
  have h5:=NB.once hF hn h3 h4
  exact hn (Cn.oth h3 (Cn.trans ⟨_,h5.start⟩ ⟨_,h2.start⟩))
theorem Fo.nil:Fo e []:=by
 intro v l r h
 cases r with
 |nil=>rfl
 |cons k r=>exact absurd h.1 Y8
theorem Cn.add{tree:List Nat}(hF:Fo e tree){k:Nat}(hn:¬Cn e tree (e k).1 (e k).2){v w:Int}:Cn e (tree++[k]) v w ↔
  Cn e tree v w∨(Cn e tree v (e k).1∧Cn e tree (e k).2 w)∨(Cn e tree v (e k).2∧Cn e tree (e k).1 w):=by
 constructor
 ·rintro⟨r,h⟩
  rcases NB.split h with h1|⟨r1,r2,x,h1,h2,h3,h4,_⟩
  ·exact .inl ⟨r,h1⟩
  ·have h5:=NB.once hF hn h3 h4
   right
   rcases h3 with hx|hx
   ·left
    have:C14.oth e k x=(e k).2:=by unfold C14.oth;omega
    rw[this]at h5
    rw[hx]
    exact⟨⟨_,h2⟩,⟨_,h5.start⟩⟩
   ·right
    have:C14.oth e k x=(e k).1:=by unfold C14.oth;omega
    rw[this]at h5
    rw[hx]
    exact⟨⟨_,h2⟩,⟨_,h5.start⟩⟩
 ·have hm:∀j∈tree,j∈tree++[k]:=fun j hj=>List.mem_append_left _ hj
  have hk:Cn e (tree++[k]) (e k).1 (e k).2:=⟨[k],by simp,by omega,.inl rfl,by show _=_;unfold C14.oth;omega⟩
  rintro(h|⟨h1,h2⟩|⟨h1,h2⟩)
  ·exact h.mono hm
  ·exact((h1.mono hm).trans hk).trans (h2.mono hm)
  ·exact((h1.mono hm).trans hk.symm).trans (h2.mono hm)
end
end Go.Proofs.C14
