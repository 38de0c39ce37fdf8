/- Rules for operations that make slices and structs; maps; drawn regions. -/
import Derived.Test.YtocnbjjmmgolfaaGreatA10
set_option linter.unusedSimpArgs false
set_option linter.unusedVariables false
set_option linter.unusedSectionVars false
namespace Go.M
section
variable{P:Program}{I:zU}{F:FF}{s:St}{Q:FF→St→Prop}{d:Option Tmp}{ty:TypeId}{pos:String}{af:Array Edge}{g:Option (Nat×Bool)}
variable{W:List Nat}{s0:St}{L:Hp'}{n:Nat}
def gV(P:Program):List Field→List (Nat×Nat)
 | []=>[]
 |f::l=>(f.offset,match P.info? f.type with
  |some i=>i.size
  |none=>0)::gV P l
def rowL(sz:Nat):Nat→Nat→List (Nat×Nat)
 |_,0=>[]
 |i,k+1=>(i*sz,sz)::rowL sz (i+1) k
def VJ(P:Program)(t:TypeId):Option (List Value×List (Nat×Nat)):=
 match we P t,P.underlying t with
 |some z,some (.struct fields)=>match fields.toList.all (fun f=>(P.info? f.type).isSome)with
  |true=>some (z,gV P fields.toList)
  |false=>none
 |some z,some (.array n e)=>match P.info? e with
  |some inf=>some (z,rowL inf.size 0 n)
  |none=>none
 |_,_=>none
theorem ZS{p q:Nat→Option (Nat×Nat)}{ρ:Operand→Value}(h:∀i x,p i=some x→q i=some x):∀(l:List (Nat×Operand)) (c r:List Value),qK p ρ l c=some r→qK q ρ l c=some r
 | [],_,_,e=>e
 |(i,x)::l,c,r,e=>by
  simp only[qK]at e ⊢
  cases hp:p i with
  |none=>rw[hp]at e;cases e
  |some y=>
   rw[hp]at e
   rw[h i y hp]
   simp only at e ⊢
   split at e
   ·next c' h1 h2=>
    exact ZS h l c' r e
   ·cases e
theorem WK{P:Program}:∀(l:List Field) (i:Nat) (x:Nat×Nat),l.all (fun f=>(P.info? f.type).isSome)=true→zF (gV P l) i=some x→je P l i=some x
 | [],i,x,_,h=>by simp[gV,zF]at h
 |f::l,0,x,ha,h=>by
  simp only[List.all_cons,aG]at ha
  simp only[gV,zF,bF]at h
  simp only[je,zF]
  cases hi:P.info? f.type with
  |none=>rw[hi]at ha;simp at ha
  |some inf=>rw[hi]at h;simp only at h ⊢;rw[h]
 |f::l,i+1,x,ha,h=>by
  simp only[List.all_cons,aG]at ha
  simp only[gV,zF]at h
  have:=WK l i x (by simpa using ha.2) h
  simp only[je]at this ⊢
  simpa only[zF]using this
theorem row_ok{sz:Nat}:∀(k j i:Nat) (x:Nat×Nat),zF (rowL sz j k) i=some x→some x=some ((j+i)*sz,sz)
 |0,j,i,x,h=>by simp[rowL,zF]at h
 |k+1,j,0,x,h=>by simp only[rowL,zF]at h;rw[←h];simp
 |k+1,j,i+1,x,h=>by
  simp only[rowL,zF]at h
  have:=row_ok k (j+1) i x h
  rw[this]
  congr 3
  omega
theorem KN{t:TypeId}{parts:Array (Nat×Operand)}{z c:List Value}{pl:List (Nat×Nat)}(hb:VJ P t=some (z,pl))(hc:qK (zF pl) (zd F) parts.toList z=some c)(k:Q (upd F d (.agg ⟨c⟩)) s) :
 OpW P I ⟨d,.build t parts,ty,pos,af,g⟩ F s Q:=by
 refine zA (v:=.agg ⟨c⟩) (s':=s) ?_ k
 simp only[VJ]at hb
 split at hb
 ·next b fields a hu=>
  split at hb
  ·next ha=>
   simp only[bF,Prod.mk.injEq]at hb
   obtain⟨rfl,rfl⟩:=hb
   have:=ZS (q:=je P fields.toList) (fun i x h=>WK _ i x ha h) _ _ _ hc
   simp only[zh,wL,a,hu,ha,this]
   rfl
  ·cases hb
 ·next b m e a hu=>
  cases hi:P.info? e with
  |none=>rw[hi]at hb;cases hb
  |some inf=>
   rw[hi]at hb
   simp only[bF,Prod.mk.injEq]at hb
   obtain⟨rfl,rfl⟩:=hb
   have:=ZS (q:=fun i=>some (i*inf.size,inf.size)) (fun i x h=>by have:=row_ok _ _ _ _ h;rw[cA]at this;exact this.symm) _ _ _ hc
   simp only[zh,wL,a,hu,hi,this]
   rfl
 ·cases hb
def ql(P:Program)(t:TypeId):Option (TypeId×Nat×Nat×List Value):=
 match P.underlying t with
 |some (.slice e)=>match P.info? e,we P e with
  |some inf,some z=>some (e,inf.size,inf.bytes,z)
  |_,_=>none
 |_=>none
theorem yY{t e:TypeId}{sz by_:Nat}{z:List Value}(h:ql P t=some (e,sz,by_,z)):P.underlying t=some (.slice e)∧∃inf c,P.info? e=some inf∧inf.size=sz∧inf.bytes=by_∧we P e=some z∧inf.zero=some c∧yD (yp c) 0=inf.size:=by
 simp only[ql]at h
 split at h
 ·next e' hu=>
  split at h
  ·next inf c hi f=>
   simp only[bF,Prod.mk.injEq]at h
   obtain⟨rfl,rfl,rfl,rfl⟩:=h
   refine⟨hu,inf,?_⟩
   have a:=f
   simp only[we,hi]at a
   cases b:inf.zero with
   |none=>rw[b]at a;cases a
   |some i=>
    rw[b]at a
    simp only at a
    split at a
    ·next hp=>
     simp only[aG]at hp
     exact⟨i,hi,J,J,f,J,aJ hp.2⟩
    ·cases a
  ·cases h
 ·cases h
theorem xS{t e:TypeId}{len:Nat}{parts:Array (Nat×Operand)}{sz by_:Nat}{z c:List Value}(H:HL W s0 s L n)(hs:ql P t=some (e,sz,by_,z))(hl:Nat.ble (len*sz) 16777216=true)
 (hc:qK (fun i=>some (i*sz,sz)) (zd F) parts.toList (kq z len)=some c) (f:s0.next+n<zw)
 (k:∀b s',HL W s0 s' ((b,.cells c e)::L) (n+1)→Q (upd F d (.slice (some ⟨b,0,none⟩) len (2*len))) s'):OpW P I ⟨d,.buildSlice t len parts,ty,pos,af,g⟩ F s Q:=by
 obtain⟨hu,inf,z',hi,rfl,_,h,_,_⟩:=yY hs
 refine zA (v:=.slice (some ⟨s.next,0,none⟩) len (2*len)) (s':=s.new (.cells c e)) ?_ (k _ _ (H.new _ f))
 have a:=H.room f
 simp only[zh,qL,hu,hi,h,hl,hc,newK,a]
 rfl
theorem J5{t e:TypeId}{l m:Operand}{sz by_:Nat}{z:List Value}{a b:Nat}{o p:IntKind}(H:HL W s0 s L n)(hs:ql P t=some (e,sz,by_,z))(hl:zd F l=.int o (a:Int))(i:zd F m=.int p (b:Int))
 (h1:a≤b) (h2:b*(by_+1)≤1073741824) (h:s0.next+n<zw)
 (k:∀f s',HL W s0 s' ((f,.cells (kq z b) e)::L) (n+1)→Q (upd F d (.slice (some ⟨f,0,none⟩) a (2*b))) s'):OpW P I ⟨d,.makeSlice t l m,ty,pos,af,g⟩ F s Q:=by
 obtain⟨hu,inf,z',hi,rfl,rfl,j,_,_⟩:=yY hs
 refine zA (v:=.slice (some ⟨s.next,0,none⟩) a (2*b)) (s':=s.new (.cells (kq z b) e)) ?_ (k _ _ (H.new _ h))
 have c:=H.room h
 have e1:(Nat.ble a b&&Nat.ble (b*(inf.bytes+1)) 1073741824)=true:=by
  rw[aG];exact⟨aZ h1,aZ h2⟩
 simp only[zh,qN,hu,hi,j,hl,i]
 show(match (Nat.ble a b&&Nat.ble (b*(inf.bytes+1)) 1073741824)with|true=>newK e (kq z b) a b s|false=>.stuck)=_
 simp only[e1,newK,c]
 rfl
def kS(s:St)(sz:Nat)(v:Value)(m:Nat)(l:List Value):Prop:=(∃a c,v=.slice a m c)∧xQ sz m v s=some l
theorem Ji{sz c:Nat}:kS s sz (.slice none 0 c) 0 []:=⟨⟨_,_,rfl⟩,rfl⟩
theorem wX{sz b off m cap:Nat}{c l:List Value}{e:TypeId}(hg:s.get b=some (.cells c e))(hl:(c.drop off).take (m*sz)=l)(hm:off+m*sz≤c.length):kS s sz (.slice (some ⟨b,off,none⟩) m cap) m l:=by
 refine⟨⟨_,_,J⟩,?_⟩
 simp only[xQ,hg,y7,yU,bZ]
 rw[aF O,hl]
theorem qG{sz b m cap:Nat}{c:List Value}{e:TypeId}(hg:s.get b=some (.cells c e))(a:m*sz=c.length):kS s sz (.slice (some ⟨b,0,none⟩) m cap) m c:=by
 refine wX hg ?_ O
 rw[List.drop_zero,a,aY]
theorem Zb{t e:TypeId}{inf:TypeInfo}{x:Value}{m:Nat}{l:List Value}(hu:P.underlying t=some (.slice e))(he:kS s inf.size x m l):newL (P.underlying t) inf x s=some (m,l):=by
 obtain⟨⟨a,c,rfl⟩,h⟩:=he
 simp only[newL,hu,zct,h]
theorem Vh{t e:TypeId}{inf:TypeInfo}{b:Value}{need m:Nat}{new:List Value}(c:inf.zero=some b)(a:yD (yp b) 0=inf.size)(hb:need*(inf.bytes+1)≤1073741824)(hp:new.all plainCell=true)(hl:new.length=m*inf.size) :
 Zw inf need m new=true:=by
 simp only[Zw,c,aG]
 refine⟨⟨⟨aZ hb,hp⟩,?_⟩,?_⟩
 ·rw[yd,bK,hl];exact eM _
 ·rw[a];exact eM _
theorem J8{o:Array Operand}{ts:Array TypeId}{t t2 e e2:TypeId}{tr:List TypeId}{x y:Operand}{sz by_ m:Nat}{z l:List Value}(H:HL W s0 s L n)(hs:ql P t=some (e,sz,by_,z))(f:P.underlying t2=some (.slice e2))
 (q:ts.toList=t::t2::tr) (ha:o.toList=[x,y]) (hx:zd F x=.slice none 0 0) (he:kS s sz (zd F y) m l) (hm:0<m) (hp:l.all plainCell=true) (hl:l.length=m*sz) (hb:m*(by_+1)≤1073741824) (p:s0.next+n<zw)
 (k:∀b s',HL W s0 s' ((b,.cells l e)::L) (n+1)→Q (upd F d (.slice (some ⟨b,0,none⟩) m (2*m+1))) s'):OpW P I ⟨d,.call ⟨.builtin .append,o,ts⟩,ty,pos,af,g⟩ F s Q:=by
 obtain⟨hu,inf,z',hi,rfl,rfl,hz,i,j⟩:=yY hs
 refine zA (v:=.slice (some ⟨s.next,0,none⟩) m (2*m+1)) (s':=s.new (.cells l e)) ?_ (k _ _ (H.new _ p))
 have c:=H.room p
 have hf:Nat.ble (0+m) (0 / 2)=false:=by
  rw[cL];intro h;have:=aR h;omega
 have a:Zw inf (0+m) m l=true:=Vh (t:=t) (e:=e) i j (by rw[cA];exact hb) hp hl
 simp only[zh,xp,xd,q,ha,qB,hx,hu,hi,Zb f he,qg,hf,a,wg,xQ,Zv,X0,uK,c,Bool.and_self,Nat.zero_mod,cI]
 rw[cA]
 rfl
theorem zdn{ts:List TypeId}{t t2 e e2:TypeId}{tr:List TypeId}{y:Value}{sz by_ m b len cap:Nat}{z l c:List Value}(hs:ql P t=some (e,sz,by_,z))(o:P.underlying t2=some (.slice e2))
 (r:ts=t::t2::tr) (he:kS s sz y m l) (hg:s.get b=some (.cells c e)) (j:s.may b=true) (hlen:len*sz=c.length) (hcap:cap / 2<len+m) (hp:l.all plainCell=true) (hl:l.length=m*sz) (hb:(len+m)*(by_+1)≤1073741824) (a:s.room=true)
 : xd P ts [.slice (some ⟨b,0,none⟩) len cap,y] s=.ok (.value (.slice (some ⟨s.next,0,none⟩) (len+m) (2*(len+m)+1))) ((if cap % 2=0 then s else s.put b none).new (.cells (c++l) e)):=by
 obtain⟨hu,inf,z',hi,rfl,rfl,hz,p,q⟩:=yY hs
 have hf:Nat.ble (len+m) (cap / 2)=false:=by
  rw[cL];intro h;have:=aR h;omega
 have i:Zw inf (len+m) m l=true:=Vh (t:=t) (e:=e) p q hb hp hl
 have f:xQ inf.size len (.slice (some ⟨b,0,none⟩) len cap) s=some c:=(qG (cap:=cap) hg hlen).2
 have k:wg e (some ⟨b,0,none⟩) cap s=true:=by
  simp only[wg,hg,eM]
  split<;>rfl
 rw[r]
 simp only[xd,hu,hi,Zb o he,qg,hf,i,k,Bool.and_self,f,Zv,X0]
 rcases Nat.mod_two_eq_zero_or_one cap with h|h
 ·rw[h];simp only[uK,a,dP];rfl
 ·rw[h];simp only[j,uK,show(s.put b none).room=true from a,cK,Nat.one_ne_zero];rfl
theorem HL.appended(A:Hp'){B:Hp'}{b cap:Nat}{o o':MObj}(H:HL W s0 s (A++(b,o)::B) n)(a:s0.next+n<zw):HL W s0 ((if cap % 2=0 then s else s.put b none).new o') ((s.next,o')::(A++B)) (n+1):=by
 split
 ·have H2:HL W s0 s (A++B) n:=H.sub Y8
  exact H2.new o' a
 ·exact(H.killAt A O).new o' a
theorem KQ{f:Array Operand}{ts:Array TypeId}{t t2 e e2:TypeId}{tr:List TypeId}{x y:Operand}{sz by_ m b len cap:Nat}{z l c:List Value}(H:HL W s0 s ((b,.cells c e)::L) n)(hs:ql P t=some (e,sz,by_,z))(a:P.underlying t2=some (.slice e2))
 (i:ts.toList=t::t2::tr) (ha:f.toList=[x,y]) (hx:zd F x=.slice (some ⟨b,0,none⟩) len cap) (he:kS s sz (zd F y) m l) (hlen:len*sz=c.length) (hcap:cap / 2<len+m) (hp:l.all plainCell=true) (hl:l.length=m*sz) (hb:(len+m)*(by_+1)≤1073741824) (h:s0.next+n<zw)
 (k:∀b' s',HL W s0 s' ((b',.cells (c++l) e)::L) (n+1)→Q (upd F d (.slice (some ⟨b',0,none⟩) (len+m) (2*(len+m)+1))) s'):OpW P I ⟨d,.call ⟨.builtin .append,f,ts⟩,ty,pos,af,g⟩ F s Q:=by
 refine zA ?_ (k _ _ (HL.appended [] (cap:=cap) H h))
 simp only[zh,xp,ha,qB,hx]
 exact zdn hs a i he H.own0 (H.own (b,.cells c e) Y8).2.2.1 hlen hcap hp hl hb (H.room h)
theorem ws{v:Option Value}{d m:Nat}(h:(v=none∧m=d)∨∃k,v=some (.int k (m:Int))):qm v d=some m:=by
 rcases h with⟨rfl,rfl⟩|⟨k,rfl⟩
 ·rfl
 ·rfl
theorem KJ{t e:TypeId}{x hi:Operand}{sz by_ b off len cap m:Nat}{z c:List Value}{kd:IntKind}{a:Int}(hs:ql P t=some (e,sz,by_,z))(hx:zd F x=.slice (some ⟨b,off,none⟩) len cap)(j:zd F hi=.int kd a)(l:a=(m:Int))(hg:s.get b=some (.cells c e))(h1:m≤cap / 2)
 (k:Q (upd F d (.slice (some ⟨b,off,none⟩) m cap)) s):OpW P I ⟨d,.slice t x none (some hi) none,ty,pos,af,g⟩ F s Q:=by
 obtain⟨hu,inf,z',i,rfl,rfl,hz,hz1,hz2⟩:=yY hs
 subst l
 refine zA (v:=.slice (some ⟨b,off,none⟩) m cap) (s':=s) ?_ k
 have hb:(Nat.ble 0 m&&Nat.ble m (cap / 2)&&Nat.ble (cap / 2) (cap / 2)&&((some (Value.int kd (m:Int))).isSome || !(none:Option Value).isSome))=true:=by
  simp only[aG]
  exact⟨⟨⟨aZ O,aZ h1⟩,aZ Z3⟩,J⟩
 have f:wg e (some ⟨b,off,none⟩) cap s=true:=by
  simp only[wg,hg,eM]
  split<;>rfl
 simp only[zh,qk,hu,i,hx,Option.map_none,cP,j]
 rcases Nat.mod_two_eq_zero_or_one cap with h|h
 ·rw[h]
  simp only[xU,ws (v:=none) (d:=0) (m:=0) (.inl ⟨rfl,rfl⟩),ws (v:=some (.int kd (m:Int))) (d:=len) (m:=m) (.inr ⟨kd,rfl⟩),ws (v:=none) (d:=cap / 2) (m:=cap / 2) (.inl ⟨rfl,rfl⟩),hb,Bool.true_or,Nat.sub_zero]
  have hc:2*(cap / 2)=cap:=by omega
  rw[hc]
  cases hq:Nat.beq (cap / 2) 0 with
  |true=>rfl
  |false=>simp[Addr.add,okV]
 ·rw[h]
  simp only[f,xU,ws (v:=none) (d:=0) (m:=0) (.inl ⟨rfl,rfl⟩),ws (v:=some (.int kd (m:Int))) (d:=len) (m:=m) (.inr ⟨kd,rfl⟩),ws (v:=none) (d:=cap / 2) (m:=cap / 2) (.inl ⟨rfl,rfl⟩),hb,Bool.false_or,Nat.sub_zero]
  have hc:2*(cap / 2)+1=cap:=by omega
  rw[hc]
  simp[Addr.add,okV]
theorem zen{src dst:TypeId}{x:Operand}{kd:IntKind}{a:Int}{u:TypeDesc}(hu:P.underlying src=some u)(hd:P.underlying dst=some (.int .i64))(hx:zd F x=.int kd a)(h:yy a)(k:Q (upd F d (.int .i64 a)) s):OpW P I ⟨d,.convert src dst x,ty,pos,af,g⟩ F s Q:=by
 refine zA (v:=.int .i64 a) (s':=s) ?_ k
 simp only[zh,vC,hu,hd,hx,Yn h]
 cases u<;>rfl
section draws
variable{ops:List Oper}{rest:List Drawn}{ix anc:Nat}{free:List Nat}
theorem YD{s:St}{b:Nat}(h:b<zw):({next:=s.next,bar:=s.next,prot:=[],heap:=only s (some b)}:St).get b=s.get b:=by
 unfold zw at h
 show(Tr.put depth .nil b (s.get b)).get b=s.get b
 have:=Tr.get_put depth (.nil:Tr MObj) b b (s.get b) (by have:(2:Nat) ^ depth=281474976710656:=U;omega)
 rw[this,aF rfl]
theorem yL{t:TypeId}{x:Operand}{b off:Nat}{c:List Value}{e:TypeId}{v:Value}(hg:zF ops ix=some ⟨d,.load t x,ty,pos,af,g⟩)(f:yi ops F ⟨d,.load t x,ty,pos,af,g⟩=true)
 (hs:zV P t=some none) (hx:zd F x=.pointer (some ⟨b,off,none⟩)) (a:s.get b=some (.cells c e)) (hb:b<zw) (hc:zF c off=some v) (k:yZ P I ops rest (upd F d v) s Q) :
 yZ P I ops (⟨ix,anc,.light,free⟩::rest) F s Q:=by
 refine za hg f ?_
 have e1:yx F ⟨d,.load t x,ty,pos,af,g⟩=some b:=by simp only[yx,hx]
 rw[e1]
 exact yc hs hx (by rw[YD hb];exact a) hc ⟨J,k⟩
theorem k6{t:TypeId}{x:Operand}{b off m:Nat}{c:List Value}{e:TypeId}{l:List Value}(hg:zF ops ix=some ⟨d,.load t x,ty,pos,af,g⟩)(f:yi ops F ⟨d,.load t x,ty,pos,af,g⟩=true)
 (hs:zV P t=some (some m)) (hx:zd F x=.pointer (some ⟨b,off,none⟩)) (a:s.get b=some (.cells c e)) (hb:b<zw) (hc:y8 m (xw off c)=some l) (k:yZ P I ops rest (upd F d (.agg ⟨l⟩)) s Q) :
 yZ P I ops (⟨ix,anc,.light,free⟩::rest) F s Q:=by
 refine za hg f ?_
 have e1:yx F ⟨d,.load t x,ty,pos,af,g⟩=some b:=by simp only[yx,hx]
 rw[e1]
 exact qr hs hx (by rw[YD hb];exact a) hc ⟨J,k⟩
theorem HL.wider{s1:St}{W':List Nat}{h:Hp'}{m:Nat}{bar:Nat}{prot:List Nat}(hf:Fine s)(hb:s.bar≤bar)(hp:∀p,p∈s.prot→p∈prot)(H:HL W' {next:=s.next,bar:=bar,prot:=prot,heap:=s.heap} s1 h m) :
 HL W' s {next:=s1.next,bar:=s.bar,prot:=s.prot,heap:=s1.heap} h m:=by
 refine⟨J,J,hf.wfb,hf.wfp,H.le,H.most,fun p f=>?_,H.dist,H.kept⟩
 obtain⟨h1,h2,c,j⟩:=H.own p f
 refine⟨h1,h2,?_,j⟩
 have b:s1.bar=bar:=H.bar
 have a:s1.prot=prot:=H.prot
 simp only[St.may,aG,bC,b,a]at c
 refine may_of ?_ fun e=>?_
 ·have:=aR c.1
  show s.bar≤p.1
  omega
 ·have i:=c.2
  rw[cL]at i
  apply i
  rw[eU]
  exact⟨p.1,hp _ e,eM _⟩
end draws
end
section
variable{P:Program}{I:zU}{F:FF}{s:St}{Q:FF→St→Prop}{d:Option Tmp}{ty:TypeId}{pos:String}{af:Array Edge}{g:Option (Nat×Bool)}
end
section
variable{P:Program}{I:zU}{F:FF}{s:St}{Post:Value→St→Prop}
theorem zcs{t:TypeId}{v:Value}{b off n:Nat}{c l:List Value}{e:TypeId}(hs:zV P t=some (some n))(hx:v=.pointer (some ⟨b,off,none⟩))(hg:s.get b=some (.cells c e))(hc:y8 n (xw off c)=some l):vY P t v s=some (.agg ⟨l⟩):=by
 subst hx
 simp only[vY,hg,hs,jk,hc]
theorem QS(h:Post (.tuple ⟨[]⟩) s):endQ P [] Post F s:=⟨h⟩
end
section
variable{P:Program}{I:zU}{F:FF}{s:St}{Q:FF→St→Prop}{d:Option Tmp}{ty:TypeId}{pos:String}{af:Array Edge}{g:Option (Nat×Bool)}
variable{W:List Nat}{s0:St}{L:Hp'}{n:Nat}
inductive Own(e:TypeId)(sz:Nat):Hp'→Value→List Value→Nat→Prop
 |nil:Own e sz [] (.slice none 0 0) [] 0
 |block (b cap:Nat) (c:List Value) (len:Nat) (hl:len*sz=c.length) (hcap:cap / 2=len):Own e sz [(b,.cells c e)] (.slice (some ⟨b,0,none⟩) len cap) c len
theorem j4{D:Hp'}{i:Array Operand}{ts:Array TypeId}{t t2 e e2:TypeId}{tr:List TypeId}{x y:Operand}{v:Value}{sz by_ m len:Nat}{z l c:List Value}(H:HL W s0 s (D++L) n)(ho:Own e sz D v c len)(hs:ql P t=some (e,sz,by_,z))(f:P.underlying t2=some (.slice e2))
 (o:ts.toList=t::t2::tr) (ha:i.toList=[x,y]) (hx:zd F x=v) (he:kS s sz (zd F y) m l) (p:0<m) (hp:l.all plainCell=true) (hl:l.length=m*sz) (hb:(len+m)*(by_+1)≤1073741824) (j:s0.next+n<zw)
 (k:∀b s',HL W s0 s' ((b,.cells (c++l) e)::L) (n+1)→Own e sz [(b,.cells (c++l) e)] (.slice (some ⟨b,0,none⟩) (len+m) (2*(len+m)+1)) (c++l) (len+m)→Q (upd F d (.slice (some ⟨b,0,none⟩) (len+m) (2*(len+m)+1))) s'):OpW P I ⟨d,.call ⟨.builtin .append,i,ts⟩,ty,pos,af,g⟩ F s Q:=by
 cases ho with
 |nil=>
  refine J8 H hs f o ha hx he p hp hl (by rw[cA]at hb;exact hb) j (fun b s' h=>?_)
  have:=k b s' h
  rw[cA]at this
  exact this (.block b _ _ _ (by rw[←hl];rfl) O)
 |block b cap c len a hcap=>
  refine KQ H hs f o ha hx he a O hp hl hb j (fun b s' h=>?_)
  exact k b s' h (.block b _ _ _ (by rw[aQ,←a,hl,dM]) O)
theorem KP{i:Array Operand}{ts:Array TypeId}{t t2 e e2:TypeId}{tr:List TypeId}{x y:Operand}{sz by_ b cap len:Nat}{z c:List Value}(H:HL W s0 s ((b,.cells c e)::L) n)(hs:ql P t=some (e,sz,by_,z))(h:P.underlying t2=some (.slice e2))
 (l:ts.toList=t::t2::tr) (ha:i.toList=[x,y]) (hx:zd F x=.slice (some ⟨b,0,none⟩) len cap) (he:kS s sz (zd F y) 0 []) (hcap:len≤cap / 2) (hlen:len*sz≤c.length) (j:s0.next+n≤zw)
 (k:∀s',HL W s0 s' ((b,.cells c e)::L) n→Q (upd F d (.slice (some ⟨b,0,none⟩) len cap)) s'):OpW P I ⟨d,.call ⟨.builtin .append,i,ts⟩,ty,pos,af,g⟩ F s Q:=by
 obtain⟨hu,inf,z',hi,rfl,rfl,hz,hz1,hz2⟩:=yY hs
 refine zA (v:=.slice (some ⟨b,0,none⟩) len cap) (s':=s.put b (some (.cells c e))) ?_ (k _ (H.put0 _ j))
 have hf:Nat.ble len (cap / 2)=true:=aZ hcap
 have a:=(H.own (b,.cells c e) Y8).2.2.1
 simp only at a
 have f:∀(m:Nat) (c:List Value),m≤c.length→yO m [] c=some c:=by
  intro m
  induction m with
  |zero=>intro c _;rfl
  |succ m o=>
   intro c hc
   cases c with
   |nil=>simp at hc
   |cons x c=>simp only[yO,o c (by simpa using hc)]
 simp only[zh,xp,xd,l,ha,qB,hx,hu,hi,Zb h he,qg,hf,xy,cA,bK,H.own0,List.all_nil,Bool.true_and,a,f _ _ hlen]
 rfl
theorem HL.callE(H:HL W s0 s L n){s':St}{c:Hp'}{k:Nat}(f:HL [] s s' c k):HL W s0 s' (L++c) (n+k):=by
 have h:=H.call f
 refine{h with own:=fun p hp=>h.own p (by simp only[aU]at hp ⊢;exact hp.symm),dist:=?_}
 have hd:=h.dist
 rw[List.pairwise_append]at hd ⊢
 exact⟨hd.2.1,hd.1,fun a ha b hb=>fun e=>hd.2.2 b hb a ha e.symm⟩
theorem HL.ownA{A B:Hp'}{b:Nat}{o:MObj}(H:HL W s0 s (A++(b,o)::B) n):s.get b=some o:=(H.own (b,o) Y8).1
theorem op_storeA{A B:Hp'}{t:TypeId}{x v:Operand}{b off sz:Nat}{c c':List Value}{e:TypeId}{vs:List Value}(H:HL W s0 s (A++(b,.cells c e)::B) n)(hs:qZ P t=some sz)(hx:zd F x=.pointer (some ⟨b,off,none⟩))(hv:yp (zd F v)=vs)
 (hl:Nat.beq (yD vs 0) sz=true) (hp:vs.all plainCell=true) (hc:yO off vs c=some c') (a:s0.next+n≤zw) (k:∀s',HL W s0 s' (A++(b,.cells c' e)::B) n→Q (upd F d undef) s'):OpW P I ⟨d,.store t x v,ty,pos,af,g⟩ F s Q:=
 wT (kg hs hx hv hl hp H.ownA (H.own (b,.cells c e) Y8).2.2.1 hc) (k _ (H.putAt A _ a))
theorem ur{ops:List Oper}{rest:List Drawn}{ix anc:Nat}{free fr:List Nat}{t:TypeId}{x v:Operand}{b off sz:Nat}{c c':List Value}{e:TypeId}{vs:List Value}(f:zF ops ix=some ⟨d,.store t x v,ty,pos,af,g⟩)(o:yi ops F ⟨d,.store t x v,ty,pos,af,g⟩=true)
 (hs:qZ P t=some sz) (hx:zd F x=.pointer (some ⟨b,off,none⟩)) (hv:yp (zd F v)=vs) (hl:Nat.beq (yD vs 0) sz=true) (hp:vs.all plainCell=true) (hg:s.get b=some (.cells c e)) (i:s.may b=true) (hc:yO off vs c=some c')
 (a:yf ops F free=fr) (l:∀p,p∈fr→p≠b) (k:yZ P I ops rest (upd F d undef) (s.put b (some (.cells c' e))) Q):yZ P I ops (⟨ix,anc,.whole,free⟩::rest) F s Q:=by
 refine yr f o ?_
 have j:({s with prot:=yf ops F free++s.prot}:St).may b=true:=by
  simp only[St.may,aG,bC,cL,ne_eq,eU,not_exists,not_and]at i ⊢
  refine⟨i.1,fun p m he=>?_⟩
  rcases aU.mp m with h|h
  ·rw[a]at h
   exact l p h (aJ he).symm
  ·exact i.2 p h he
 exact wT (kg (s:={s with prot:=yf ops F free++s.prot}) hs hx hv hl hp hg j hc) k
theorem vt{ops:List Oper}{rest:List Drawn}{ix anc:Nat}{free fr:List Nat}{t:TypeId}{x v:Operand}{b off sz:Nat}{c c':List Value}{e:TypeId}{vs:List Value}(H:HL W s0 s ((b,.cells c e)::L) n)(f:zF ops ix=some ⟨d,.store t x v,ty,pos,af,g⟩)(j:yi ops F ⟨d,.store t x v,ty,pos,af,g⟩=true)
 (hs:qZ P t=some sz) (hx:zd F x=.pointer (some ⟨b,off,none⟩)) (hv:yp (zd F v)=vs) (hl:Nat.beq (yD vs 0) sz=true) (hp:vs.all plainCell=true) (hc:yO off vs c=some c')
 (a:yf ops F free=fr) (h:∀p,p∈fr→p≠b) (i:s0.next+n≤zw) (k:∀s',HL W s0 s' ((b,.cells c' e)::L) n→yZ P I ops rest (upd F d undef) s' Q):yZ P I ops (⟨ix,anc,.whole,free⟩::rest) F s Q:=
 ur f j hs hx hv hl hp H.own0 (H.own (b,.cells c e) Y8).2.2.1 hc a h (k _ (H.put0 _ i))
theorem Xx{i:Nat×MObj}{ops:List Oper}{rest:List Drawn}{ix anc:Nat}{free fr:List Nat}{t:TypeId}{x v:Operand}{b off sz:Nat}{c c':List Value}{e:TypeId}{vs:List Value}(H:HL W s0 s (i::(b,.cells c e)::L) n)(f:zF ops ix=some ⟨d,.store t x v,ty,pos,af,g⟩)(l:yi ops F ⟨d,.store t x v,ty,pos,af,g⟩=true)
 (hs:qZ P t=some sz) (hx:zd F x=.pointer (some ⟨b,off,none⟩)) (hv:yp (zd F v)=vs) (hl:Nat.beq (yD vs 0) sz=true) (hp:vs.all plainCell=true) (hc:yO off vs c=some c')
 (a:yf ops F free=fr) (h:∀p,p∈fr→p≠b) (j:s0.next+n≤zw) (k:∀s',HL W s0 s' (i::(b,.cells c' e)::L) n→yZ P I ops rest (upd F d undef) s' Q):yZ P I ops (⟨ix,anc,.whole,free⟩::rest) F s Q:=
 ur f l hs hx hv hl hp H.own1 (H.own (b,.cells c e) Y8).2.2.1 hc a h (k _ (H.put1 _ j))
theorem Xw{i p1:Nat×MObj}{ops:List Oper}{rest:List Drawn}{ix anc:Nat}{free fr:List Nat}{t:TypeId}{x v:Operand}{b off sz:Nat}{c c':List Value}{e:TypeId}{vs:List Value}(H:HL W s0 s (i::p1::(b,.cells c e)::L) n)(f:zF ops ix=some ⟨d,.store t x v,ty,pos,af,g⟩)(l:yi ops F ⟨d,.store t x v,ty,pos,af,g⟩=true)
 (hs:qZ P t=some sz) (hx:zd F x=.pointer (some ⟨b,off,none⟩)) (hv:yp (zd F v)=vs) (hl:Nat.beq (yD vs 0) sz=true) (hp:vs.all plainCell=true) (hc:yO off vs c=some c')
 (a:yf ops F free=fr) (h:∀p,p∈fr→p≠b) (j:s0.next+n≤zw) (k:∀s',HL W s0 s' (i::p1::(b,.cells c' e)::L) n→yZ P I ops rest (upd F d undef) s' Q):yZ P I ops (⟨ix,anc,.whole,free⟩::rest) F s Q:=
 ur f l hs hx hv hl hp H.own2 (H.own (b,.cells c e) Y8).2.2.1 hc a h (k _ (H.put2 _ j))
theorem dr_store3{i p1 p2:Nat×MObj}{ops:List Oper}{rest:List Drawn}{ix anc:Nat}{free fr:List Nat}{t:TypeId}{x v:Operand}{b off sz:Nat}{c c':List Value}{e:TypeId}{vs:List Value}(H:HL W s0 s (i::p1::p2::(b,.cells c e)::L) n)(f:zF ops ix=some ⟨d,.store t x v,ty,pos,af,g⟩)(l:yi ops F ⟨d,.store t x v,ty,pos,af,g⟩=true)
 (hs:qZ P t=some sz) (hx:zd F x=.pointer (some ⟨b,off,none⟩)) (hv:yp (zd F v)=vs) (hl:Nat.beq (yD vs 0) sz=true) (hp:vs.all plainCell=true) (hc:yO off vs c=some c')
 (a:yf ops F free=fr) (h:∀p,p∈fr→p≠b) (j:s0.next+n≤zw) (k:∀s',HL W s0 s' (i::p1::p2::(b,.cells c' e)::L) n→yZ P I ops rest (upd F d undef) s' Q):yZ P I ops (⟨ix,anc,.whole,free⟩::rest) F s Q:=
 ur f l hs hx hv hl hp H.own3 (H.own (b,.cells c e) Y8).2.2.1 hc a h (k _ (H.put3 _ j))
theorem XA{N:Nat}{b:Code}{Q:FOut→Prop}(h:CodeW P I N b F s (zed P I N (.loop b) Q)):CodeW P I N (.loop b) F s Q:=by
 obtain⟨o,a,n,hn⟩:=h.ends
 cases o with
 |normal F₁ s₁=>
  obtain⟨o₂,f,n₂,e⟩:=a
  refine⟨o₂,f,n+n₂+1,fun m c=>?_⟩
  obtain⟨m,rfl⟩:∃k,m=k+1:=⟨m-1,by omega⟩
  simp only[xj,hn m O]
  exact e m O
 |exit i F₁ s₁=>
  refine⟨_,a,n+1,fun m c=>?_⟩
  obtain⟨m,rfl⟩:∃k,m=k+1:=⟨m-1,by omega⟩
  simp only[xj,hn m O]
 |ret F₁ s₁=>
  refine⟨_,a,n+1,fun m c=>?_⟩
  obtain⟨m,rfl⟩:∃k,m=k+1:=⟨m-1,by omega⟩
  simp only[xj,hn m O]
 |stuck=>
  refine⟨_,a,n+1,fun m c=>?_⟩
  obtain⟨m,rfl⟩:∃k,m=k+1:=⟨m-1,by omega⟩
  simp only[xj,hn m O]
end
def zbV(F:FF):List Tmp→List Value→FF
 |t::ts,v::vs=>zbV (upd F (some t) v) ts vs
 |_,_=>F
theorem Agrees.putAll{N:Nat}:∀(ts:List Tmp) (vs:List Value) {F:FF} {a:Fr},Agrees N F a→Agrees N (zbV F ts vs) (a.putAll ts vs)
 | [],_,_,_,h=>by simpa[zbV,Fr.putAll]using h
 |_::_,[],_,_,h=>by simpa[zbV,Fr.putAll]using h
 |t::ts,v::vs,_,_,h=>by
  simp only[zbV,Fr.putAll]
  exact Agrees.putAll ts vs (h.put _ _)
section
variable{P:Program}{I:zU}{N:Nat}{F:FF}{s:St}
def roundQ(b:Nat)(Post:Value→St→Prop):FOut→Prop
 | .normal _ s=>∃v s',jI b none s=.ret v s'∧Post v s'
 | .exit id _ s=>∃v s',jI b (some (.exit id)) s=.ret v s'∧Post v s'
 | .ret _ s=>∃v s',jI b (some .ret) s=.ret v s'∧Post v s'
 | .stuck=>False
def bodyQ(P:Program)(I:zU)(N:Nat)(b:Nat)(body:Code)(Post:Value→St→Prop):FOut→Prop
 | .normal F s=>∃lp,s.may b=true∧s.get b=some (.loop lp)∧lp.state=.ready∧CodeW P I N body F (s.put b (some (.loop {lp with state:=.busy}))) (roundQ b Post)
 |_=>False
theorem round_of{b:Nat}{lp:Lp}{args:Array Value}{Post:Value→St→Prop}(hg:s.get b=some (.loop lp))(C:Agrees N F lp.fr)
 (hc:(xT lp.assign&&xT lp.body&&kB lp.assign&&kB lp.body&&Nat.beq (yD args.toList 0) (yD lp.params 0))=true) (r:q7 N lp.assign=true) (t:q7 N lp.body=true)
 (h:CodeW P I N lp.assign (zbV F lp.params args.toList) s (bodyQ P I N b lp.body Post)):∃v s',vo P I (zu+b) args s v s'∧Post v s':=by
 obtain⟨o,z,k,hk⟩:=h.ends
 cases o with
 |normal B s1=>
  obtain⟨lp',p,f,i,hb⟩:=z
  obtain⟨A,e,u,q⟩:=hb.ends
  have j:∃v s',Post v s'∧∀m,k≤m→u≤m→Zx P I m (zu+b) args s=.ret v s':=by
   have key:∀m,k≤m→u≤m→∃c,Agrees N B c∧zT P I m lp.assign (lp.fr.putAll lp.params args.toList) s=.normal c s1∧XK N A (zT P I m lp.body c (s1.put b (some (.loop {lp' with state:=.busy})))):=by
    intro m h1 h2
    have g1:=kF (P:=P) (I:=I) m lp.assign _ _ s r (C.putAll lp.params args.toList)
    rw[hk m h1]at g1
    cases l:zT P I m lp.assign (lp.fr.putAll lp.params args.toList) s with
    |normal c w=>
     rw[l]at g1
     obtain⟨rfl,ha⟩:=g1
     have g2:=kF (P:=P) (I:=I) m lp.body _ _ (w.put b (some (.loop {lp' with state:=.busy}))) t ha
     rw[q m h2]at g2
     exact⟨c,ha,J,g2⟩
    |_=>rw[l]at g1;exact g1.elim
   have run:∀m,Zx P I m (zu+b) args s=vx (zT P I m) b args s:=by
    intro m
    have h1:Nat.ble zu (zu+b)=true:=by simp
    simp only[Zx,yP,h1,eS]
   cases A with
   |normal x s2=>
    obtain⟨v,s',he,hp⟩:=e
    refine⟨v,s',hp,fun m h1 h2=>?_⟩
    obtain⟨c,_,g1,g2⟩:=key m h1 h2
    rw[run]
    cases a:zT P I m lp.body c (s1.put b (some (.loop {lp' with state:=.busy})))with
    |normal y n=>rw[a]at g2;obtain⟨rfl,_⟩:=g2;simp only[vx,hg,hc,g1,p,f,i,a,he]
    |_=>rw[a]at g2;exact g2.elim
   |exit id x s2=>
    obtain⟨v,s',he,hp⟩:=e
    refine⟨v,s',hp,fun m h1 h2=>?_⟩
    obtain⟨c,_,g1,g2⟩:=key m h1 h2
    rw[run]
    cases a:zT P I m lp.body c (s1.put b (some (.loop {lp' with state:=.busy})))with
    |exit id' y n=>rw[a]at g2;obtain⟨rfl,rfl,_⟩:=g2;simp only[vx,hg,hc,g1,p,f,i,a,he]
    |_=>rw[a]at g2;exact g2.elim
   |ret x s2=>
    obtain⟨v,s',he,hp⟩:=e
    refine⟨v,s',hp,fun m h1 h2=>?_⟩
    obtain⟨c,_,g1,g2⟩:=key m h1 h2
    rw[run]
    cases a:zT P I m lp.body c (s1.put b (some (.loop {lp' with state:=.busy})))with
    |ret y n=>rw[a]at g2;obtain⟨rfl,_⟩:=g2;simp only[vx,hg,hc,g1,p,f,i,a,he]
    |_=>rw[a]at g2;exact g2.elim
   |stuck=>exact e.elim
  obtain⟨v,s',hp,D⟩:=j
  exact⟨v,s',⟨k+u,fun m p=>D m O O⟩,hp⟩
 |_=>exact z.elim
def doneQ(F:FF)(b:Nat)(Q:FOut→Prop)(s:St):Prop:=
 ∃lp,s.may b=true∧s.get b=some (.loop lp)∧zdh lp.state=false∧(match lp.pend with
  |none=>Q (.normal F (s.put b (some (.loop {lp with state:=.exhausted}))))
  |some .ret=>Q (.ret F (s.put b (some (.loop {lp with state:=.exhausted}))))
  |some (.exit id)=>Q (.exit id F (s.put b (some (.loop {lp with state:=.exhausted}))))
  |_=>False)
theorem cw_range{f:Operand}{ps:Array Tmp}{x y:Code}{Q:FOut→Prop}{g:FuncId}{j cs args:Array Value}(t:N≤65534)(hf:zd F f=.func (.func g) j cs)(hb:xH P g=true)
 (ha:(⟨j.toList++[.func (.yield s.next) ⟨[]⟩ ⟨[]⟩]++cs.toList⟩:Array Value)=args) (u:s.room=true) (o:Yt N f=true)
 (h:∀fr,Agrees N F fr→∃v s2,vo P I g args (s.new (.loop {fr:=fr,params:=ps.toList,assign:=x,body:=y,state:=.ready,pend:=none})) v s2∧doneQ F s.next Q s2)
 (e:Nat.ble zu g=false:=by exact rfl):CodeW P I N (.rangeFunc f ps x y) F s Q:=by
 have l:=Vl F t
 obtain⟨v,s2,⟨k,hk⟩,lp,h1,h2,q,b⟩:=h _ l
 have n:(frF F N).eval f=.func (.func g) j cs:=by rw[l.eval o,hf]
 have p:(frF F N).norm=frF F N:=l.norm
 have a:∀m,k≤m→kT P I (zT P I m) f ps x y (frF F N) s=(match lp.pend with
  |none=>.normal (frF F N) (s2.put s.next (some (.loop {lp with state:=.exhausted})))
  |some .ret=>.ret (frF F N) (s2.put s.next (some (.loop {lp with state:=.exhausted})))
  |some (.exit id)=>.exit id (frF F N) (s2.put s.next (some (.loop {lp with state:=.exhausted})))
  |some _=>.stuck):=by
  intro m i
  have r:yP P I (zT P I m) g args (s.new (.loop {fr:=frF F N,params:=ps.toList,assign:=x,body:=y,state:=.ready,pend:=none}))=.ret v s2:=hk m i
  simp only[kT,u,n,p,jL,hb,ha,e,r,h1,h2,q]
  cases lp.pend with
  |none=>rfl
  |some c=>cases c<;>rfl
 cases hp:lp.pend with
 |none=>
  rw[hp]at b
  refine⟨_,b,k+1,fun m i=>?_⟩
  obtain⟨m,rfl⟩:∃k,m=k+1:=⟨m-1,by omega⟩
  simp only[xj,KC,a m O,hp]
 |some c=>
  rw[hp]at b
  cases c with
  |ret=>
   refine⟨_,b,k+1,fun m i=>?_⟩
   obtain⟨m,rfl⟩:∃k,m=k+1:=⟨m-1,by omega⟩
   simp only[xj,KC,a m O,hp]
  |exit id=>
   refine⟨_,b,k+1,fun m i=>?_⟩
   obtain⟨m,rfl⟩:∃k,m=k+1:=⟨m-1,by omega⟩
   simp only[xj,KC,a m O,hp]
  |_=>exact b.elim
end
section
variable{P:Program}{I:zU}{F:FF}{s:St}{Q:FF→St→Prop}{d:Option Tmp}{ty:TypeId}{pos:String}{af:Array Edge}{g:Option (Nat×Bool)}
theorem op_yield{a:Array Operand}{ts:Array TypeId}{f:Operand}{b:Nat}{lp:Lp}{args:Array Value}(hf:zd F f=.func (.yield b) ⟨[]⟩ ⟨[]⟩)(hg:s.get b=some (.loop lp))(ha:(⟨qB (zd F) a.toList⟩:Array Value)=args)(hl:Nat.beq (yD args.toList 0) (yD lp.params 0)=true)
 (h:∃v s',vo P I (zu+b) args s v s'∧Q (upd F d v) s'):OpW P I ⟨d,.call ⟨.value f,a,ts⟩,ty,pos,af,g⟩ F s Q:=by
 obtain⟨v,s',⟨n,hn⟩,i⟩:=h
 subst ha
 refine⟨_,_,i,n,fun m c=>?_⟩
 have e:zh P (zd F) (Op.call ⟨.value f,a,ts⟩) s=.ok (.round b 0 ⟨qB (zd F) a.toList⟩ .skip .skip) s:=by simp only[zh,jL,hf,hg,hl]
 simp only[opF,e,hn m c]
end
end Go.M
