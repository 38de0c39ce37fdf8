/- Rules for operations that make slices and structs; maps; drawn regions. -/
import Derived.Test.YtocnbjjmmgolfaaGreatA10
set_option linter.unusedSimpArgs false
set_option linter.unusedVariables false
set_option linter.unusedSectionVars false
namespace Go.M
section
variable{P:Program}{I:zZ}{F:FF}{s:St}{Q:FF->St->Prop}{d:Option Tmp}{ty:TypeId}{pos:String}{af:Array Edge}{g:Option (Nat×Bool)}
variable{W:List Nat}{s0:St}{L:au}{n:Nat}
def gQ(P:Program):List Field->List (Nat×Nat)
 | []=>[]
 |f::l=>(f.offset,match P.info? f.type with
  |some i=>i.size
  |none=>0)::gQ P l
def mq(sz:Nat):Nat->Nat->List (Nat×Nat)
 |_,0=>[]
 |i,k+1=>(i*sz,sz)::mq sz (i+1) k
def VT(P:Program)(t:TypeId):Option (List Value×List (Nat×Nat)):=
 match wl P t,P.underlying t with
 |some z,some (.struct fields)=>match fields.toList.all (λf=>(P.info? f.type).isSome)with
  |true=>some (z,gQ P fields.toList)
  |false=>none
 |some z,some (.array n e)=>match P.info? e with
  |some inf=>some (z,mq inf.size 0 n)
  |none=>none
 |_,_=>none
theorem ZU{p q:Nat->Option (Nat×Nat)}{ρ:Operand->Value}(h:∀i x,p i=some x->q i=some x):∀(l:List (Nat×Operand)) (c r:List Value),qH p ρ l c=some r->qH q ρ l c=some r
 | [],_,_,e=>e
 |(i,x)::l,c,r,e=>by
  simp only[qH]at e |-
  cases hp:p i with
  |none=>rw[hp]at e;cases e
  |some y=>
   rw[hp]at e
   rw[h i y hp]
   simp only at e |-
   split at e
   .next c' h1 h2=>
    exact ZU h l c' r e
   .cases e
theorem WY{P:Program}:∀(l:List Field) (i:Nat) (x:Nat×Nat),l.all (λf=>(P.info? f.type).isSome)=true->zH (gQ P l) i=some x->jp P l i=some x
 | [],i,x,_,h=>by simp[gQ,zH]at h
 |f::l,0,x,ha,h=>by
  simp only[List.all_cons,aF]at ha
  simp only[gQ,zH,bH]at h
  simp only[jp,zH]
  cases hi:P.info? f.type with
  |none=>rw[hi]at ha;simp at ha
  |some inf=>rw[hi]at h;simp only at h |-;rw[h]
 |f::l,i+1,x,ha,h=>by
  simp only[List.all_cons,aF]at ha
  simp only[gQ,zH]at h
  have:=WY l i x (by simpa using ha.2) h
  simp only[jp]at this |-
  simpa only[zH]using this
theorem rH{sz:Nat}:∀(k j i:Nat) (x:Nat×Nat),zH (mq sz j k) i=some x->some x=some ((j+i)*sz,sz)
 |0,j,i,x,h=>by simp[mq,zH]at h
 |k+1,j,0,x,h=>by simp only[mq,zH]at h;rw[<-h];simp
 |k+1,j,i+1,x,h=>by
  simp only[mq,zH]at h
  have:=rH k (j+1) i x h
  rw[this]
  congr 3
  omega
theorem KS{t:TypeId}{parts:Array (Nat×Operand)}{z c:List Value}{pl:List (Nat×Nat)}(hb:VT P t=some (z,pl))(hc:qH (zH pl) (zd F) parts.toList z=some c)(k:Q (ba F d (.agg ⟨c⟩)) s) :
 br P I ⟨d,.build t parts,ty,pos,af,g⟩ F s Q:=by
 refine zE (v:=.agg ⟨c⟩) (s':=s) ?_ k
 simp only[VT]at hb
 split at hb
 .next b fields a hu=>
  split at hb
  .next ha=>
   simp only[bH,Prod.mk.injEq]at hb
   obtain⟨rfl,rfl⟩:=hb
   have:=ZU (q:=jp P fields.toList) (λi x h=>WY _ i x ha h) _ _ _ hc
   simp only[zj,wT,a,hu,ha,this]
   rfl
  .cases hb
 .next b m e a hu=>
  cases hi:P.info? e with
  |none=>rw[hi]at hb;cases hb
  |some inf=>
   rw[hi]at hb
   simp only[bH,Prod.mk.injEq]at hb
   obtain⟨rfl,rfl⟩:=hb
   have:=ZU (q:=λi=>some (i*inf.size,inf.size)) (λi x h=>by have:=rH _ _ _ _ h;rw[cB]at this;exact this.symm) _ _ _ hc
   simp only[zj,wT,a,hu,hi,this]
   rfl
 .cases hb
def qg(P:Program)(t:TypeId):Option (TypeId×Nat×Nat×List Value):=
 match P.underlying t with
 |some (.slice e)=>match P.info? e,wl P e with
  |some inf,some z=>some (e,inf.size,inf.bytes,z)
  |_,_=>none
 |_=>none
theorem yV{t e:TypeId}{sz by_:Nat}{z:List Value}(h:qg P t=some (e,sz,by_,z)):P.underlying t=some (.slice e)/\∃inf c,P.info? e=some inf/\inf.size=sz/\inf.bytes=by_/\wl P e=some z/\inf.zero=some c/\yD (yr c) 0=inf.size:=by
 simp only[qg]at h
 split at h
 .next e' hu=>
  split at h
  .next inf c hi f=>
   simp only[bH,Prod.mk.injEq]at h
   obtain⟨rfl,rfl,rfl,rfl⟩:=h
   refine⟨hu,inf,?_⟩
   have a:=f
   simp only[wl,hi]at a
   cases b:inf.zero with
   |none=>rw[b]at a;cases a
   |some i=>
    rw[b]at a
    simp only at a
    split at a
    .next hp=>
     simp only[aF]at hp
     exact⟨i,hi,J,J,f,J,aK hp.2⟩
    .cases a
  .cases h
 .cases h
theorem xO{t e:TypeId}{len:Nat}{parts:Array (Nat×Operand)}{sz by_:Nat}{z c:List Value}(H:HL W s0 s L n)(hs:qg P t=some (e,sz,by_,z))(hl:Nat.ble (len*sz) 16777216=true)
 (hc:qH (λi=>some (i*sz,sz)) (zd F) parts.toList (ke z len)=some c) (f:s0.next+n<zA)
 (k:∀b s',HL W s0 s' ((b,.cells c e)::L) (n+1)->Q (ba F d (.slice (some ⟨b,0,none⟩) len (2*len))) s'):br P I ⟨d,.buildSlice t len parts,ty,pos,af,g⟩ F s Q:=by
 obtain⟨hu,inf,z',hi,rfl,_,h,_,_⟩:=yV hs
 refine zE (v:=.slice (some ⟨s.next,0,none⟩) len (2*len)) (s':=s.new (.cells c e)) ?_ (k _ _ (H.new _ f))
 have a:=H.room f
 simp only[zj,qJ,hu,hi,h,hl,hc,newK,a]
 rfl
theorem zam{t e:TypeId}{l m:Operand}{sz by_:Nat}{z:List Value}{a b:Nat}{j o:IntKind}(H:HL W s0 s L n)(hs:qg P t=some (e,sz,by_,z))(hl:zd F l=.int j (a:Int))(hm:zd F m=.int o (b:Int))
 (h1:a<=b) (h2:b*(by_+1)<=1073741824) (h:s0.next+n<zA)
 (k:∀f s',HL W s0 s' ((f,.cells (ke z b) e)::L) (n+1)->Q (ba F d (.slice (some ⟨f,0,none⟩) a (2*b))) s'):br P I ⟨d,.makeSlice t l m,ty,pos,af,g⟩ F s Q:=by
 obtain⟨hu,inf,z',hi,rfl,rfl,i,_,_⟩:=yV hs
 refine zE (v:=.slice (some ⟨s.next,0,none⟩) a (2*b)) (s':=s.new (.cells (ke z b) e)) ?_ (k _ _ (H.new _ h))
 have c:=H.room h
 have e1:(Nat.ble a b&&Nat.ble (b*(inf.bytes+1)) 1073741824)=true:=by
  rw[aF];exact⟨aZ h1,aZ h2⟩
 simp only[zj,qL,hu,hi,i,hl,hm]
 show(match (Nat.ble a b&&Nat.ble (b*(inf.bytes+1)) 1073741824)with|true=>newK e (ke z b) a b s|false=>.stuck)=_
 simp only[e1,newK,c]
 rfl
def kQ(s:St)(sz:Nat)(v:Value)(m:Nat)(l:List Value):Prop:=(∃a c,v=.slice a m c)/\xM sz m v s=some l
theorem JA{sz c:Nat}:kQ s sz (.slice none 0 c) 0 []:=⟨⟨_,_,rfl⟩,rfl⟩
theorem ji{sz b off m cap:Nat}{c l:List Value}{e:TypeId}(hg:s.get b=some (.cells c e))(hl:(c.drop off).take (m*sz)=l)(hm:off+m*sz<=c.length):kQ s sz (.slice (some ⟨b,off,none⟩) m cap) m l:=by
 refine⟨⟨_,_,J⟩,?_⟩
 simp only[xM,hg,y7,yR,bZ]
 rw[aG O,hl]
theorem qD{sz b m cap:Nat}{c:List Value}{e:TypeId}(hg:s.get b=some (.cells c e))(hm:m*sz=c.length):kQ s sz (.slice (some ⟨b,0,none⟩) m cap) m c:=by
 refine ji hg ?_ O
 rw[List.drop_zero,hm,bE]
theorem gW{t e:TypeId}{inf:TypeInfo}{x:Value}{m:Nat}{l:List Value}(hu:P.underlying t=some (.slice e))(he:kQ s inf.size x m l):eC (P.underlying t) inf x s=some (m,l):=by
 obtain⟨⟨a,c,rfl⟩,h⟩:=he
 simp only[eC,hu,FU,h]
theorem Vq{t e:TypeId}{inf:TypeInfo}{b:Value}{need m:Nat}{new:List Value}(c:inf.zero=some b)(a:yD (yr b) 0=inf.size)(hb:need*(inf.bytes+1)<=1073741824)(hp:new.all plainCell=true)(hl:new.length=m*inf.size) :
 Zw inf need m new=true:=by
 simp only[Zw,c,aF]
 refine⟨⟨⟨aZ hb,hp⟩,?_⟩,?_⟩
 .rw[yf,bM,hl];exact eL _
 .rw[a];exact eL _
theorem zap{as:Array Operand}{ts:Array TypeId}{t t2 e e2:TypeId}{tr:List TypeId}{x y:Operand}{sz by_ m:Nat}{z l:List Value}(H:HL W s0 s L n)(hs:qg P t=some (e,sz,by_,z))(f:P.underlying t2=some (.slice e2))
 (p:ts.toList=t::t2::tr) (ha:as.toList=[x,y]) (hx:zd F x=.slice none 0 0) (he:kQ s sz (zd F y) m l) (hm:0<m) (hp:l.all plainCell=true) (hl:l.length=m*sz) (hb:m*(by_+1)<=1073741824) (o:s0.next+n<zA)
 (k:∀b s',HL W s0 s' ((b,.cells l e)::L) (n+1)->Q (ba F d (.slice (some ⟨b,0,none⟩) m (2*m+1))) s'):br P I ⟨d,.call ⟨.builtin .append,as,ts⟩,ty,pos,af,g⟩ F s Q:=by
 obtain⟨hu,inf,z',hi,rfl,rfl,hz,i,j⟩:=yV hs
 refine zE (v:=.slice (some ⟨s.next,0,none⟩) m (2*m+1)) (s':=s.new (.cells l e)) ?_ (k _ _ (H.new _ o))
 have c:=H.room o
 have hf:Nat.ble (0+m) (0 / 2)=false:=by
  rw[cM];intro h;have:=aR h;omega
 have a:Zw inf (0+m) m l=true:=Vq (t:=t) (e:=e) i j (by rw[cB];exact hb) hp hl
 simp only[zj,xn,xe,p,ha,qv,hx,hu,hi,gW f he,qc,hf,a,wo,xM,Zv,X8,uP,c,Bool.and_self,Nat.zero_mod,cJ]
 rw[cB]
 rfl
theorem zdL{ts:List TypeId}{t t2 e e2:TypeId}{tr:List TypeId}{y:Value}{sz by_ m b len cap:Nat}{z l c:List Value}(hs:qg P t=some (e,sz,by_,z))(o:P.underlying t2=some (.slice e2))
 (r:ts=t::t2::tr) (he:kQ s sz y m l) (hg:s.get b=some (.cells c e)) (j:s.may b=true) (hlen:len*sz=c.length) (hcap:cap / 2<len+m) (hp:l.all plainCell=true) (hl:l.length=m*sz) (hb:(len+m)*(by_+1)<=1073741824) (a:s.room=true)
 : xe P ts [.slice (some ⟨b,0,none⟩) len cap,y] s=.ok (.value (.slice (some ⟨s.next,0,none⟩) (len+m) (2*(len+m)+1))) ((if cap % 2=0 then s else s.put b none).new (.cells (c++l) e)):=by
 obtain⟨hu,inf,z',hi,rfl,rfl,hz,p,q⟩:=yV hs
 have hf:Nat.ble (len+m) (cap / 2)=false:=by
  rw[cM];intro h;have:=aR h;omega
 have i:Zw inf (len+m) m l=true:=Vq (t:=t) (e:=e) p q hb hp hl
 have f:xM inf.size len (.slice (some ⟨b,0,none⟩) len cap) s=some c:=(qD (cap:=cap) hg hlen).2
 have k:wo e (some ⟨b,0,none⟩) cap s=true:=by
  simp only[wo,hg,eL]
  split<;>rfl
 rw[r]
 simp only[xe,hu,hi,gW o he,qc,hf,i,k,Bool.and_self,f,Zv,X8]
 rcases Nat.mod_two_eq_zero_or_one cap with h|h
 .rw[h];simp only[uP,a,dQ];rfl
 .rw[h];simp only[j,uP,show(s.put b none).room=true from a,cK,Nat.one_ne_zero];rfl
theorem HL.appended(A:au){B:au}{b cap:Nat}{o o':ak}(H:HL W s0 s (A++(b,o)::B) n)(a:s0.next+n<zA):HL W s0 ((if cap % 2=0 then s else s.put b none).new o') ((s.next,o')::(A++B)) (n+1):=by
 split
 .have H2:HL W s0 s (A++B) n:=H.sub Y8
  exact H2.new o' a
 .exact(H.killAt A O).new o' a
theorem KV{as:Array Operand}{ts:Array TypeId}{t t2 e e2:TypeId}{tr:List TypeId}{x y:Operand}{sz by_ m b len cap:Nat}{z l c:List Value}(H:HL W s0 s ((b,.cells c e)::L) n)(hs:qg P t=some (e,sz,by_,z))(a:P.underlying t2=some (.slice e2))
 (h:ts.toList=t::t2::tr) (ha:as.toList=[x,y]) (hx:zd F x=.slice (some ⟨b,0,none⟩) len cap) (he:kQ s sz (zd F y) m l) (hlen:len*sz=c.length) (hcap:cap / 2<len+m) (hp:l.all plainCell=true) (hl:l.length=m*sz) (hb:(len+m)*(by_+1)<=1073741824) (f:s0.next+n<zA)
 (k:∀b' s',HL W s0 s' ((b',.cells (c++l) e)::L) (n+1)->Q (ba F d (.slice (some ⟨b',0,none⟩) (len+m) (2*(len+m)+1))) s'):br P I ⟨d,.call ⟨.builtin .append,as,ts⟩,ty,pos,af,g⟩ F s Q:=by
 refine zE ?_ (k _ _ (HL.appended [] (cap:=cap) H f))
 simp only[zj,xn,ha,qv,hx]
 exact zdL hs a h he H.own0 (H.own (b,.cells c e) Y8).2.2.1 hlen hcap hp hl hb (H.room f)
theorem wD{v:Option Value}{d m:Nat}(h:(v=none/\m=d)\/∃k,v=some (.int k (m:Int))):qh v d=some m:=by
 rcases h with⟨rfl,rfl⟩|⟨k,rfl⟩
 .rfl
 .rfl
theorem KP{t e:TypeId}{x hi:Operand}{sz by_ b off len cap m:Nat}{z c:List Value}{kd:IntKind}{a:Int}(hs:qg P t=some (e,sz,by_,z))(hx:zd F x=.slice (some ⟨b,off,none⟩) len cap)(j:zd F hi=.int kd a)(hm:a=(m:Int))(hg:s.get b=some (.cells c e))(h1:m<=cap / 2)
 (k:Q (ba F d (.slice (some ⟨b,off,none⟩) m cap)) s):br P I ⟨d,.slice t x none (some hi) none,ty,pos,af,g⟩ F s Q:=by
 obtain⟨hu,inf,z',i,rfl,rfl,hz,hz1,hz2⟩:=yV hs
 subst hm
 refine zE (v:=.slice (some ⟨b,off,none⟩) m cap) (s':=s) ?_ k
 have hb:(Nat.ble 0 m&&Nat.ble m (cap / 2)&&Nat.ble (cap / 2) (cap / 2)&&((some (Value.int kd (m:Int))).isSome || !(none:Option Value).isSome))=true:=by
  simp only[aF]
  exact⟨⟨⟨aZ O,aZ h1⟩,aZ Z3⟩,J⟩
 have f:wo e (some ⟨b,off,none⟩) cap s=true:=by
  simp only[wo,hg,eL]
  split<;>rfl
 simp only[zj,qf,hu,i,hx,Option.map_none,cQ,j]
 rcases Nat.mod_two_eq_zero_or_one cap with h|h
 .rw[h]
  simp only[xR,wD (v:=none) (d:=0) (m:=0) (.inl ⟨rfl,rfl⟩),wD (v:=some (.int kd (m:Int))) (d:=len) (m:=m) (.inr ⟨kd,rfl⟩),wD (v:=none) (d:=cap / 2) (m:=cap / 2) (.inl ⟨rfl,rfl⟩),hb,Bool.true_or,Nat.sub_zero]
  have hc:2*(cap / 2)=cap:=by omega
  rw[hc]
  cases hq:Nat.beq (cap / 2) 0 with
  |true=>rfl
  |false=>simp[Addr.add,di]
 .rw[h]
  simp only[f,xR,wD (v:=none) (d:=0) (m:=0) (.inl ⟨rfl,rfl⟩),wD (v:=some (.int kd (m:Int))) (d:=len) (m:=m) (.inr ⟨kd,rfl⟩),wD (v:=none) (d:=cap / 2) (m:=cap / 2) (.inl ⟨rfl,rfl⟩),hb,Bool.false_or,Nat.sub_zero]
  have hc:2*(cap / 2)+1=cap:=by omega
  rw[hc]
  simp[Addr.add,di]
theorem zeL{src dst:TypeId}{x:Operand}{kd:IntKind}{a:Int}{u:TypeDesc}(hu:P.underlying src=some u)(hd:P.underlying dst=some (.int .i64))(hx:zd F x=.int kd a)(h:xc a)(k:Q (ba F d (.int .i64 a)) s):br P I ⟨d,.convert src dst x,ty,pos,af,g⟩ F s Q:=by
 refine zE (v:=.int .i64 a) (s':=s) ?_ k
 simp only[zj,vG,hu,hd,hx,Yo h]
 cases u<;>rfl
section draws
variable{ops:List Oper}{rest:List an}{ix anc:Nat}{free:List Nat}
theorem YI{s:St}{b:Nat}(h:b<zA):({next:=s.next,bar:=s.next,prot:=[],heap:=only s (some b)}:St).get b=s.get b:=by
 unfold zA at h
 show(Tr.put depth .nil b (s.get b)).get b=s.get b
 have:=Tr.get_put depth (.nil:Tr ak) b b (s.get b) (by have:(2:Nat) ^ depth=281474976710656:=U;omega)
 rw[this,aG rfl]
theorem yH{t:TypeId}{x:Operand}{b off:Nat}{c:List Value}{e:TypeId}{v:Value}(hg:zH ops ix=some ⟨d,.load t x,ty,pos,af,g⟩)(hw:ym ops F ⟨d,.load t x,ty,pos,af,g⟩=true)
 (hs:z3 P t=some none) (hx:zd F x=.pointer (some ⟨b,off,none⟩)) (a:s.get b=some (.cells c e)) (hb:b<zA) (hc:zH c off=some v) (k:yX P I ops rest (ba F d v) s Q) :
 yX P I ops (⟨ix,anc,.light,free⟩::rest) F s Q:=by
 refine za hg hw ?_
 have e1:yA F ⟨d,.load t x,ty,pos,af,g⟩=some b:=by simp only[yA,hx]
 rw[e1]
 exact ye hs hx (by rw[YI hb];exact a) hc ⟨J,k⟩
theorem ve{t:TypeId}{x:Operand}{b off m:Nat}{c:List Value}{e:TypeId}{l:List Value}(hg:zH ops ix=some ⟨d,.load t x,ty,pos,af,g⟩)(hw:ym ops F ⟨d,.load t x,ty,pos,af,g⟩=true)
 (hs:z3 P t=some (some m)) (hx:zd F x=.pointer (some ⟨b,off,none⟩)) (a:s.get b=some (.cells c e)) (hb:b<zA) (hc:y8 m (xr off c)=some l) (k:yX P I ops rest (ba F d (.agg ⟨l⟩)) s Q) :
 yX P I ops (⟨ix,anc,.light,free⟩::rest) F s Q:=by
 refine za hg hw ?_
 have e1:yA F ⟨d,.load t x,ty,pos,af,g⟩=some b:=by simp only[yA,hx]
 rw[e1]
 exact qo hs hx (by rw[YI hb];exact a) hc ⟨J,k⟩
theorem HL.wider{s1:St}{W':List Nat}{h:au}{m:Nat}{bar:Nat}{prot:List Nat}(hf:Fine s)(hb:s.bar<=bar)(hp:∀p,p∈s.prot->p∈prot)(H:HL W' {next:=s.next,bar:=bar,prot:=prot,heap:=s.heap} s1 h m) :
 HL W' s {next:=s1.next,bar:=s.bar,prot:=s.prot,heap:=s1.heap} h m:=by
 refine⟨J,J,hf.wfb,hf.wfp,H.le,H.most,λp f=>?_,H.dist,H.kept⟩
 obtain⟨h1,h2,c,j⟩:=H.own p f
 refine⟨h1,h2,?_,j⟩
 have b:s1.bar=bar:=H.bar
 have a:s1.prot=prot:=H.prot
 simp only[St.may,aF,bB,b,a]at c
 refine pA ?_ λe=>?_
 .have:=aR c.1
  show s.bar<=p.1
  omega
 .have i:=c.2
  rw[cM]at i
  apply i
  rw[dT]
  exact⟨p.1,hp _ e,eL _⟩
end draws
end
section
variable{P:Program}{I:zZ}{F:FF}{s:St}{Post:Value->St->Prop}
theorem zcM{t:TypeId}{v:Value}{b off n:Nat}{c l:List Value}{e:TypeId}(hs:z3 P t=some (some n))(hx:v=.pointer (some ⟨b,off,none⟩))(hg:s.get b=some (.cells c e))(hc:y8 n (xr off c)=some l):wc P t v s=some (.agg ⟨l⟩):=by
 subst hx
 simp only[wc,hg,hs,jv,hc]
theorem Q3(h:Post (.tuple ⟨[]⟩) s):fq P [] Post F s:=⟨h⟩
end
section
variable{P:Program}{I:zZ}{F:FF}{s:St}{Q:FF->St->Prop}{d:Option Tmp}{ty:TypeId}{pos:String}{af:Array Edge}{g:Option (Nat×Bool)}
variable{W:List Nat}{s0:St}{L:au}{n:Nat}
inductive hG(e:TypeId)(sz:Nat):au->Value->List Value->Nat->Prop
 |nil:hG e sz [] (.slice none 0 0) [] 0
 |block (b cap:Nat) (c:List Value) (len:Nat) (hl:len*sz=c.length) (hcap:cap / 2=len):hG e sz [(b,.cells c e)] (.slice (some ⟨b,0,none⟩) len cap) c len
theorem uc{D:au}{as:Array Operand}{ts:Array TypeId}{t t2 e e2:TypeId}{tr:List TypeId}{x y:Operand}{v:Value}{sz by_ m len:Nat}{z l c:List Value}(H:HL W s0 s (D++L) n)(ho:hG e sz D v c len)(hs:qg P t=some (e,sz,by_,z))(f:P.underlying t2=some (.slice e2))
 (j:ts.toList=t::t2::tr) (ha:as.toList=[x,y]) (hx:zd F x=v) (he:kQ s sz (zd F y) m l) (hm:0<m) (hp:l.all plainCell=true) (hl:l.length=m*sz) (hb:(len+m)*(by_+1)<=1073741824) (i:s0.next+n<zA)
 (k:∀b s',HL W s0 s' ((b,.cells (c++l) e)::L) (n+1)->hG e sz [(b,.cells (c++l) e)] (.slice (some ⟨b,0,none⟩) (len+m) (2*(len+m)+1)) (c++l) (len+m)->Q (ba F d (.slice (some ⟨b,0,none⟩) (len+m) (2*(len+m)+1))) s'):br P I ⟨d,.call ⟨.builtin .append,as,ts⟩,ty,pos,af,g⟩ F s Q:=by
 cases ho with
 |nil=>
  refine zap H hs f j ha hx he hm hp hl (by rw[cB]at hb;exact hb) i (λb s' h=>?_)
  have:=k b s' h
  rw[cB]at this
  exact this (.block b _ _ _ (by rw[<-hl];rfl) O)
 |block b cap c len a hcap=>
  refine KV H hs f j ha hx he a O hp hl hb i (λb s' h=>?_)
  exact k b s' h (.block b _ _ _ (by rw[aQ,<-a,hl,dM]) O)
theorem KU{as:Array Operand}{ts:Array TypeId}{t t2 e e2:TypeId}{tr:List TypeId}{x y:Operand}{sz by_ b cap len:Nat}{z c:List Value}(H:HL W s0 s ((b,.cells c e)::L) n)(hs:qg P t=some (e,sz,by_,z))(h:P.underlying t2=some (.slice e2))
 (j:ts.toList=t::t2::tr) (ha:as.toList=[x,y]) (hx:zd F x=.slice (some ⟨b,0,none⟩) len cap) (he:kQ s sz (zd F y) 0 []) (hcap:len<=cap / 2) (hlen:len*sz<=c.length) (i:s0.next+n<=zA)
 (k:∀s',HL W s0 s' ((b,.cells c e)::L) n->Q (ba F d (.slice (some ⟨b,0,none⟩) len cap)) s'):br P I ⟨d,.call ⟨.builtin .append,as,ts⟩,ty,pos,af,g⟩ F s Q:=by
 obtain⟨hu,inf,z',hi,rfl,rfl,hz,hz1,hz2⟩:=yV hs
 refine zE (v:=.slice (some ⟨b,0,none⟩) len cap) (s':=s.put b (some (.cells c e))) ?_ (k _ (H.put0 _ i))
 have hf:Nat.ble len (cap / 2)=true:=aZ hcap
 have a:=(H.own (b,.cells c e) Y8).2.2.1
 simp only at a
 have f:∀(m:Nat) (c:List Value),m<=c.length->yK m [] c=some c:=by
  intro m
  induction m with
  |zero=>intro c _;rfl
  |succ m l=>
   intro c hc
   cases c with
   |nil=>simp at hc
   |cons x c=>simp only[yK,l c (by simpa using hc)]
 simp only[zj,xn,xe,j,ha,qv,hx,hu,hi,gW h he,qc,hf,xu,cB,bM,H.own0,List.all_nil,Bool.true_and,a,f _ _ hlen]
 rfl
theorem HL.callE(H:HL W s0 s L n){s':St}{c:au}{k:Nat}(f:HL [] s s' c k):HL W s0 s' (L++c) (n+k):=by
 have h:=H.call f
 refine{h with own:=λp hp=>h.own p (by simp only[aW]at hp |-;exact hp.symm),dist:=?_}
 have hd:=h.dist
 rw[List.pairwise_append]at hd |-
 exact⟨hd.2.1,hd.1,λa ha b hb=>λe=>hd.2.2 b hb a ha e.symm⟩
theorem HL.ownA{A B:au}{b:Nat}{o:ak}(H:HL W s0 s (A++(b,o)::B) n):s.get b=some o:=(H.own (b,o) Y8).1
theorem mf{A B:au}{t:TypeId}{x v:Operand}{b off sz:Nat}{c c':List Value}{e:TypeId}{vs:List Value}(H:HL W s0 s (A++(b,.cells c e)::B) n)(hs:qV P t=some sz)(hx:zd F x=.pointer (some ⟨b,off,none⟩))(hv:yr (zd F v)=vs)
 (hl:Nat.beq (yD vs 0) sz=true) (hp:vs.all plainCell=true) (hc:yK off vs c=some c') (a:s0.next+n<=zA) (k:∀s',HL W s0 s' (A++(b,.cells c' e)::B) n->Q (ba F d undef) s'):br P I ⟨d,.store t x v,ty,pos,af,g⟩ F s Q:=
 jd (q7 hs hx hv hl hp H.ownA (H.own (b,.cells c e) Y8).2.2.1 hc) (k _ (H.putAt A _ a))
theorem ux{ops:List Oper}{rest:List an}{ix anc:Nat}{free fr:List Nat}{t:TypeId}{x v:Operand}{b off sz:Nat}{c c':List Value}{e:TypeId}{vs:List Value}(f:zH ops ix=some ⟨d,.store t x v,ty,pos,af,g⟩)(hw:ym ops F ⟨d,.store t x v,ty,pos,af,g⟩=true)
 (hs:qV P t=some sz) (hx:zd F x=.pointer (some ⟨b,off,none⟩)) (hv:yr (zd F v)=vs) (hl:Nat.beq (yD vs 0) sz=true) (hp:vs.all plainCell=true) (hg:s.get b=some (.cells c e)) (hm:s.may b=true) (hc:yK off vs c=some c')
 (a:yi ops F free=fr) (j:∀p,p∈fr->p≠b) (k:yX P I ops rest (ba F d undef) (s.put b (some (.cells c' e))) Q):yX P I ops (⟨ix,anc,.whole,free⟩::rest) F s Q:=by
 refine yw f hw ?_
 have i:({s with prot:=yi ops F free++s.prot}:St).may b=true:=by
  simp only[St.may,aF,bB,cM,ne_eq,dT,not_exists,not_and]at hm |-
  refine⟨hm.1,λp l he=>?_⟩
  rcases aW.mp l with h|h
  .rw[a]at h
   exact j p h (aK he).symm
  .exact hm.2 p h he
 exact jd (q7 (s:={s with prot:=yi ops F free++s.prot}) hs hx hv hl hp hg i hc) k
theorem vv{ops:List Oper}{rest:List an}{ix anc:Nat}{free fr:List Nat}{t:TypeId}{x v:Operand}{b off sz:Nat}{c c':List Value}{e:TypeId}{vs:List Value}(H:HL W s0 s ((b,.cells c e)::L) n)(f:zH ops ix=some ⟨d,.store t x v,ty,pos,af,g⟩)(hw:ym ops F ⟨d,.store t x v,ty,pos,af,g⟩=true)
 (hs:qV P t=some sz) (hx:zd F x=.pointer (some ⟨b,off,none⟩)) (hv:yr (zd F v)=vs) (hl:Nat.beq (yD vs 0) sz=true) (hp:vs.all plainCell=true) (hc:yK off vs c=some c')
 (a:yi ops F free=fr) (h:∀p,p∈fr->p≠b) (i:s0.next+n<=zA) (k:∀s',HL W s0 s' ((b,.cells c' e)::L) n->yX P I ops rest (ba F d undef) s' Q):yX P I ops (⟨ix,anc,.whole,free⟩::rest) F s Q:=
 ux f hw hs hx hv hl hp H.own0 (H.own (b,.cells c e) Y8).2.2.1 hc a h (k _ (H.put0 _ i))
theorem XF{i:Nat×ak}{ops:List Oper}{rest:List an}{ix anc:Nat}{free fr:List Nat}{t:TypeId}{x v:Operand}{b off sz:Nat}{c c':List Value}{e:TypeId}{vs:List Value}(H:HL W s0 s (i::(b,.cells c e)::L) n)(f:zH ops ix=some ⟨d,.store t x v,ty,pos,af,g⟩)(hw:ym ops F ⟨d,.store t x v,ty,pos,af,g⟩=true)
 (hs:qV P t=some sz) (hx:zd F x=.pointer (some ⟨b,off,none⟩)) (hv:yr (zd F v)=vs) (hl:Nat.beq (yD vs 0) sz=true) (hp:vs.all plainCell=true) (hc:yK off vs c=some c')
 (a:yi ops F free=fr) (h:∀p,p∈fr->p≠b) (j:s0.next+n<=zA) (k:∀s',HL W s0 s' (i::(b,.cells c' e)::L) n->yX P I ops rest (ba F d undef) s' Q):yX P I ops (⟨ix,anc,.whole,free⟩::rest) F s Q:=
 ux f hw hs hx hv hl hp H.own1 (H.own (b,.cells c e) Y8).2.2.1 hc a h (k _ (H.put1 _ j))
theorem XE{i p1:Nat×ak}{ops:List Oper}{rest:List an}{ix anc:Nat}{free fr:List Nat}{t:TypeId}{x v:Operand}{b off sz:Nat}{c c':List Value}{e:TypeId}{vs:List Value}(H:HL W s0 s (i::p1::(b,.cells c e)::L) n)(f:zH ops ix=some ⟨d,.store t x v,ty,pos,af,g⟩)(hw:ym ops F ⟨d,.store t x v,ty,pos,af,g⟩=true)
 (hs:qV P t=some sz) (hx:zd F x=.pointer (some ⟨b,off,none⟩)) (hv:yr (zd F v)=vs) (hl:Nat.beq (yD vs 0) sz=true) (hp:vs.all plainCell=true) (hc:yK off vs c=some c')
 (a:yi ops F free=fr) (h:∀p,p∈fr->p≠b) (j:s0.next+n<=zA) (k:∀s',HL W s0 s' (i::p1::(b,.cells c' e)::L) n->yX P I ops rest (ba F d undef) s' Q):yX P I ops (⟨ix,anc,.whole,free⟩::rest) F s Q:=
 ux f hw hs hx hv hl hp H.own2 (H.own (b,.cells c e) Y8).2.2.1 hc a h (k _ (H.put2 _ j))
theorem lr{i p1 p2:Nat×ak}{ops:List Oper}{rest:List an}{ix anc:Nat}{free fr:List Nat}{t:TypeId}{x v:Operand}{b off sz:Nat}{c c':List Value}{e:TypeId}{vs:List Value}(H:HL W s0 s (i::p1::p2::(b,.cells c e)::L) n)(f:zH ops ix=some ⟨d,.store t x v,ty,pos,af,g⟩)(hw:ym ops F ⟨d,.store t x v,ty,pos,af,g⟩=true)
 (hs:qV P t=some sz) (hx:zd F x=.pointer (some ⟨b,off,none⟩)) (hv:yr (zd F v)=vs) (hl:Nat.beq (yD vs 0) sz=true) (hp:vs.all plainCell=true) (hc:yK off vs c=some c')
 (a:yi ops F free=fr) (h:∀p,p∈fr->p≠b) (j:s0.next+n<=zA) (k:∀s',HL W s0 s' (i::p1::p2::(b,.cells c' e)::L) n->yX P I ops rest (ba F d undef) s' Q):yX P I ops (⟨ix,anc,.whole,free⟩::rest) F s Q:=
 ux f hw hs hx hv hl hp H.own3 (H.own (b,.cells c e) Y8).2.2.1 hc a h (k _ (H.put3 _ j))
theorem XI{N:Nat}{b:Code}{Q:bk->Prop}(h:aI P I N b F s (I9 P I N (.loop b) Q)):aI P I N (.loop b) F s Q:=by
 obtain⟨o,f,n,hn⟩:=h.ends
 cases o with
 |normal a s₁=>
  obtain⟨e,l,c,j⟩:=f
  refine⟨e,l,n+c+1,λm hm=>?_⟩
  obtain⟨m,rfl⟩:∃k,m=k+1:=⟨m-1,by omega⟩
  simp only[xi,hn m O]
  exact j m O
 |exit i a s₁=>
  refine⟨_,f,n+1,λm hm=>?_⟩
  obtain⟨m,rfl⟩:∃k,m=k+1:=⟨m-1,by omega⟩
  simp only[xi,hn m O]
 |ret a s₁=>
  refine⟨_,f,n+1,λm hm=>?_⟩
  obtain⟨m,rfl⟩:∃k,m=k+1:=⟨m-1,by omega⟩
  simp only[xi,hn m O]
 |stuck=>
  refine⟨_,f,n+1,λm hm=>?_⟩
  obtain⟨m,rfl⟩:∃k,m=k+1:=⟨m-1,by omega⟩
  simp only[xi,hn m O]
end
def F3(F:FF):List Tmp->List Value->FF
 |t::ts,v::vs=>F3 (ba F (some t) v) ts vs
 |_,_=>F
theorem aT.putAll{N:Nat}:∀(ts:List Tmp) (vs:List Value) {F:FF} {a:Fr},aT N F a->aT N (F3 F ts vs) (a.putAll ts vs)
 | [],_,_,_,h=>by simpa[F3,Fr.putAll]using h
 |_::_,[],_,_,h=>by simpa[F3,Fr.putAll]using h
 |t::ts,v::vs,_,_,h=>by
  simp only[F3,Fr.putAll]
  exact aT.putAll ts vs (h.put _ _)
section
variable{P:Program}{I:zZ}{N:Nat}{F:FF}{s:St}
def HF(b:Nat)(Post:Value->St->Prop):bk->Prop
 | .normal _ s=>∃v s',jS b none s=.ret v s'/\Post v s'
 | .exit id _ s=>∃v s',jS b (some (.exit id)) s=.ret v s'/\Post v s'
 | .ret _ s=>∃v s',jS b (some .ret) s=.ret v s'/\Post v s'
 | .stuck=>False
def M9(P:Program)(I:zZ)(N:Nat)(b:Nat)(body:Code)(Post:Value->St->Prop):bk->Prop
 | .normal F s=>∃lp,s.may b=true/\s.get b=some (.loop lp)/\lp.state=.ready/\aI P I N body F (s.put b (some (.loop {lp with state:=.busy}))) (HF b Post)
 |_=>False
theorem rF{b:Nat}{lp:Lp}{args:Array Value}{Post:Value->St->Prop}(hg:s.get b=some (.loop lp))(B:aT N F lp.fr)
 (hc:(xP lp.assign&&xP lp.body&&kA lp.assign&&kA lp.body&&Nat.beq (yD args.toList 0) (yD lp.params 0))=true) (q:qX N lp.assign=true) (r:qX N lp.body=true)
 (h:aI P I N lp.assign (F3 F lp.params args.toList) s (M9 P I N b lp.body Post)):∃v s',vr P I (zy+b) args s v s'/\Post v s':=by
 obtain⟨o,y,k,hk⟩:=h.ends
 cases o with
 |normal A s1=>
  obtain⟨lp',hm,f,i,hb⟩:=y
  obtain⟨z,e,t,p⟩:=hb.ends
  have j:∃v s',Post v s'/\∀m,k<=m->t<=m->Zy P I m (zy+b) args s=.ret v s':=by
   have key:∀m,k<=m->t<=m->∃c,aT N A c/\zY P I m lp.assign (lp.fr.putAll lp.params args.toList) s=.normal c s1/\XQ N z (zY P I m lp.body c (s1.put b (some (.loop {lp' with state:=.busy})))):=by
    intro m h1 h2
    have g1:=kF (P:=P) (I:=I) m lp.assign _ _ s q (B.putAll lp.params args.toList)
    rw[hk m h1]at g1
    cases l:zY P I m lp.assign (lp.fr.putAll lp.params args.toList) s with
    |normal c u=>
     rw[l]at g1
     obtain⟨rfl,ha⟩:=g1
     have g2:=kF (P:=P) (I:=I) m lp.body _ _ (u.put b (some (.loop {lp' with state:=.busy}))) r ha
     rw[p m h2]at g2
     exact⟨c,ha,J,g2⟩
    |_=>rw[l]at g1;exact g1.elim
   have run:∀m,Zy P I m (zy+b) args s=vB (zY P I m) b args s:=by
    intro m
    have h1:Nat.ble zy (zy+b)=true:=by simp
    simp only[Zy,yL,h1,eO]
   cases z with
   |normal w s2=>
    obtain⟨v,s',he,hp⟩:=e
    refine⟨v,s',hp,λm h1 h2=>?_⟩
    obtain⟨c,_,g1,g2⟩:=key m h1 h2
    rw[run]
    cases a:zY P I m lp.body c (s1.put b (some (.loop {lp' with state:=.busy})))with
    |normal x n=>rw[a]at g2;obtain⟨rfl,_⟩:=g2;simp only[vB,hg,hc,g1,hm,f,i,a,he]
    |_=>rw[a]at g2;exact g2.elim
   |exit id w s2=>
    obtain⟨v,s',he,hp⟩:=e
    refine⟨v,s',hp,λm h1 h2=>?_⟩
    obtain⟨c,_,g1,g2⟩:=key m h1 h2
    rw[run]
    cases a:zY P I m lp.body c (s1.put b (some (.loop {lp' with state:=.busy})))with
    |exit id' x n=>rw[a]at g2;obtain⟨rfl,rfl,_⟩:=g2;simp only[vB,hg,hc,g1,hm,f,i,a,he]
    |_=>rw[a]at g2;exact g2.elim
   |ret w s2=>
    obtain⟨v,s',he,hp⟩:=e
    refine⟨v,s',hp,λm h1 h2=>?_⟩
    obtain⟨c,_,g1,g2⟩:=key m h1 h2
    rw[run]
    cases a:zY P I m lp.body c (s1.put b (some (.loop {lp' with state:=.busy})))with
    |ret x n=>rw[a]at g2;obtain⟨rfl,_⟩:=g2;simp only[vB,hg,hc,g1,hm,f,i,a,he]
    |_=>rw[a]at g2;exact g2.elim
   |stuck=>exact e.elim
  obtain⟨v,s',hp,C⟩:=j
  exact⟨v,s',⟨k+t,λm hm=>C m O O⟩,hp⟩
 |_=>exact y.elim
def Nq(F:FF)(b:Nat)(Q:bk->Prop)(s:St):Prop:=
 ∃lp,s.may b=true/\s.get b=some (.loop lp)/\Ro lp.state=false/\(match lp.pend with
  |none=>Q (.normal F (s.put b (some (.loop {lp with state:=.exhausted}))))
  |some .ret=>Q (.ret F (s.put b (some (.loop {lp with state:=.exhausted}))))
  |some (.exit id)=>Q (.exit id F (s.put b (some (.loop {lp with state:=.exhausted}))))
  |_=>False)
theorem n6{f:Operand}{ps:Array Tmp}{x y:Code}{Q:bk->Prop}{g:FuncId}{as cs args:Array Value}(q:N<=65534)(hf:zd F f=.func (.func g) as cs)(hb:xE P g=true)
 (ha:(⟨as.toList++[.func (.yield s.next) ⟨[]⟩ ⟨[]⟩]++cs.toList⟩:Array Value)=args) (r:s.room=true) (l:Yv N f=true)
 (h:∀fr,aT N F fr->∃v s2,vr P I g args (s.new (.loop {fr:=fr,params:=ps.toList,assign:=x,body:=y,state:=.ready,pend:=none})) v s2/\Nq F s.next Q s2)
 (e:Nat.ble zy g=false:=by exact rfl):aI P I N (.rangeFunc f ps x y) F s Q:=by
 have i:=Vu F q
 obtain⟨v,s2,⟨k,hk⟩,lp,h1,h2,o,b⟩:=h _ i
 have j:(il F N).eval f=.func (.func g) as cs:=by rw[i.eval l,hf]
 have n:(il F N).norm=il F N:=i.norm
 have a:∀m,k<=m->kR P I (zY P I m) f ps x y (il F N) s=(match lp.pend with
  |none=>.normal (il F N) (s2.put s.next (some (.loop {lp with state:=.exhausted})))
  |some .ret=>.ret (il F N) (s2.put s.next (some (.loop {lp with state:=.exhausted})))
  |some (.exit id)=>.exit id (il F N) (s2.put s.next (some (.loop {lp with state:=.exhausted})))
  |some _=>.stuck):=by
  intro m hm
  have p:yL P I (zY P I m) g args (s.new (.loop {fr:=il F N,params:=ps.toList,assign:=x,body:=y,state:=.ready,pend:=none}))=.ret v s2:=hk m hm
  simp only[kR,r,j,n,jV,hb,ha,e,p,h1,h2,o]
  cases lp.pend with
  |none=>rfl
  |some c=>cases c<;>rfl
 cases hp:lp.pend with
 |none=>
  rw[hp]at b
  refine⟨_,b,k+1,λm hm=>?_⟩
  obtain⟨m,rfl⟩:∃k,m=k+1:=⟨m-1,by omega⟩
  simp only[xi,KH,a m O,hp]
 |some c=>
  rw[hp]at b
  cases c with
  |ret=>
   refine⟨_,b,k+1,λm hm=>?_⟩
   obtain⟨m,rfl⟩:∃k,m=k+1:=⟨m-1,by omega⟩
   simp only[xi,KH,a m O,hp]
  |exit id=>
   refine⟨_,b,k+1,λm hm=>?_⟩
   obtain⟨m,rfl⟩:∃k,m=k+1:=⟨m-1,by omega⟩
   simp only[xi,KH,a m O,hp]
  |_=>exact b.elim
end
section
variable{P:Program}{I:zZ}{F:FF}{s:St}{Q:FF->St->Prop}{d:Option Tmp}{ty:TypeId}{pos:String}{af:Array Edge}{g:Option (Nat×Bool)}
theorem pY{as:Array Operand}{ts:Array TypeId}{f:Operand}{b:Nat}{lp:Lp}{args:Array Value}(hf:zd F f=.func (.yield b) ⟨[]⟩ ⟨[]⟩)(hg:s.get b=some (.loop lp))(ha:(⟨qv (zd F) as.toList⟩:Array Value)=args)(hl:Nat.beq (yD args.toList 0) (yD lp.params 0)=true)
 (h:∃v s',vr P I (zy+b) args s v s'/\Q (ba F d v) s'):br P I ⟨d,.call ⟨.value f,as,ts⟩,ty,pos,af,g⟩ F s Q:=by
 obtain⟨v,s',⟨n,hn⟩,a⟩:=h
 subst ha
 refine⟨_,_,a,n,λm hm=>?_⟩
 have e:zj P (zd F) (Op.call ⟨.value f,as,ts⟩) s=.ok (.round b 0 ⟨qv (zd F) as.toList⟩ .skip .skip) s:=by simp only[zj,jV,hf,hg,hl]
 simp only[fJ,e,hn m hm]
end
end Go.M
