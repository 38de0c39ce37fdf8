/- Slices and what is known of them; rules for single operations: the base of the evaluator. -/
import Derived.Test.YtocnbjjmmgolfaaGreatA00
import Derived.Test.YtocnbjjmmgolfaaGreatProg
import Derived.KernelRfl
import Derived.Test.YtocnbjjmmgolfaaGreatA11
import Derived.Test.YtocnbjjmmgolfaaGreatA12
set_option linter.unusedSimpArgs false
set_option linter.unusedVariables false
set_option linter.unusedSectionVars false
namespace Go.Proofs.YtocnbjjmmgolfaaGreat
open Go Go.M Go.Proofs.C14
abbrev tI:TypeId:=3
def xm(l:List Int):List Value:=l.map (Value.int .i64)
theorem WZ{l:List Int}{k:Nat}(h:k<l.length):zF (xm l) k=some (.int .i64 (l.getD k 0)):=by
 rw[zJ];simp[xm,List.getElem?_map,aC,aE h]
inductive Sl(s:St)(e:TypeId)(sz:Nat)(v:Value)(es:List (List Value)):Prop
 |nil (c:Nat) (hv:v=.slice none 0 c) (hl:es=[]):Sl s e sz v es
 |block (b off cap:Nat) (c:List Value) (hv:v=.slice (some ⟨b,off,none⟩) es.length cap) (hg:s.get b=some (.cells c e)) (hb:b<s.next) (hcap:es.length≤cap / 2) (hc:∀k,k<es.length→y8 sz (xw (off+k*sz) c)=some (es.getD k [])):Sl s e sz v es
theorem Sl.isSlice{s:St}{e:TypeId}{sz:Nat}{v:Value}{es:List (List Value)}(h:Sl s e sz v es):∃a len cap,v=.slice a len cap∧len=es.length:=by
 cases h with
 |nil c hv hl=>exact⟨_,_,_,hv,by rw[hl];rfl⟩
 |block b off cap c hv=>exact⟨_,_,_,hv,rfl⟩
theorem Sl.kept{s s':St}{e:TypeId}{sz:Nat}{v:Value}{es:List (List Value)}{L:Hp'}{n:Nat}(h:Sl s e sz v es)(H:HL [] s s' L n):Sl s' e sz v es:=by
 cases h with
 |nil c hv hl=>exact .nil c hv hl
 |block b off cap c hv hg hb hcap hc=>exact .block b off cap c hv (H.old hb hg) (by have:=H.le;omega) hcap hc
theorem Sl.at{s:St}{e:TypeId}{sz:Nat}{a:Option Addr}{len cap:Nat}{es:List (List Value)}(h:Sl s e sz (.slice a len cap) es){i:Int}{k:Nat}(hi:i=(k:Int))(hk:k<es.length):∃b off c,a=some ⟨b,off,none⟩∧s.get b=some (.cells c e)∧b<s.next∧y8 sz (xw (off+i.toNat*sz) c)=some (es.getD k []):=by
 subst hi
 cases h with
 |nil c hv hl=>rw[hl]at hk;simp at hk
 |block b off cap c hv hg hb hcap hc=>
  cases hv
  exact⟨b,off,c,rfl,hg,hb,by simpa using hc k hk⟩
theorem YI{α β:Type}{f:α→β}{l:List α}{k:Nat}{x:β}{y:α}(h:k<l.length):(l.map f).getD k x=f (l.getD k y):=by
 simp[aC,List.getElem?_map,aE h]
theorem jF{α:Type}{l:List α}{k:Nat}{y:α}(h:k<l.length):l.getD k y∈l:=by
 simp[aC,aE h]
theorem drop_getD{α:Type}{l:List α}{k:Nat}(y:α)(h:k<l.length):l.drop k=l.getD k y::l.drop (k+1):=by
 rw[List.drop_eq_getElem_cons h];simp[aC,aE h]
def dc(x:Int):List Value:=[.int .i64 x]
abbrev SlD(s:St)(v:Value)(l:List Int):Prop:=Sl s tI 1 v (l.map dc)
theorem Sl.atD{s:St}{e:TypeId}{a:Option Addr}{len cap:Nat}{l:List Int}(h:Sl s e 1 (.slice a len cap) (l.map dc)){i:Int}{k:Nat}(hi:i=(k:Int))(hk:k<l.length):∃b off c,a=some ⟨b,off,none⟩∧s.get b=some (.cells c e)∧b<s.next∧zF c (off+i.toNat*1)=some (.int .i64 (l.getD k 0)):=by
 obtain⟨b,off,c,h1,h2,m,f⟩:=h.at hi (k:=k) (by simpa using hk)
 refine⟨b,off,c,h1,h2,m,?_⟩
 rw[YI (y:=(0:Int)) hk,y7,yU]at f
 split at f
 ·next j=>
  rw[bF]at f
  rw[bZ]at j
  have:((c.drop (off+i.toNat*1)).take 1)[0]? = (dc (l.getD k 0))[0]? :=by rw[f]
  rw[List.getElem?_take,aF Oz,dX]at this
  rw[zJ]
  simpa[dc]using this
 ·cases f
inductive SlIn(D:Hp')(v:Value)(l:List Int):Prop
 |nil (c:Nat) (hv:v=.slice none 0 c) (hl:l=[]):SlIn D v l
 |block (b off cap:Nat) (c:List Value) (hv:v=.slice (some ⟨b,off,none⟩) l.length cap) (hg:(b,.cells c tI)∈D) (hcap:l.length≤cap / 2) (hc:∀k,k<l.length→y8 1 (xw (off+k*1) c)=some (dc (l.getD k 0))):SlIn D v l
theorem SlIn.sl{D:Hp'}{v:Value}{l:List Int}(h:SlIn D v l){W:List Nat}{s0 s:St}{L:Hp'}{n:Nat}(H:HL W s0 s L n)(hs:D⊆L):SlD s v l:=by
 cases h with
 |nil c hv hl=>exact .nil c hv (by simp[hl])
 |block b off cap c hv hg hcap hc=>
  have ho:=H.own _ (hs hg)
  exact .block b off cap c (by simpa using hv) ho.1 ho.2.1 (by simpa using hcap) fun k hk=>by
   rw[bI]at hk
   rw[hc k hk,YI hk]
theorem dc_flat{l:List Int}{k:Nat}(h:k<l.length):y8 1 (xw (0+k*1) (xm l))=some (dc (l.getD k 0)):=by
 rw[y7,yU,cA,cG]
 have hl:(xm l).length=l.length:=by simp[xm]
 rw[aF (by rw[bZ];omega)]
 rw[List.drop_eq_getElem_cons Oz,List.take_succ_cons,List.take_zero]
 simp[xm,dc,aC,aE h]
theorem Own.slIn{D:Hp'}{v:Value}{l:List Int}{len:Nat}(h:Own tI 1 D v (xm l) len):len=l.length∧SlIn D v l:=by
 have hi:(xm l).length=l.length:=by simp[xm]
 generalize hc:xm l=c at h
 cases h with
 |nil=>
  have:l=[]:=by simpa[xm]using hc
  subst this
  exact⟨rfl,.nil 0 rfl rfl⟩
 |block b cap c len hl hcap=>
  subst hc
  have e:len=l.length:=by omega
  subst e
  exact⟨rfl,.block b 0 cap _ rfl Y8 Oz fun k hk=>dc_flat hk⟩
theorem WW{x:Int}:∀{o:List Int} {k:Nat},k<o.length→yO k [.int .i64 x] (xm o)=some (xm (o.set k x))
 | [],_,h=>by simp at h
 |y::o,0,_=>rfl
 |y::o,k+1,h=>by
  have:=WW (x:=x) (o:=o) (k:=k) (by simpa using h)
  simp only[xm,List.map_cons,yO]at this ⊢
  rw[this]
  rfl
theorem zex{x:Int}{o:List Int}{k m:Nat}(hk:k<o.length)(a:m=k):yO m [.int .i64 x] (xm o)=some (xm (o.set k x)):=by
 subst a;exact WW hk
inductive SlG(D:Hp')(e:TypeId)(sz:Nat)(v:Value)(es:List (List Value)):Prop
 |nil (c:Nat) (hv:v=.slice none 0 c) (hl:es=[]):SlG D e sz v es
 |block (b off cap:Nat) (c:List Value) (hv:v=.slice (some ⟨b,off,none⟩) es.length cap) (hg:(b,.cells c e)∈D) (hcap:es.length≤cap / 2) (hc:∀k,k<es.length→y8 sz (xw (off+k*sz) c)=some (es.getD k [])):SlG D e sz v es
theorem SlG.sl{D:Hp'}{e:TypeId}{sz:Nat}{v:Value}{es:List (List Value)}(h:SlG D e sz v es){W:List Nat}{s0 s:St}{L:Hp'}{n:Nat}(H:HL W s0 s L n)(hs:D⊆L):Sl s e sz v es:=by
 cases h with
 |nil c hv hl=>exact .nil c hv hl
 |block b off cap c hv hg hcap hc=>
  have ho:=H.own _ (hs hg)
  exact .block b off cap c hv ho.1 ho.2.1 hcap hc
theorem SlG.mono{D D':Hp'}{e:TypeId}{sz:Nat}{v:Value}{es:List (List Value)}(h:SlG D e sz v es)(hs:D⊆D'):SlG D' e sz v es:=by
 cases h with
 |nil c hv hl=>exact .nil c hv hl
 |block b off cap c hv hg hcap hc=>exact .block b off cap c hv (hs hg) hcap hc
theorem qU{sz:Nat}:∀{es:List (List Value)},(∀x∈es,x.length=sz)→es.flatten.length=es.length*sz
 | [],_=>by simp
 |x::es,h=>by
  rw[cU,aQ,h x Y8,qU fun y a=>h y (by simp[a]),aW,dM]
  omega
theorem Xq{sz:Nat}:∀{es:List (List Value)} (k:Nat),(∀x∈es,x.length=sz)→es.flatten.drop (k*sz)=(es.drop k).flatten
 | [],k,_=>by simp
 |x::es,0,_=>by simp
 |x::es,k+1,h=>by
  have hx:=h x Y8
  rw[cU,fA,←Xq k fun y a=>h y (by simp[a]),dM,dQ,Nat.add_comm,←List.drop_drop,←hx,List.drop_left]
theorem gm{sz:Nat}{es:List (List Value)}(h:∀x∈es,x.length=sz){k:Nat}(hk:k<es.length):y8 sz (xw (0+k*sz) es.flatten)=some (es.getD k []):=by
 rw[y7,yU,cA,Xq k h,drop_getD [] hk,cU]
 have hx:(es.getD k []).length=sz:=h _ (jF hk)
 rw[aF (by rw[aQ];omega),←hx,List.take_left]
theorem Own.slG{D:Hp'}{e:TypeId}{sz:Nat}{v:Value}{es:List (List Value)}(a:∀x∈es,x.length=sz)(h:Own e sz D v es.flatten es.length):SlG D e sz v es:=by
 generalize hc:es.flatten=c at h
 generalize hl:es.length=n at h
 cases h with
 |nil=>exact .nil 0 rfl (bO.mp hl)
 |block b cap c len hlen hcap=>
  subst hc
  refine .block b 0 cap _ (by rw[hl]) Y8 Oz fun k hk=>gm a hk
theorem _root_.Go.M.HL.perm{W:List Nat}{s0 s:St}{L a:Hp'}{n:Nat}(H:HL W s0 s L n)(h:L.Perm a):HL W s0 s a n:=
 {H with own:=fun p hp=>H.own p (h.mem_iff.mpr hp),dist:=(h.pairwise_iff (fun h=>Ne.symm h)).mp H.dist}
theorem _root_.Go.M.HL.mid{W:List Nat}{s0 s:St}{A B C:Hp'}{n:Nat}(H:HL W s0 s (A++(B++C)) n):HL W s0 s (B++(A++C)) n:=H.perm (dH A B C)
theorem _root_.Go.M.HL.mid2{W:List Nat}{s0 s:St}{A B C E:Hp'}{n:Nat}(H:HL W s0 s (A++(B++(C++E))) n):HL W s0 s (C++(A++(B++E))) n:=
 Go.M.HL.mid (Go.M.HL.perm H ((dH B C E).append_left A))
theorem ints_flat(l:List Int):xm l=(l.map dc).flatten:=by
 induction l with
 |nil=>rfl
 |cons x l a=>simp only[xm,List.map_cons,cU]at a ⊢;rw[a];rfl
theorem Vt{c:List Value}{off sz:Nat}{es:List (List Value)}(hs:0<sz)(b:∀x∈es,x.length=sz)(hc:∀k,k<es.length→y8 sz (xw (off+k*sz) c)=some (es.getD k [])):∀n,n≤es.length→(c.drop off).take (n*sz)=(es.take n).flatten∧(n=0∨off+n*sz≤c.length)
 |0,_=>by simp
 |n+1,h=>by
  obtain⟨e,_⟩:=Vt hs b hc n Oz
  have h1:=hc n Oz
  rw[y7,yU]at h1
  split at h1
  ·next a=>
   rw[bF]at h1
   rw[bZ]at a
   have hx:(es.getD n []).length=sz:=b _ (jF Oz)
   refine⟨?_,?_⟩
   ·rw[dM,dQ,List.take_add,e,List.drop_drop,h1,List.take_succ_eq_append_getElem Oz,List.flatten_append]
    simp[aC,aE (show n<es.length by omega)]
   ·right
    rw[dM,dQ]
    omega
  ·cases h1
theorem Sl.elems{s:St}{e:TypeId}{sz:Nat}{v:Value}{es:List (List Value)}(h:Sl s e sz v es)(a:∀x∈es,x.length=sz)(hs:0<sz):kS s sz v es.length es.flatten:=by
 cases h with
 |nil c hv hl=>subst hl;subst hv;exact Ji
 |block b off cap c hv hg hb hcap hc=>
  subst hv
  by_cases hn:es.length=0
  ·have:es=[]:=bO.mp hn
   subst this
   refine⟨⟨_,_,rfl⟩,?_⟩
   simp only[xQ,hg,List.length_nil,eF,y8,List.flatten_nil]
  ·obtain⟨h1,h2⟩:=Vt hs a hc es.length (aO _)
   rw[aY]at h1
   exact wX hg h1 Oz
theorem Sl.heap{s s':St}{e:TypeId}{sz:Nat}{v:Value}{es:List (List Value)}(h:Sl s e sz v es)(a:s'.heap=s.heap)(hn:s.next≤s'.next):Sl s' e sz v es:=by
 cases h with
 |nil c hv hl=>exact .nil c hv hl
 |block b off cap c hv hg hb hcap hc=>exact .block b off cap c hv (by simp only[St.get,a]at hg ⊢;exact hg) Oz hcap hc
theorem zdx{n:Nat}:∀p,p∈([]:List Nat)→p<n:=fun _ h=>by cases h
theorem jM{a n:Nat}{l:List Nat}(h:a<n)(t:∀p,p∈l→p<n):∀p,p∈a::l→p<n:=fun p hp=>(aL.mp hp).elim (fun e=>e▸h) (t p)
theorem _root_.Go.M.Fine.pr{s:St}(h:Fine s){X:List Nat}(a:∀p,p∈X→p<s.next):Fine {s with prot:=X++s.prot}:=⟨h.wfb,fun p hp=>(aU.mp hp).elim (a p) (h.wfp p)⟩
theorem _root_.Go.M.Fine.fresh{s:St}(h:Fine s):Fine {s with bar:=s.next}:=⟨aO _,h.wfp⟩
def zH(I:zU):Prop:=∀f,I f=none
theorem uW:ql Tryz.prog 22=some (3,1,8,[.int .i64 0]):=by kernel_rfl
theorem un183:Tryz.prog.underlying 183=some (.int .u64):=by kernel_rfl
theorem un3:Tryz.prog.underlying 3=some (.int .i64):=by kernel_rfl
theorem _root_.Go.M.HL.same{W:List Nat}{s0 s s':St}{L a:Hp'}{n b:Nat}(H:HL W s0 s L n)(H':HL W s0 s' a b):HL W s0 {next:=s'.next,bar:=s.bar,prot:=s.prot,heap:=s'.heap} a b:=by
 have e:({next:=s'.next,bar:=s.bar,prot:=s.prot,heap:=s'.heap}:St)=s':=by
  have h1:=H.bar.trans H'.bar.symm
  have h2:=H.prot.trans H'.prot.symm
  cases s'
  simp only at h1 h2
  rw[h1,h2]
 rw[e]
 exact H'
theorem _root_.Go.M.HL.callW{W W':List Nat}{s0 s s':St}{A L r:Hp'}{n k:Nat}(H:HL W s0 s (A++L) n)(H':HL W' s s' r k)(m:∀b,b∈W'→∃o,(b,o)∈A)(hA:∀p,p∈A→p.1∈W'):HL W s0 s' (r++L) (n+k):=by
 have hm:=H.most
 have hm':=H'.most
 have hle:=H.le
 have hle':=H'.le
 have hd:=H.dist
 rw[List.pairwise_append]at hd
 have f:∀p,p∈L→p.1∉W':=fun p hp i=>by
  obtain⟨o,ho⟩:=m _ i
  exact hd.2.2 (p.1,o) ho p hp rfl
 refine⟨H'.bar.trans H.bar,H'.prot.trans H.prot,H.wfb,H.wfp,by omega,by omega,fun p hp=>?_,?_,fun b hb i=>?_⟩
 ·rcases aU.mp hp with hp|hp
  ·obtain⟨h1,h2,j,l⟩:=H'.own p hp
   refine⟨h1,h2,j,?_⟩
   rcases l with h|h
   ·exact .inl Oz
   ·obtain⟨o,ho⟩:=m _ h
    exact(H.own (p.1,o) (by simp[ho])).2.2.2
  ·obtain⟨h1,h2,j,l⟩:=H.own p (by simp[hp])
   refine⟨by rw[H'.kept _ h2 (f p hp)];exact h1,by omega,?_,l⟩
   rw[St.may_eq H'.bar H'.prot];exact j
 ·rw[List.pairwise_append]
  refine⟨H'.dist,hd.2.1,fun a ha c hc=>?_⟩
  have h1:=(H'.own a ha).2.2.2
  have h2:=(H.own c (by simp[hc])).2.1
  rcases h1 with h|h
  ·omega
  ·intro e
   rw[e]at h
   exact f c hc h
 ·rw[H'.kept b Oz (fun q=>?_)]
  ·exact H.kept b hb i
  ·obtain⟨o,ho⟩:=m _ q
   have:=(H.own (b,o) (by simp[ho])).2.2.2
   rcases this with h|h
   ·simp only at h;omega
   ·exact i h
theorem _root_.Go.M.HL.callK{W:List Nat}{s0 s s':St}{A L a:Hp'}{n k:Nat}(H:HL W s0 s (A++L) n)(c:HL (A.map Prod.fst) s s' a k):HL W s0 s' (a++L) (n+k):=
 HL.callW H c (fun b hb=>by obtain⟨p,hp,rfl⟩:=List.mem_map.mp hb;exact⟨p.2,hp⟩) (fun p hp=>dS hp)
end Go.Proofs.YtocnbjjmmgolfaaGreat
namespace Go.M
section
variable{P:Program}{I:zU}{F:FF}{s:St}{Q:FF→St→Prop}{d:Option Tmp}{ty:TypeId}{pos:String}{af:Array Edge}{g:Option (Nat×Bool)}{W:List Nat}{s0:St}{L:Hp'}{n:Nat}
def InU(n:Int):Prop:=0≤n∧n<18446744073709551616
theorem Q7{n:Int}(h:InU n):IntKind.u64.wrap n=n:=by
 obtain⟨h1,h2⟩:=h
 have:IntKind.u64.wrap n=n % 18446744073709551616:=by
  unfold IntKind.wrap
  rfl
 rw[this]
 omega
theorem wrapU(x:Int):IntKind.u64.wrap x=x % 18446744073709551616:=by unfold IntKind.wrap;rfl
theorem XW{src dst:TypeId}{x:Operand}{kd b:IntKind}{a:Int}{u:TypeDesc}(hu:P.underlying src=some u)(hd:P.underlying dst=some (.int b))(hx:zd F x=.int kd a)(k:Q (upd F d (.int b (b.wrap a))) s):OpW P I ⟨d,.convert src dst x,ty,pos,af,g⟩ F s Q:=by
 refine zA (v:=.int b (b.wrap a)) (s':=s) ?_ k
 simp only[zh,vC,hu,hd,hx]
 cases u<;>rfl
end
end Go.M
namespace Go.Proofs.YtocnbjjmmgolfaaGreat
open Go Go.M Go.Proofs.C14
section
variable{P:Program}{I:zU}{F:FF}{s:St}{Q:FF→St→Prop}{d:Option Tmp}{ty:TypeId}{pos:String}{af:Array Edge}{g:Option (Nat×Bool)}
variable{W:List Nat}{s0:St}{L:Hp'}{n:Nat}
theorem jf{A:Hp'}{args:Array Operand}{ts:Array TypeId}{t t2 e e2:TypeId}{tr:List TypeId}{x y:Operand}{sz by_ b cap len m:Nat}{z c c' l:List Value}(H:HL W s0 s (A++(b,.cells c e)::L) n)(hs:ql P t=some (e,sz,by_,z))(h:P.underlying t2=some (.slice e2))
 (j:ts.toList=t::t2::tr) (ha:args.toList=[x,y]) (hx:zd F x=.slice (some ⟨b,0,none⟩) len cap) (he:kS s sz (zd F y) m l) (hcap:len+m≤cap / 2) (hp:l.all Go.M.plainCell=true) (f:yO (len*sz) l c=some c') (i:s0.next+n≤zw)
 (k:∀s',HL W s0 s' (A++(b,.cells c' e)::L) n→Q (upd F d (.slice (some ⟨b,0,none⟩) (len+m) cap)) s'):OpW P I ⟨d,.call ⟨.builtin .append,args,ts⟩,ty,pos,af,g⟩ F s Q:=by
 obtain⟨hu,inf,z',hi,rfl,rfl,hz,hz1,hz2⟩:=yY hs
 refine zA (v:=.slice (some ⟨b,0,none⟩) (len+m) cap) (s':=s.put b (some (.cells c' e))) ?_ (k _ (H.putAt A _ i))
 have hf:Nat.ble (len+m) (cap / 2)=true:=aZ hcap
 have a:=(H.own (b,.cells c e) Y8).2.2.1
 simp only at a
 simp only[zh,xp,xd,j,ha,qB,hx,hu,hi,Zb h he,qg,hf,xy,cA,H.ownA,hp,Bool.true_and,a,f]
 rfl
end
end Go.Proofs.YtocnbjjmmgolfaaGreat
namespace Go.Proofs.YtocnbjjmmgolfaaGreat
open Go Go.M Go.Proofs.C14
inductive Ty|int(k:IntKind)|bool|rat|sl(t w:Nat)(e:Ty)|one(a:Ty)|pair(a b:Ty)|tup(a b:Ty)|tup3(a b c:Ty)
@[reducible] def Ty.T:Ty→Type
 | .int _=>Int
 | .bool=>Bool
 | .rat=>Rat
 | .sl _ _ e=>List e.T
 | .one a=>a.T
 | .pair a b=>a.T×b.T
 | .tup a b=>a.T×b.T
 | .tup3 a b c=>a.T×b.T×c.T
abbrev Sw:=Nat→Nat→Value→List (List Value)→Prop
structure Wd where
 S:Sw
def Wd.x(W:Wd)(D:Hp'):Wd:=⟨fun t w v l=>W.S t w v l∨SlG D t w v l⟩
structure WLe(W W':Wd):Prop where
 s:∀t w v l,W.S t w v l→W'.S t w v l
structure Knw(s:St)(W:Wd):Prop where
 s:∀t w v l,W.S t w v l→Sl s t w v l
 cut:∀t w b off n cap L,W.S t w (.slice (some ⟨b,off,none⟩) n cap) L→∀lo hi cap' off',lo≤hi→hi≤L.length→hi-lo≤cap' / 2→(off'=off+lo*w∨lo=hi)→W.S t w (.slice (some ⟨b,off',none⟩) (hi-lo) cap') ((L.drop lo).take (hi-lo))
theorem SlG.cut{D:Hp'}{t w b off n cap:Nat}{L:List (List Value)}(h:SlG D t w (.slice (some ⟨b,off,none⟩) n cap) L){lo hi cap' off':Nat}(h1:lo≤hi)(h2:hi≤L.length)(a:hi-lo≤cap' / 2)(d:off'=off+lo*w∨lo=hi):SlG D t w (.slice (some ⟨b,off',none⟩) (hi-lo) cap') ((L.drop lo).take (hi-lo)):=by
 have hlen:((L.drop lo).take (hi-lo)).length=hi-lo:=by rw[bU,bZ];omega
 cases h with
 |nil c hv hl=>cases hv
 |block b' off2 cap2 c hv hg hcap hc=>
  cases hv
  refine .block b off' cap' c (by rw[hlen]) hg (by rw[hlen];exact a) fun k hk=>?_
  rw[hlen]at hk
  rcases d with rfl|rfl
  ·have:=hc (lo+k) Oz
   rw[dM,←Nat.add_assoc]at this
   rw[this]
   simp only[aC,List.getElem?_take,dX,hk,dP]
  ·omega
theorem WLe.rfl{W:Wd}:WLe W W:=⟨fun _ _ _ _ h=>h⟩
theorem WLe.trans{W W' a:Wd}(h:WLe W W')(g:WLe W' a):WLe W a:=⟨fun t w v l x=>g.s t w v l (h.s t w v l x)⟩
theorem xP{W:Wd}{D:Hp'}:WLe W (W.x D):=⟨fun _ _ _ _ h=>.inl h⟩
theorem vF{W:Wd}{D D':Hp'}(h:D⊆D'):WLe (W.x D) (W.x D'):=⟨fun _ _ _ _ x=>x.imp_right fun y=>y.mono h⟩
theorem uT{W:Wd}{A D D':Hp'}(h:A⊆D')(h2:D⊆D'):WLe ((W.x A).x D) (W.x D'):=⟨fun _ _ _ _ x=>x.elim (fun y=>y.imp_right fun z=>z.mono h) fun y=>.inr (y.mono h2)⟩
theorem Knw.heap{s s':St}{W:Wd}(h:Knw s W)(a:s'.heap=s.heap)(hn:s.next≤s'.next):Knw s' W:=⟨fun t w v l x=>(h.s t w v l x).heap a hn,h.cut⟩
theorem Knw.x{s0 s:St}{W:Wd}{L D:Hp'}{n:Nat}(h:Knw s0 W)(H:HL [] s0 s L n)(hs:D⊆L):Knw s (W.x D):=
 ⟨fun t w v l x=>x.elim (fun y=>(h.s t w v l y).kept H) fun y=>y.sl H hs,fun t w b off n cap L x lo hi cap' off' h1 h2 a c=>x.imp (fun y=>h.cut t w b off n cap L y lo hi cap' off' h1 h2 a c) fun y=>y.cut h1 h2 a c⟩
def yk(q:Rat):(Bool×List Int)×(Bool×List Int):=((decide (q.num<0),dg q.num.natAbs),(false,if q.den=1 then []else dg q.den))
def RepI(W:Wd)(c:List Value)(l:List Int):Prop:=∃a cap L,c=[.slice a l.length cap]∧W.S 3 1 (.slice a l.length cap) L∧L.length=l.length∧∀k x,l[k]? = some x→L.getD k []=[.int .i64 x]
def RepN(W:Wd)(c:List Value)(z:Bool×List Int):Prop:=∃c1 a,c=c1++a∧c1=[.bool z.1]∧RepI W a z.2
def RatC(W:Wd)(c:List Value)(z:(Bool×List Int)×(Bool×List Int)):Prop:=∃c1 a,c=c1++a∧RepN W c1 z.1∧RepN W a z.2
theorem RepN.mono{W W':Wd}(hs:WLe W W'){c:List Value}{z:Bool×List Int}(h:RepN W c z):RepN W' c z:=by
 obtain⟨c1,b,e,h1,a,cap,L,e2,h2,d⟩:=h
 exact⟨c1,b,e,h1,a,cap,L,e2,hs.s _ _ _ _ h2,d⟩
theorem RatC.mono{W W':Wd}(hs:WLe W W'){c:List Value}{z:(Bool×List Int)×(Bool×List Int)}(h:RatC W c z):RatC W' c z:=by
 obtain⟨c1,a,e,h1,h2⟩:=h
 exact⟨c1,a,e,h1.mono hs,h2.mono hs⟩
theorem RatC.cells{W:Wd}{c:List Value}{z:(Bool×List Int)×(Bool×List Int)}(h:RatC W c z):∃f d m1 c1 g e m2 b,c=[.bool f,.slice d m1 c1,.bool g,.slice e m2 b]:=by
 obtain⟨c1,b,rfl,⟨d1,d2,rfl,rfl,a,cap,L,rfl,_⟩,⟨d3,d4,rfl,rfl,a',cap',L',rfl,_⟩⟩:=h
 exact⟨_,_,_,_,_,_,_,_,rfl⟩
theorem RatC.len{W:Wd}{c:List Value}{z:(Bool×List Int)×(Bool×List Int)}(h:RatC W c z):c.length=4:=by obtain⟨_,_,_,_,_,_,_,_,rfl⟩:=h.cells;rfl
def Rep(W:Wd):(τ:Ty)→List Value→τ.T→Prop
 | .int k,c,x=>c=[.int k x]
 | .bool,c,x=>c=[.bool x]
 | .rat,c,q=>RatC W c (yk q)
 | .sl t w e,c,l=>∃a cap L,c=[.slice a l.length cap]∧W.S t w (.slice a l.length cap) L∧L.length=l.length∧∀k x,l[k]? = some x→Rep W e (L.getD k []) x
 | .one a,c,x=>Rep W a c x
 | .pair a b,c,x=>∃c1 d,c=c1++d∧Rep W a c1 x.1∧Rep W b d x.2
 | .tup _ _,_,_=>False
 | .tup3 _ _ _,_,_=>False
theorem Rep.mono{W W':Wd}(hs:WLe W W'):{τ:Ty}→{c:List Value}→{x:τ.T}→Rep W τ c x→Rep W' τ c x
 | .int _,_,_,h=>h
 | .bool,_,_,h=>h
 | .rat,_,_,h=>RatC.mono hs h
 | .sl _ _ _,_,_,⟨a,cap,L,e,h,hn,hl⟩=>⟨a,cap,L,e,hs.s _ _ _ _ h,hn,fun k x g=>Rep.mono hs (hl k x g)⟩
 | .one a,_,_,h=>Rep.mono (τ:=a) hs h
 | .pair _ _,_,_,⟨c1,b,e,h1,h2⟩=>⟨c1,b,e,Rep.mono hs h1,Rep.mono hs h2⟩
def Ty.sz:Ty→Nat
 | .int _=>1
 | .bool=>1
 | .rat=>4
 | .sl _ _ _=>1
 | .one a=>a.sz
 | .pair a b=>a.sz+b.sz
 |_=>0
theorem Rep.len{W:Wd}:{τ:Ty}→{c:List Value}→{x:τ.T}→Rep W τ c x→c.length=τ.sz
 | .int _,_,_,h=>by rw[show _=_ from h];rfl
 | .bool,_,_,h=>by rw[show _=_ from h];rfl
 | .rat,_,_,h=>RatC.len h
 | .sl _ _ _,_,_,⟨a,cap,L,e,h,hl⟩=>by rw[e];rfl
 | .one a,_,_,h=>Rep.len (τ:=a) h
 | .pair _ _,_,_,⟨c1,c2,e,h1,h2⟩=>by rw[e,aQ,Rep.len h1,Rep.len h2];rfl
theorem Rep.plain{W:Wd}:{τ:Ty}→{c:List Value}→{x:τ.T}→Rep W τ c x→c.all Go.M.plainCell=true
 | .int _,_,_,h=>by rw[show _=_ from h];rfl
 | .bool,_,_,h=>by rw[show _=_ from h];rfl
 | .rat,_,_,h=>by obtain⟨_,_,_,_,_,_,_,_,rfl⟩:=RatC.cells h;rfl
 | .sl _ _ _,_,_,⟨a,cap,L,e,h,hl⟩=>by rw[e];rfl
 | .one a,_,_,h=>Rep.plain (τ:=a) h
 | .pair _ _,_,_,⟨c1,c2,e,h1,h2⟩=>by rw[e,List.all_append,Rep.plain h1,Rep.plain h2];rfl
def RepV(W:Wd):(τ:Ty)→Value→τ.T→Prop
 | .int k,v,x=>v=.int k x
 | .bool,v,x=>v=.bool x
 | .sl t w e,v,x=>Rep W (.sl t w e) [v] x
 | .tup a b,v,x=>∃v1 v2,v=.tuple ⟨[v1,v2]⟩∧RepV W a v1 x.1∧RepV W b v2 x.2
 | .tup3 a b c,v,x=>∃v1 v2 d,v=.tuple ⟨[v1,v2,d]⟩∧RepV W a v1 x.1∧RepV W b v2 x.2.1∧RepV W c d x.2.2
 |τ,v,x=>∃c,v=.agg ⟨c⟩∧Rep W τ c x
theorem RepV.mono{W W':Wd}(hs:WLe W W'):{τ:Ty}→{v:Value}→{x:τ.T}→RepV W τ v x→RepV W' τ v x
 | .int _,_,_,h=>h
 | .bool,_,_,h=>h
 | .sl _ _ _,_,_,h=>Rep.mono hs h
 | .tup _ _,_,_,⟨v1,v2,e,h1,h2⟩=>⟨v1,v2,e,RepV.mono hs h1,RepV.mono hs h2⟩
 | .tup3 _ _ _,_,_,⟨v1,v2,b,e,h1,h2,a⟩=>⟨v1,v2,b,e,RepV.mono hs h1,RepV.mono hs h2,RepV.mono hs a⟩
 | .rat,_,_,⟨c,e,h⟩=>⟨c,e,Rep.mono hs h⟩
 | .one _,_,_,⟨c,e,h⟩=>⟨c,e,Rep.mono hs h⟩
 | .pair _ _,_,_,⟨c,e,h⟩=>⟨c,e,Rep.mono hs h⟩
def PostX(W:Wd)(s:St)(k:Nat)(τ:Ty)(r:τ.T)(v:Value)(s':St):Prop:=∃D,HL [] s s' D k∧RepV (W.x D) τ v r
abbrev zdF(W:Wd)(I:zU)(f:FuncId)(args:Array Value)(s:St)(k:Nat)(τ:Ty)(r:τ.T):Prop:=∃v' s',vo Tryz.prog I f args s v' s'∧PostX W s k τ r v' s'
instance {n:Int}:Decidable (yy n):=inferInstanceAs (Decidable (_∧_))
def dec64(x:Int):Decidable (yy x):=decidable_of_iff ((Nat.ble x.toNat 9223372036854775807&&Nat.ble (-x).toNat 9223372036854775808)=true) (by
 rw[aG,Nat.ble_eq,Nat.ble_eq];unfold yy;omega)
def i64(x:Int):Option Int:= @ite _ (yy x) (dec64 x) (some x) none
def idx{α:Type}(l:List α)(i:Int):Option α:=if 0≤i then l[i.toNat]? else none
def app{α:Type}(l m:List α):Option (List α):=if l.length+m.length≤65536 then some (l++m)else none
def zj{σ ρ:Type}(B:(σ→Option ρ)→σ→Option ρ):Nat→σ→Option ρ
 |0,_=>none
 |k+1,x=>B (zj B k) x
section
variable{W W':Wd}{a b:Ty}{c c1 c2:List Value}
theorem rat0{D:Hp'}:Rep (W.x D) .rat [.bool false,.slice none 0 0,.bool false,.slice none 0 0] (0:Rat):=
 ⟨[_,_],[_,_],rfl,⟨[_],[_],rfl,rfl,none,0,[],by rw[show(yk 0).1.2=[]from qC];rfl,by rw[show(yk 0).1.2=[]from qC];exact .inr (.nil 0 rfl rfl),by rw[show(yk 0).1.2=[]from qC];rfl,by rw[show(yk 0).1.2=[]from qC];intro k x h;simp at h⟩,[_],[_],rfl,rfl,none,0,[],rfl,.inr (.nil 0 rfl rfl),rfl,fun k x h=>by simp[yk]at h⟩
theorem sl0{D:Hp'}{t w cap:Nat}{e:Ty}:Rep (W.x D) (.sl t w e) [.slice none 0 cap] ([]:List e.T):=⟨none,cap,[],rfl,.inr (.nil cap rfl rfl),rfl,fun k x h=>by simp at h⟩
end
theorem qF{α:Type}{l:List α}{i:Int}{x:α}(h:idx l i=some x):0≤i∧i<l.length∧l[i.toNat]? = some x:=by
 unfold idx at h
 split at h
 ·next h0=>
  have:=(aM.mp h).1
  exact⟨h0,by omega,h⟩
 ·cases h
theorem wD{x y:Int}(h:i64 x=some y):y=x∧yy x:=by
 unfold i64 at h
 split at h
 ·next h0=>exact⟨(cR h).symm,h0⟩
 ·cases h
theorem gL{α:Type}{l m r:List α}(h:app l m=some r):r=l++m∧l.length+m.length≤65536:=by
 unfold app at h
 split at h
 ·next h0=>exact⟨(cR h).symm,h0⟩
 ·cases h
theorem Rep.at{W:Wd}{s:St}(f:Knw s W){t w:Nat}{e:Ty}{a:Option Addr}{n cap:Nat}{l:List e.T}(h:Rep W (.sl t w e) [.slice a n cap] l){i:Int}{x:e.T}(hi:idx l i=some x) :
 ∃b off,a=some ⟨b,off,none⟩∧0≤i∧i<n:=by
 obtain⟨a',cap',L,e1,hs,hn,hl⟩:=h
 simp only[List.cons.injEq,Value.slice.injEq,fB]at e1
 obtain⟨rfl,rfl,rfl⟩:=e1
 obtain⟨h0,h1,h2⟩:=qF hi
 obtain⟨b,off,c,rfl,_⟩:=(f.s _ _ _ _ hs).at (i:=i) (k:=i.toNat) Oz Oz
 exact⟨b,off,rfl,h0,h1⟩
theorem Rep.cells{W:Wd}{s:St}(f:Knw s W){t w:Nat}{e:Ty}{b off n cap:Nat}{l:List e.T}(h:Rep W (.sl t w e) [.slice (some ⟨b,off,none⟩) n cap] l){i:Int}{x:e.T}(hi:idx l i=some x) :
 ∃c C,s.get b=some (.cells c t)∧b<s.next∧y8 w (xw (off+i.toNat*w) c)=some C∧Rep W e C x:=by
 obtain⟨a',cap',L,e1,hs,hn,hl⟩:=h
 simp only[List.cons.injEq,Value.slice.injEq,fB]at e1
 obtain⟨rfl,rfl,rfl⟩:=e1
 obtain⟨h0,h1,h2⟩:=qF hi
 obtain⟨b',off',c,e2,hg,hb,hc⟩:=(f.s _ _ _ _ hs).at (i:=i) (k:=i.toNat) Oz Oz
 cases e2
 exact⟨c,_,hg,hb,hc,hl _ _ h2⟩
theorem J1{c L e:List Value}{n k m o:Nat}(h:y8 n (xw k c)=some L)(h2:y8 m (xw o L)=some e):y8 m (xw (k+o) c)=some e:=by
 rw[y7,yU]at h h2 ⊢
 split at h
 ·next h1=>
  cases h
  split at h2
  ·next f=>
   cases h2
   rw[bZ,bU,bZ]at f
   rw[aF (by rw[bZ];omega)]
   rw[List.drop_take,List.take_take,List.drop_drop,Nat.min_eq_left Oz]
  ·cases h2
 ·cases h
theorem WM{c L:List Value}{n k o:Nat}{v:Value}(h:y8 n (xw k c)=some L)(h2:zF L o=some v):zF c (k+o)=some v:=by
 rw[y7,yU]at h
 rw[zJ]at h2 ⊢
 split at h
 ·next h1=>
  cases h
  rw[List.getElem?_take]at h2
  split at h2
  ·rw[dX]at h2;exact h2
  ·cases h2
 ·cases h
theorem part0{c:List Value}{n k:Nat}{v:Value}{L:List Value}(h:y8 n (xw k c)=some (v::L)):zF c k=some v:=WM (o:=0) h rfl
def OwnL(W:Wd)(t w:Nat)(e:Ty)(D:Hp')(a:Option Addr)(n cap:Nat)(l:List e.T):Prop:=n=l.length∧e.sz=w∧∃L:List (List Value),L.length=l.length∧Own t w D (.slice a n cap) L.flatten n∧(∀x∈L,x.length=w)∧∀k x,l[k]? = some x→Rep W e (L.getD k []) x
theorem OwnL.nil{W:Wd}{t w:Nat}{e:Ty}(h:e.sz=w):OwnL W t w e [] none 0 0 ([]:List e.T):=⟨rfl,h,[],rfl,.nil,(fun _ h=>nomatch h),fun _ _ h=>nomatch h⟩
theorem OwnL.mono{W W':Wd}{t w:Nat}{e:Ty}{D:Hp'}{a:Option Addr}{n cap:Nat}{l:List e.T}(h:OwnL W t w e D a n cap l)(hs:WLe W W'):OwnL W' t w e D a n cap l:=by
 obtain⟨hn,j,L,h1,h2,f,i⟩:=h
 exact⟨hn,j,L,h1,h2,f,fun k x g=>(i k x g).mono hs⟩
theorem OwnL.rep{W:Wd}{t w:Nat}{e:Ty}{Φ D E:Hp'}{a:Option Addr}{n cap:Nat}{l:List e.T}(h:OwnL (W.x Φ) t w e D a n cap l)(h1:Φ⊆E)(h2:D⊆E):Rep (W.x E) (.sl t w e) [.slice a n cap] l:=by
 obtain⟨hn,hw,L,g1,g2,f,i⟩:=h
 subst hn
 exact⟨a,cap,L,rfl,.inr ((Own.slG f (g1▸g2)).mono h2),g1,fun k x g=>(i k x g).mono (vF h1)⟩
section
variable{P:Program}{I:zU}{F:FF}{s:St}{Q:FF→St→Prop}{d:Option Tmp}{ty:TypeId}{pos:String}{af:Array Edge}{g:Option (Nat×Bool)}
variable{s0:St}{L:Hp'}{n:Nat}
theorem Za{W:Wd}{t w:Nat}{e:Ty}{D:Hp'}{a:Option Addr}{len cap:Nat}{l xs r:List e.T}{ag:Array Operand}{ts:Array TypeId}{t1 t2 e2:TypeId}{tr:List TypeId}{x y:Operand}{by_ m:Nat}{z:List Value}{X:List (List Value)}(H:HL [] s0 s (D++L) n)(ho:OwnL W t w e D a len cap l)(S:app l xs=some r)
 (hs:ql P t1=some (t,w,by_,z)) (E:P.underlying t2=some (.slice e2)) (U:ts.toList=t1::t2::tr) (ha:ag.toList=[x,y]) (hx:zd F x=.slice a len cap) (he:kS s w (zd F y) m X.flatten) (R:m=X.length) (C:0<m) (G:xs.length=X.length) (q:∀k x,xs[k]? = some x→Rep W e (X.getD k []) x) (A:by_≤8000)
 (i:s0.next+n<zw)
 (k:∀a' cap' b c s',HL [] s0 s' ((b,.cells c t)::L) (n+1)→OwnL W t w e [(b,.cells c t)] a' r.length cap' r→Q (upd F d (.slice a' r.length cap')) s'):OpW P I ⟨d,.call ⟨.builtin .append,ag,ts⟩,ty,pos,af,g⟩ F s Q:=by
 obtain⟨hn,J,Y,h1,h2,N,O⟩:=ho
 obtain⟨rfl,hlen⟩:=gL S
 subst hn R
 have o:∀x∈X,x.length=w:=fun x hx=>by
  obtain⟨j,hj,rfl⟩:=List.getElem_of_mem hx
  have f:j<xs.length:=by omega
  have:=(q j xs[j] (aE f)).len
  rw[aC,aE hj]at this
  exact this.trans J
 have u:X.flatten.all Go.M.plainCell=true:=by
  rw[List.all_eq_true]
  intro v hv
  obtain⟨c,hc,hv⟩:=List.mem_flatten.mp hv
  obtain⟨j,hj,rfl⟩:=List.getElem_of_mem hc
  have f:j<xs.length:=by omega
  have:=(q j xs[j] (aE f)).plain
  rw[aC,aE hj]at this
  exact(List.all_eq_true.mp this) v hv
 refine j4 H h2 hs E U ha hx he C u (qU o) (bH (eE (show l.length+X.length≤65536 by omega) (Nat.succ_le_succ A)) Uz) i fun b s' K p=>?_
 have e1:l.length+X.length=(l++xs).length:=by rw[aQ,G]
 rw[e1]at p ⊢
 refine k _ _ b _ s' K ⟨rfl,J,Y++X,by simp[h1,G],by rw[List.flatten_append];exact p,fun x hx=>?_,fun j x hj=>?_⟩
 ·rcases aU.mp hx with h|h
  ·exact N x h
  ·exact o x h
 ·rw[aC]
  by_cases B:j<l.length
  ·rw[bY B]at hj
   rw[bY Oz,←aC]
   exact O j x hj
  ·rw[List.getElem?_append_right Oz]at hj
   rw[List.getElem?_append_right Oz,←aC,h1]
   exact q _ x hj
end
deriving instance DecidableEq for Ty
inductive Lf
 |int (k:IntKind) (x:Int)|bool (b:Bool)|rat (q:Rat)
 |sl (t w:Nat) (e:Ty) (l:List e.T)
 |nil|nilf|nilp
 |own (j:Nat)
 |ptr (j off:Nat)
 |ep (t w:Nat) (e:Ty) (x:e.T) (off:Nat)
 |op (j w:Nat) (i:Int) (off:Nat)
 |fn (f:FuncId)
 |cl (f:FuncId) (js:List Nat)
 |yl (j:Nat)
 |sp (t w:Nat) (e:Ty) (l:List e.T)
 |asl (j n:Nat)
 |unk
inductive Pv
 |undef|any|one (l:Lf)|agg (l:List Lf)|tup (l:List (Bool×List Lf))|clo (f:FuncId) (l:List Lf)
inductive Ob
 |dead|const|cells (l:List Lf)|list (t w:Nat) (e:Ty) (l:List e.T)
 |loop (N:Nat) (slots:List (Nat×Pv)) (ps:List Nat) (x y:Code) (st:LoopState) (pend:Option Code)
structure En where
 slots:List (Nat×Pv)
 objs:List Ob
structure Cx where
 slots:List (Nat×Pv)
 objs:List Ob
 n:Nat
 lent:Nat
def Lf.w:Lf→Nat
 | .rat _=>4
 |_=>1
def wid:List Lf→Nat
 | []=>0
 |x::l=>x.w+wid l
def Wz:List Lf→Nat→Option (List Lf)
 |l,0=>some l
 | [],_+1=>none
 |x::l,n+1=>match Nat.ble x.w (n+1)with
  |true=>Wz l (n+1-x.w)
  |false=>none
def zgJ:List Lf→Nat→Option (List Lf)
 |_,0=>some []
 | [],_+1=>none
 |x::l,n+1=>match Nat.ble x.w (n+1)with
  |true=>match zgJ l (n+1-x.w)with
   |some r=>some (x::r)
   |none=>none
  |false=>none
def zbU:List Lf→Nat→List Lf→Option (List Lf)
 |l,0,new=>match Wz l (wid new)with
  |some r=>some (new++r)
  |none=>none
 | [],_+1,_=>none
 |x::l,n+1,new=>match Nat.ble x.w (n+1)with
  |true=>match zbU l (n+1-x.w) new with
   |some r=>some (x::r)
   |none=>none
  |false=>none
def Zp:(τ:Ty)→τ.T→List Lf
 | .int k,x=>[.int k x]
 | .bool,x=>[.bool x]
 | .rat,x=>[.rat x]
 | .sl t w e,x=>[.sl t w e x]
 | .one a,x=>Zp a x
 | .pair a b,x=>Zp a x.1++Zp b x.2
 |_,_=>[]
def wZ{e a:Ty}(h:a=e)(l:List a.T):List e.T:=h▸l
def qh:(τ:Ty)→List Lf→Option (τ.T×List Lf)
 | .int k,.int k' x::r=>if k'=k then some (x,r)else none
 | .bool,.bool x::r=>some (x,r)
 | .rat,.rat x::r=>some (x,r)
 | .sl t w e,.sl t' w' c l::r=>if h:t'=t∧w'=w∧c=e then some (wZ h.2.2 l,r)else none
 | .sl _ _ e,.nil::r=>some (([]:List e.T),r)
 | .one a,r=>qh a r
 | .pair a b,r=>match qh a r with
  |some (x,r)=>match qh b r with
   |some (y,r)=>some ((x,y),r)
   |none=>none
  |none=>none
 |_,_=>none
def Ty.isAgg:Ty→Bool
 | .rat | .one _ | .pair _ _=>true
 |_=>false
def ve(τ:Ty)(l:List Lf):Option τ.T:=match qh τ l with
 |some (x,[])=>some x
 |_=>none
def XS(τ:Ty)(p:Bool×List Lf):Option τ.T:=match p.1==τ.isAgg with
 |true=>ve τ p.2
 |false=>none
def unQ:Pv→Option (Bool×List Lf)
 | .one l=>some (false,[l])
 | .agg l=>some (true,l)
 |_=>none
def KA:(τ:Ty)→Pv→Option τ.T
 | .tup a b,.tup [p,q]=>match XS a p,XS b q with
  |some x,some y=>some (x,y)
  |_,_=>none
 | .tup3 a b c,.tup [p,q,r]=>match XS a p,XS b q,XS c r with
  |some x,some y,some z=>some (x,y,z)
  |_,_,_=>none
 | .tup _ _,_=>none
 | .tup3 _ _ _,_=>none
 |τ,v=>match unQ v with
  |some p=>XS τ p
  |none=>none
def toQ(τ:Ty)(x:τ.T):Bool×List Lf:=(τ.isAgg,Zp τ x)
def pvQ:Bool×List Lf→Pv
 |(true,l)=>.agg l
 |(false,l)=>match l with
  | [x]=>.one x
  |_=>.tup []
def Ty.isTup:Ty→Bool
 | .tup _ _ | .tup3 _ _ _=>true
 |_=>false
def Ty.okT:Ty→Bool
 | .tup a b=> !a.isTup && !b.isTup
 | .tup3 a b c=> !a.isTup && !b.isTup && !c.isTup
 |_=>true
def toP:(τ:Ty)→τ.T→Pv
 | .tup a b,x=>.tup [toQ a x.1,toQ b x.2]
 | .tup3 a b c,x=>.tup [toQ a x.1,toQ b x.2.1,toQ c x.2.2]
 |τ,x=>pvQ (toQ τ x)
def zI(k:IntKind):List Value→Option (List Lf×List Value)
 | .int k' x::r=>if k'=k then some ([.int k x],r)else none
 |_=>none
def zB:List Value→Option (List Lf×List Value)
 | .bool x::r=>some ([.bool x],r)
 |_=>none
def zR:List Value→Option (List Lf×List Value)
 | .bool false::.slice none 0 0::.bool false::.slice none 0 0::r=>some ([.rat 0],r)
 |_=>none
def zS:List Value→Option (List Lf×List Value)
 | .slice none 0 0::r=>some ([.nil],r)
 |_=>none
def jm:Ty→List Value→Option (List Lf×List Value)
 | .int k,c=>zI k c
 | .bool,c=>zB c
 | .rat,c=>zR c
 | .sl _ _ _,c=>zS c
 | .one a,r=>jm a r
 | .pair a b,r=>match jm a r with
  |some (x,r)=>match jm b r with
   |some (y,r)=>some (x++y,r)
   |none=>none
  |none=>none
 |_,_=>none
def gN(τ:Ty)(c:List Value):Option (List Lf):=match jm τ c with
 |some (l,[])=>some l
 |_=>none
def repLf(l:List Lf):Nat→List Lf
 |0=>[]
 |n+1=>l++repLf l n
def WH(τ:Ty):Nat→List Lf→Option (List τ.T)
 |0,[]=>some []
 |n+1,l=>match qh τ l with
  |some (x,r)=>match WH τ n r with
   |some y=>some (x::y)
   |none=>none
  |none=>none
 |_,_=>none
def find{α:Type}:List (Nat×α)→Nat→Option α
 | [],_=>none
 |(t,v)::l,d=>match Nat.beq t d with
  |true=>some v
  |false=>find l d
def zcP{α:Type}:List (Nat×α)→Nat→List (Nat×α)
 | [],_=>[]
 |(t,u)::l,d=>match Nat.beq t d with
  |true=>zcP l d
  |false=>(t,u)::zcP l d
def putS{α:Type}(l:List (Nat×α))(d:Nat)(v:α):List (Nat×α):=(d,v)::zcP l d
def zE{α:Type}:List α→Nat→α→List α
 | [],_,_=>[]
 |_::l,0,y=>y::l
 |x::l,n+1,y=>x::zE l n y
def ofV:Value→Option Lf
 | .int k x=>some (.int k x)
 | .bool b=>some (.bool b)
 | .slice none 0 0=>some .nil
 | .nilFunc=>some .nilf
 | .pointer none=>some .nilp
 |_=>none
def xK{α:Type}(l:List α)(lo hi:Int):Option (List α):=if 0≤lo∧lo≤hi∧hi≤l.length∧0<l.length then some ((l.drop lo.toNat).take (hi.toNat-lo.toNat))else none
@[reducible] def Tp:List Ty→Type
 | []=>Unit
 | [a]=>a.T
 |a::b::l=>a.T×Tp (b::l)
structure Con where
 ar:List Ty
 res:Ty
 room:Nat
 fn:Tp ar→Option res.T
def rdP:(ar:List Ty)→List Pv→Option (Tp ar)
 | [],[]=>some ()
 | [a],[p]=>KA a p
 |a::b::l,p::ps=>match KA a p,rdP (b::l) ps with
  |some x,some y=>some (x,y)
  |_,_=>none
 |_,_=>none
def toPs:(ar:List Ty)→Tp ar→List Pv
 | [],_=>[]
 | [a],x=>[toP a x]
 |a::b::l,x=>toP a x.1::toPs (b::l) x.2
section
variable{ρ:Type}
def kO{α:Type}(o:Option α)(k:α→Option ρ):Option ρ:=match o with
 |some v=>k v
 |none=>none
def zfd(sh:Option (Option Nat))(off:Nat)(l:List Lf):Option Pv:=match sh with
 |some none=>match Wz l off with
  |some (x::_)=>match x.w with
   |1=>some (.one x)
   |_=>none
  |_=>none
 |some (some n)=>match Wz l off with
  |some r=>match zgJ r n with
   |some g=>some (.agg g)
   |none=>none
  |none=>none
 |none=>none
end
section
variable(C:Cx)(e:En)
def En.get(t:Nat):Option Pv:=match find e.slots t with
 |some v=>some v
 |none=>find C.slots t
def En.ev:Operand→Option Pv
 | .tmp t=>e.get C t
 | .const v=>match ofV v with
  |some l=>some (.one l)
  |none=>none
 | .func f=>some (.one (.fn f))
 | .global _=>none
def En.evs:List Operand→Option (List Pv)
 | []=>some []
 |x::l=>match e.ev C x,En.evs l with
  |some v,some vs=>some (v::vs)
  |_,_=>none
def En.obj(j:Nat):Option Ob:=match zF e.objs j with
 |some .const=>zF C.objs j
 |o=>o
def En.mark(x:Operand)(b:Bool):En:=match x with
 | .tmp t=>{e with slots:=putS e.slots t (.one (.bool b))}
 |_=>e
def En.setO(j:Nat)(o:Ob):En:={e with objs:=zE e.objs j o}
variable{ρ:Type}
def En.set(d:Option Nat)(v:Pv)(k:En→Option ρ):Option ρ:=match d with
 |none=>k e
 |some d=>match find C.slots d with
  |some _=>none
  |none=>k {e with slots:=putS e.slots d v}
def En.new(d:Option Nat)(o:Ob)(v:Nat→Lf)(k:En→Option ρ):Option ρ:=
 En.set C {e with objs:=e.objs++[o]} d (.one (v (yD e.objs 0))) k
end
def Lf.sub(l:Lf)(j:Nat)(x:Lf):Lf:=match l with
 | .own i=>match Nat.beq i j with
  |true=>x
  |false=>.own i
 |l=>l
def subL(j:Nat)(x:Lf):List Lf→List Lf
 | []=>[]
 |l::r=>l.sub j x::subL j x r
def subT(j:Nat)(x:Lf):List (Bool×List Lf)→List (Bool×List Lf)
 | []=>[]
 |(g,l)::r=>(g,subL j x l)::subT j x r
def Pv.sub(j:Nat)(x:Lf):Pv→Pv
 | .one l=>.one (l.sub j x)
 | .agg l=>.agg (subL j x l)
 | .tup l=>.tup (subT j x l)
 |p=>p
def Ob.sub(j:Nat)(x:Lf):Ob→Ob
 | .cells l=>.cells (subL j x l)
 |o=>o
def subS(j:Nat)(x:Lf):List (Nat×Pv)→List (Nat×Pv)
 | []=>[]
 |(t,p)::r=>(t,p.sub j x)::subS j x r
def zdZ(j:Nat)(x:Lf):List Ob→List Ob
 | []=>[]
 |o::r=>o.sub j x::zdZ j x r
def En.frz(C:Cx)(e:En)(j:Nat):Option En:=match zF e.objs j,Nat.ble C.lent j with
 |some (.list t w τ l),true=>some {slots:=subS j (.sl t w τ l) e.slots,objs:=zdZ j (.sl t w τ l) (zE e.objs j .dead)}
 |_,_=>none
def En.frzL(C:Cx)(e:En):List Lf→Option En
 | []=>some e
 | .own j::r=>match zF e.objs j with
  |some .dead=>En.frzL C e r
  |_=>match e.frz C j with
   |some e=>En.frzL C e r
   |none=>none
 |_::r=>En.frzL C e r
def En.frzT(C:Cx)(e:En):List (Bool×List Lf)→Option En
 | []=>some e
 |(_,l)::r=>match e.frzL C l with
  |some e=>En.frzT C e r
  |none=>none
def En.frzP(C:Cx)(e:En):List Pv→Option En
 | []=>some e
 | .tup l::r=>match e.frzT C l with
  |some e=>En.frzP C e r
  |none=>none
 | .one l::r=>match e.frzL C [l]with
  |some e=>En.frzP C e r
  |none=>none
 | .agg l::r=>match e.frzL C l with
  |some e=>En.frzP C e r
  |none=>none
 |_::r=>En.frzP C e r
section
variable(Γ:TypeId→Option Ty){ρ:Type}
noncomputable def cmpZ(o:BinOp)(a b:Int):Option Bool:=match o with
 | .lss=>some (decide (a<b))
 | .leq=>some (decide (a≤b))
 | .gtr=>some (decide (b<a))
 | .geq=>some (decide (b≤a))
 | .eql=>some (decide (a=b))
 | .neq=>some (decide (a≠b))
 |_=>none
def uZ(x:Int):Option Int:=if 0≤x∧x<18446744073709551616 then some x else none
noncomputable def binK(o:BinOp)(t:TypeId)(x y:Pv)(k:Pv→Option ρ):Option ρ:=match x,y with
 | .one (.int .i64 a),.one (.int .i64 b)=>match cmpZ o a b with
  |some c=>k (.one (.bool c))
  |none=>match o with
   | .add=>(i64 (a+b)).bind fun x=>k (.one (.int .i64 x))
   | .sub=>(i64 (a-b)).bind fun x=>k (.one (.int .i64 x))
   | .mul=>(i64 (a*b)).bind fun x=>k (.one (.int .i64 x))
   | .rem=>if b=0 then none else k (.one (.int .i64 (a.tmod b)))
   | .quo=>if b=0 then none else(i64 (a.tdiv b)).bind fun x=>k (.one (.int .i64 x))
   | .shl=>if 0≤b∧b≤64 then(i64 (a*2 ^ b.toNat)).bind fun x=>k (.one (.int .i64 x))else none
   | .shr=>if 0≤b then k (.one (.int .i64 (a.fdiv (2 ^ min b.toNat 64))))else none
   | .and=>k (.one (.int .i64 (zdq a b)))
   | .or=>k (.one (.int .i64 (orI a b)))
   |_=>none
 | .one (.int .u64 a),.one (.int .u64 b)=>match o with
  | .lss=>k (.one (.bool (decide (a<b))))
  | .eql=>k (.one (.bool (decide (a=b))))
  | .mul=>(uZ (a*b)).bind fun x=>k (.one (.int .u64 x))
  | .rem=>if b=0 then none else k (.one (.int .u64 (a.tmod b)))
  | .quo=>if b=0 then none else(uZ (a.tdiv b)).bind fun x=>k (.one (.int .u64 x))
  |_=>none
 | .one (.bool a),.one (.bool b)=>match Tryz.prog.underlying t with
  |some .bool=>match o with
   | .eql=>k (.one (.bool (a==b)))
   | .neq=>k (.one (.bool (!(a==b))))
   |_=>none
  |_=>none
 | .one (.sl _ _ _ l),.one .nil=>match o,Tryz.prog.underlying t with
  | .eql,some (.slice _)=>if 0<l.length then k (.one (.bool false))else none
  |_,_=>none
 |_,_=>none
variable(C:Cx)(e:En)
def zgk:List Lf→Option (List Nat)
 | []=>some []
 | .ptr j 0::r=>match zgk r with
  |some l=>some (j::l)
  |none=>none
 |_=>none
noncomputable def jD:Pv→Option (List Lf)
 | .one l=>some [l]
 | .agg l=>some l
 | .clo f l=>match zgk l with
  |some js=>some [.cl f js]
  |none=>none
 |_=>none
noncomputable def Je(place:Nat→Option (Nat×Nat)):List (Nat×Operand)→List Lf→Option (List Lf)
 | [],c=>some c
 |(i,x)::r,c=>match place i,e.ev C x with
  |some (off,size),some v=>match jD v with
   |some l=>match Nat.beq (wid l) size,zbU c off l with
    |true,some c=>Je place r c
    |_,_=>none
   |none=>none
  |_,_=>none
noncomputable def elK(t:TypeId):Option (TypeId×Nat×Ty×List Lf):=match ql Tryz.prog t with
 |some (a,sz,by_,z)=>match Γ a with
  |some τ=>match Nat.beq τ.sz sz&&Nat.ble by_ 8000,gN τ z with
   |true,some l=>some (a,sz,τ,l)
   |_,_=>none
  |none=>none
 |none=>none
noncomputable def zfH(t:TypeId)(parts:List (Nat×Operand)):Option Pv:=match we Tryz.prog t,Tryz.prog.underlying t,Γ t with
 |some z,some (.struct fields),some τ=>match gN τ z,fields.toList.all (fun f=>(Tryz.prog.info? f.type).isSome)with
  |some l,true=>match Je C e (je Tryz.prog fields.toList) parts l with
   |some c=>some (.agg c)
   |none=>none
  |_,_=>none
 |some z,some (.array _ a),some τ=>match gN τ z,Tryz.prog.info? a with
  |some l,some inf=>match Je C e (fun i=>some (i*inf.size,inf.size)) parts l with
   |some c=>some (.agg c)
   |none=>none
  |_,_=>none
 |_,_,_=>none
def zaz{τ:Ty}(l:List τ.T):Nat→Nat→(List Lf→Option ρ)→Option ρ
 |0,_,k=>k []
 |n+1,i,k=>(idx l (i:Int)).bind fun x=>zaz l n (i+1) fun r=>k (Zp τ x++r)
noncomputable def loadK(t:TypeId)(a:Pv)(k:Pv→Option ρ):Option ρ:=match a with
 | .one (.ptr j off)=>match e.obj C j with
  |some (.cells l)=>kO (zfd (zV Tryz.prog t) off l) k
  |_=>none
 | .one (.ep _ _ τ x off)=>kO (zfd (zV Tryz.prog t) off (Zp τ x)) k
 | .one (.op j w i off)=>match e.obj C j with
  |some (.list _ w' τ l)=>match Nat.beq w' w with
   |true=>(idx l i).bind fun x=>kO (zfd (zV Tryz.prog t) off (Zp τ x)) k
   |false=>none
  |_=>none
 | .one (.sp _ w τ l)=>match zV Tryz.prog t with
  |some (some n)=>match Nat.beq (n / w*w) n&&Nat.beq τ.sz w with
   |true=>zaz l (n / w) 0 fun c=>k (.agg c)
   |false=>none
  |_=>none
 |_=>none
noncomputable def ZU(t:TypeId)(f:Nat)(a:Pv):Option Pv:=match a,ZI Tryz.prog t f with
 | .one (.ptr j off),some n=>some (.one (.ptr j (off+n)))
 | .one (.ep t w τ x off),some n=>some (.one (.ep t w τ x (off+n)))
 | .one (.op j w i off),some n=>some (.one (.op j w i (off+n)))
 |_,_=>none
noncomputable def ZP(t:TypeId)(a i:Pv)(k:Pv→Option ρ):Option ρ:=match i,wF Tryz.prog t,a with
 | .one (.int _ i),some (true,_,sz),.one (.sl t w τ l)=>match Nat.beq w sz with
  |true=>(idx l i).bind fun x=>k (.one (.ep t w τ x 0))
  |false=>none
 | .one (.int _ i),some (true,_,sz),.one (.own j)=>match e.obj C j with
  |some (.list _ w τ l)=>match Nat.beq w sz with
   |true=>(idx l i).bind fun _=>k (.one (.op j w i 0))
   |false=>none
  |_=>none
 | .one (.int _ (.ofNat i)),some (true,_,sz),.one (.asl j n)=>match Nat.blt i n with
  |true=>k (.one (.ptr j (0+i*sz)))
  |false=>none
 | .one (.int _ (.ofNat i)),some (false,n,sz),.one (.ptr j off)=>match Nat.blt i n with
  |true=>k (.one (.ptr j (off+i*sz)))
  |false=>none
 | .one (.int _ (.ofNat i)),some (false,n,sz),.one (.ep t w τ x off)=>match Nat.blt i n with
  |true=>k (.one (.ep t w τ x (off+i*sz)))
  |false=>none
 | .one (.int _ (.ofNat i)),some (false,n,sz),.one (.op j w x off)=>match Nat.blt i n with
  |true=>k (.one (.op j w x (off+i*sz)))
  |false=>none
 |_,_,_=>none
noncomputable def aslK(t:TypeId)(a:Pv):Option Pv:=match a,Tryz.prog.underlying t with
 | .one (.ptr j 0),some (.array n b)=>match (Tryz.prog.info? b).isSome with
  |true=>some (.one (.asl j n))
  |false=>none
 |_,_=>none
noncomputable def zeP(t:TypeId)(a:Pv)(f:Nat):Option Pv:=match a,Tryz.prog.underlying t with
 | .agg l,some (.struct fields)=>match zF fields.toList f with
  |some b=>zfd (zV Tryz.prog b.type) b.offset l
  |none=>none
 |_,_=>none
noncomputable def likeK(t:TypeId)(τ:Ty):Bool:=match zV Tryz.prog t with
 |some none=> !τ.isAgg&&Nat.beq τ.sz 1
 |some (some n)=>τ.isAgg&&Nat.beq τ.sz n
 |none=>false
noncomputable def zeG(t:TypeId)(a i:Pv)(k:Pv→Option ρ):Option ρ:=match i,a,Tryz.prog.underlying t with
 | .one (.int _ i),.agg l,some (.array len b)=>match Γ b,Tryz.prog.info? b with
  |some τ,some inf=>match likeK b τ&&Nat.beq τ.sz inf.size,WH τ len l with
   |true,some xs=>(idx xs i).bind fun x=>k (pvQ (τ.isAgg,Zp τ x))
   |_,_=>none
  |_,_=>none
 |_,_,_=>none
noncomputable def lenK(t:TypeId)(a:Pv):Option Pv:=match Tryz.prog.underlying t,a with
 |some (.slice _),.one .nil=>some (.one (.int .i64 0))
 |some (.slice _),.one (.sl _ _ _ l)=>some (.one (.int .i64 (l.length:Int)))
 |some (.slice _),.one (.asl _ n)=>some (.one (.int .i64 (n:Int)))
 |some (.slice _),.one (.own j)=>match e.obj C j with
  |some (.list _ _ _ l)=>some (.one (.int .i64 (l.length:Int)))
  |_=>none
 |_,_=>none
noncomputable def Vr(a:Pv)(i:Nat):Option Pv:=match a with
 | .tup l=>match zF l i with
  |some (true,l)=>some (.agg l)
  |some (false,[x])=>some (.one x)
  |_=>none
 |_=>none
noncomputable def zha:List Operand→Option (List Lf)
 | []=>some []
 |x::r=>match e.ev C x,zha r with
  |some (.one l),some a=>some (l::a)
  |_,_=>none
noncomputable def KF(o:Op)(k:Pv→Option ρ):Option ρ:=match o with
 | .move x | .assign x=>kO (e.ev C x) k
 | .pick c a b=>match e.ev C c with
  |some (.one (.bool c))=>if c=true then kO (e.ev C a) k else kO (e.ev C b) k
  |_=>none
 | .load t x=>kO (e.ev C x) fun a=>loadK C e t a k
 | .fieldAddr t x f=>kO (e.ev C x) fun a=>kO (ZU t f a) k
 | .indexAddr t x i=>kO (e.ev C x) fun a=>kO (e.ev C i) fun i=>ZP C e t a i k
 | .field t x f=>kO (e.ev C x) fun a=>kO (zeP t a f) k
 | .index t x i=>kO (e.ev C x) fun a=>kO (e.ev C i) fun i=>zeG Γ t a i k
 | .binOp o t x y _=>kO (e.ev C x) fun a=>kO (e.ev C y) fun b=>binK o t a b k
 | .unOp .not _ x=>match e.ev C x with
  |some (.one (.bool b))=>k (.one (.bool (!b)))
  |_=>none
 | .unOp .neg _ x=>match e.ev C x with
  |some (.one (.int .i64 a))=>(i64 (0-a)).bind fun x=>k (.one (.int .i64 x))
  |some (.one (.int .u64 a))=>k (.one (.int .u64 ((0-a) % 18446744073709551616)))
  |_=>none
 | .extract x i=>kO (e.ev C x) fun a=>kO (Vr a i) k
 | .nilCheck x=>match e.ev C x with
  |some (.one (.ptr j off))=>k (.one (.ptr j off))
  |some (.one (.ep t w τ x off))=>k (.one (.ep t w τ x off))
  |some (.one (.op j w i off))=>k (.one (.op j w i off))
  |some (.one (.fn f))=>k (.one (.fn f))
  |some (.clo f l)=>k (.clo f l)
  |_=>none
 | .convert src dst x=>match Tryz.prog.underlying src,Tryz.prog.underlying dst,e.ev C x with
  |some _,some (.int .u64),some (.one (.int .i64 a))=>k (.one (.int .u64 (a % 18446744073709551616)))
  |some _,some (.int .i64),some (.one (.int .u64 a))=>(i64 a).bind fun x=>k (.one (.int .i64 x))
  |_,_,_=>none
 | .sliceToArrayPointer t x=>match Tryz.prog.underlying t,e.ev C x with
  |some (.array (n+1) _),some (.one (.sl t' w τ l))=>if ((n+1:Nat):Int)≤(l.length:Int)then k (.one (.sp t' w τ l))else none
  |_,_=>none
 | .build t parts=>kO (zfH Γ C e t parts.toList) k
 | .makeFunc (.func f) ⟨[]⟩ caps=>match zcv (.func f)with
  |false=>kO (zha C e caps.toList) fun l=>k (.clo f l)
  |true=>none
 | .call c=>match c.callee,c.argTypes.toList,c.args.toList with
  | .builtin .len,t::_,[x]=>kO (e.ev C x) fun a=>kO (lenK C e t a) k
  |_,_,_=>none
 |_=>none
end
end Go.Proofs.YtocnbjjmmgolfaaGreat
