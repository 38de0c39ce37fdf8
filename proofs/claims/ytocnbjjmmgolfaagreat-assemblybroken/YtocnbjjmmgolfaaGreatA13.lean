/- Slices and what is known of them; rules for single operations: the base of the evaluator. -/
import Derived.Test.YtocnbjjmmgolfaaGreatA00
import Derived.Test.YtocnbjjmmgolfaaGreatProg
import Derived.KernelRfl
import Derived.Test.YtocnbjjmmgolfaaGreatA11
import Derived.Test.YtocnbjjmmgolfaaGreatA12
set_option linter.unusedSimpArgs false
set_option linter.unusedVariables false
set_option linter.unusedSectionVars false
namespace Go.Proofs.YtocnbjjmmgolfaaGreat
open Go Go.M Go.Proofs.C14
abbrev tI:TypeId:=3
def xk(l:List Int):List Value:=l.map (Value.int .i64)
theorem Jl{l:List Int}{k:Nat}(h:k<l.length):zH (xk l) k=some (.int .i64 (l.getD k 0)):=by
 rw[zN];simp[xk,List.getElem?_map,aB,aE h]
inductive Sl(s:St)(e:TypeId)(sz:Nat)(v:Value)(es:List (List Value)):Prop
 |nil (c:Nat) (hv:v=.slice none 0 c) (hl:es=[]):Sl s e sz v es
 |block (b off cap:Nat) (c:List Value) (hv:v=.slice (some ⟨b,off,none⟩) es.length cap) (hg:s.get b=some (.cells c e)) (hb:b<s.next) (hcap:es.length<=cap / 2) (hc:∀k,k<es.length->y8 sz (xr (off+k*sz) c)=some (es.getD k [])):Sl s e sz v es
theorem Sl.isSlice{s:St}{e:TypeId}{sz:Nat}{v:Value}{es:List (List Value)}(h:Sl s e sz v es):∃a len cap,v=.slice a len cap/\len=es.length:=by
 cases h with
 |nil c hv hl=>exact⟨_,_,_,hv,by rw[hl];rfl⟩
 |block b off cap c hv=>exact⟨_,_,_,hv,rfl⟩
theorem Sl.kept{s s':St}{e:TypeId}{sz:Nat}{v:Value}{es:List (List Value)}{L:au}{n:Nat}(h:Sl s e sz v es)(H:HL [] s s' L n):Sl s' e sz v es:=by
 cases h with
 |nil c hv hl=>exact .nil c hv hl
 |block b off cap c hv hg hb hcap hc=>exact .block b off cap c hv (H.old hb hg) (by have:=H.le;omega) hcap hc
theorem Sl.at{s:St}{e:TypeId}{sz:Nat}{a:Option Addr}{len cap:Nat}{es:List (List Value)}(h:Sl s e sz (.slice a len cap) es){i:Int}{k:Nat}(hi:i=(k:Int))(hk:k<es.length):∃b off c,a=some ⟨b,off,none⟩/\s.get b=some (.cells c e)/\b<s.next/\y8 sz (xr (off+i.toNat*sz) c)=some (es.getD k []):=by
 subst hi
 cases h with
 |nil c hv hl=>rw[hl]at hk;simp at hk
 |block b off cap c hv hg hb hcap hc=>
  cases hv
  exact⟨b,off,c,rfl,hg,hb,by simpa using hc k hk⟩
theorem YM{α β:Type}{f:α->β}{l:List α}{k:Nat}{x:β}{y:α}(h:k<l.length):(l.map f).getD k x=f (l.getD k y):=by
 simp[aB,List.getElem?_map,aE h]
theorem jP{α:Type}{l:List α}{k:Nat}{y:α}(h:k<l.length):l.getD k y∈l:=by
 simp[aB,aE h]
theorem lx{α:Type}{l:List α}{k:Nat}(y:α)(h:k<l.length):l.drop k=l.getD k y::l.drop (k+1):=by
 rw[List.drop_eq_getElem_cons h];simp[aB,aE h]
def dc(x:Int):List Value:=[.int .i64 x]
abbrev Ld(s:St)(v:Value)(l:List Int):Prop:=Sl s tI 1 v (l.map dc)
theorem Sl.atD{s:St}{e:TypeId}{a:Option Addr}{len cap:Nat}{l:List Int}(h:Sl s e 1 (.slice a len cap) (l.map dc)){i:Int}{k:Nat}(hi:i=(k:Int))(hk:k<l.length):∃b off c,a=some ⟨b,off,none⟩/\s.get b=some (.cells c e)/\b<s.next/\zH c (off+i.toNat*1)=some (.int .i64 (l.getD k 0)):=by
 obtain⟨b,off,c,h1,h2,j,f⟩:=h.at hi (k:=k) (by simpa using hk)
 refine⟨b,off,c,h1,h2,j,?_⟩
 rw[YM (y:=(0:Int)) hk,y7,yR]at f
 split at f
 .next hle=>
  rw[bH]at f
  rw[bZ]at hle
  have:((c.drop (off+i.toNat*1)).take 1)[0]? = (dc (l.getD k 0))[0]? :=by rw[f]
  rw[List.getElem?_take,aG Oz,dV]at this
  rw[zN]
  simpa[dc]using this
 .cases f
inductive nq(D:au)(v:Value)(l:List Int):Prop
 |nil (c:Nat) (hv:v=.slice none 0 c) (hl:l=[]):nq D v l
 |block (b off cap:Nat) (c:List Value) (hv:v=.slice (some ⟨b,off,none⟩) l.length cap) (hg:(b,.cells c tI)∈D) (hcap:l.length<=cap / 2) (hc:∀k,k<l.length->y8 1 (xr (off+k*1) c)=some (dc (l.getD k 0))):nq D v l
theorem nq.sl{D:au}{v:Value}{l:List Int}(h:nq D v l){W:List Nat}{s0 s:St}{L:au}{n:Nat}(H:HL W s0 s L n)(hs:D⊆L):Ld s v l:=by
 cases h with
 |nil c hv hl=>exact .nil c hv (by simp[hl])
 |block b off cap c hv hg hcap hc=>
  have ho:=H.own _ (hs hg)
  exact .block b off cap c (by simpa using hv) ho.1 ho.2.1 (by simpa using hcap) λk hk=>by
   rw[bI]at hk
   rw[hc k hk,YM hk]
theorem Ap{l:List Int}{k:Nat}(h:k<l.length):y8 1 (xr (0+k*1) (xk l))=some (dc (l.getD k 0)):=by
 rw[y7,yR,cB,cG]
 have hl:(xk l).length=l.length:=by simp[xk]
 rw[aG (by rw[bZ];omega)]
 rw[List.drop_eq_getElem_cons Oz,List.take_succ_cons,List.take_zero]
 simp[xk,dc,aB,aE h]
theorem hG.slIn{D:au}{v:Value}{l:List Int}{len:Nat}(h:hG tI 1 D v (xk l) len):len=l.length/\nq D v l:=by
 have hi:(xk l).length=l.length:=by simp[xk]
 generalize hc:xk l=c at h
 cases h with
 |nil=>
  have:l=[]:=by simpa[xk]using hc
  subst this
  exact⟨rfl,.nil 0 rfl rfl⟩
 |block b cap c len hl hcap=>
  subst hc
  have e:len=l.length:=by omega
  subst e
  exact⟨rfl,.block b 0 cap _ rfl Y8 Oz λk hk=>Ap hk⟩
theorem Jg{x:Int}:∀{o:List Int} {k:Nat},k<o.length->yK k [.int .i64 x] (xk o)=some (xk (o.set k x))
 | [],_,h=>by simp at h
 |y::o,0,_=>rfl
 |y::o,k+1,h=>by
  have:=Jg (x:=x) (o:=o) (k:=k) (by simpa using h)
  simp only[xk,List.map_cons,yK]at this |-
  rw[this]
  rfl
theorem zeU{x:Int}{o:List Int}{k m:Nat}(hk:k<o.length)(hm:m=k):yK m [.int .i64 x] (xk o)=some (xk (o.set k x)):=by
 subst hm;exact Jg hk
inductive gq(D:au)(e:TypeId)(sz:Nat)(v:Value)(es:List (List Value)):Prop
 |nil (c:Nat) (hv:v=.slice none 0 c) (hl:es=[]):gq D e sz v es
 |block (b off cap:Nat) (c:List Value) (hv:v=.slice (some ⟨b,off,none⟩) es.length cap) (hg:(b,.cells c e)∈D) (hcap:es.length<=cap / 2) (hc:∀k,k<es.length->y8 sz (xr (off+k*sz) c)=some (es.getD k [])):gq D e sz v es
theorem gq.sl{D:au}{e:TypeId}{sz:Nat}{v:Value}{es:List (List Value)}(h:gq D e sz v es){W:List Nat}{s0 s:St}{L:au}{n:Nat}(H:HL W s0 s L n)(hs:D⊆L):Sl s e sz v es:=by
 cases h with
 |nil c hv hl=>exact .nil c hv hl
 |block b off cap c hv hg hcap hc=>
  have ho:=H.own _ (hs hg)
  exact .block b off cap c hv ho.1 ho.2.1 hcap hc
theorem gq.mono{D D':au}{e:TypeId}{sz:Nat}{v:Value}{es:List (List Value)}(h:gq D e sz v es)(hs:D⊆D'):gq D' e sz v es:=by
 cases h with
 |nil c hv hl=>exact .nil c hv hl
 |block b off cap c hv hg hcap hc=>exact .block b off cap c hv (hs hg) hcap hc
theorem qQ{sz:Nat}:∀{es:List (List Value)},(∀x∈es,x.length=sz)->es.flatten.length=es.length*sz
 | [],_=>by simp
 |x::es,h=>by
  rw[cT,aQ,h x Y8,qQ λy a=>h y (by simp[a]),aU,dM]
  omega
theorem Xy{sz:Nat}:∀{es:List (List Value)} (k:Nat),(∀x∈es,x.length=sz)->es.flatten.drop (k*sz)=(es.drop k).flatten
 | [],k,_=>by simp
 |x::es,0,_=>by simp
 |x::es,k+1,h=>by
  have hx:=h x Y8
  rw[cT,eX,<-Xy k λy a=>h y (by simp[a]),dM,eG,Nat.add_comm,<-List.drop_drop,<-hx,List.drop_left]
theorem gl{sz:Nat}{es:List (List Value)}(h:∀x∈es,x.length=sz){k:Nat}(hk:k<es.length):y8 sz (xr (0+k*sz) es.flatten)=some (es.getD k []):=by
 rw[y7,yR,cB,Xy k h,lx [] hk,cT]
 have hx:(es.getD k []).length=sz:=h _ (jP hk)
 rw[aG (by rw[aQ];omega),<-hx,List.take_left]
theorem hG.slG{D:au}{e:TypeId}{sz:Nat}{v:Value}{es:List (List Value)}(a:∀x∈es,x.length=sz)(h:hG e sz D v es.flatten es.length):gq D e sz v es:=by
 generalize hc:es.flatten=c at h
 generalize hl:es.length=n at h
 cases h with
 |nil=>exact .nil 0 rfl (bV.mp hl)
 |block b cap c len hlen hcap=>
  subst hc
  refine .block b 0 cap _ (by rw[hl]) Y8 Oz λk hk=>gl a hk
theorem _root_.Go.M.HL.perm{W:List Nat}{s0 s:St}{L a:au}{n:Nat}(H:HL W s0 s L n)(h:L.Perm a):HL W s0 s a n:=
 {H with own:=λp hp=>H.own p (h.mem_iff.mpr hp),dist:=(h.pairwise_iff (λh=>Ne.symm h)).mp H.dist}
theorem _root_.Go.M.HL.mid{W:List Nat}{s0 s:St}{A B C:au}{n:Nat}(H:HL W s0 s (A++(B++C)) n):HL W s0 s (B++(A++C)) n:=H.perm (dG A B C)
theorem _root_.Go.M.HL.mid2{W:List Nat}{s0 s:St}{A B C E:au}{n:Nat}(H:HL W s0 s (A++(B++(C++E))) n):HL W s0 s (C++(A++(B++E))) n:=
 Go.M.HL.mid (Go.M.HL.perm H ((dG B C E).append_left A))
theorem lJ(l:List Int):xk l=(l.map dc).flatten:=by
 induction l with
 |nil=>rfl
 |cons x l a=>simp only[xk,List.map_cons,cT]at a |-;rw[a];rfl
theorem VB{c:List Value}{off sz:Nat}{es:List (List Value)}(hs:0<sz)(a:∀x∈es,x.length=sz)(hc:∀k,k<es.length->y8 sz (xr (off+k*sz) c)=some (es.getD k [])):∀n,n<=es.length->(c.drop off).take (n*sz)=(es.take n).flatten/\(n=0\/off+n*sz<=c.length)
 |0,_=>by simp
 |n+1,h=>by
  obtain⟨b,_⟩:=VB hs a hc n Oz
  have h1:=hc n Oz
  rw[y7,yR]at h1
  split at h1
  .next hle=>
   rw[bH]at h1
   rw[bZ]at hle
   have hx:(es.getD n []).length=sz:=a _ (jP Oz)
   refine⟨?_,?_⟩
   .rw[dM,eG,List.take_add,b,List.drop_drop,h1,List.take_succ_eq_append_getElem Oz,List.flatten_append]
    simp[aB,aE (show n<es.length by omega)]
   .right
    rw[dM,eG]
    omega
  .cases h1
theorem Sl.elems{s:St}{e:TypeId}{sz:Nat}{v:Value}{es:List (List Value)}(h:Sl s e sz v es)(a:∀x∈es,x.length=sz)(hs:0<sz):kQ s sz v es.length es.flatten:=by
 cases h with
 |nil c hv hl=>subst hl;subst hv;exact JA
 |block b off cap c hv hg hb hcap hc=>
  subst hv
  by_cases hn:es.length=0
  .have:es=[]:=bV.mp hn
   subst this
   refine⟨⟨_,_,rfl⟩,?_⟩
   simp only[xM,hg,List.length_nil,eF,y8,List.flatten_nil]
  .obtain⟨h1,h2⟩:=VB hs a hc es.length (aN _)
   rw[bE]at h1
   exact ji hg h1 Oz
theorem Sl.heap{s s':St}{e:TypeId}{sz:Nat}{v:Value}{es:List (List Value)}(h:Sl s e sz v es)(a:s'.heap=s.heap)(hn:s.next<=s'.next):Sl s' e sz v es:=by
 cases h with
 |nil c hv hl=>exact .nil c hv hl
 |block b off cap c hv hg hb hcap hc=>exact .block b off cap c hv (by simp only[St.get,a]at hg |-;exact hg) Oz hcap hc
theorem F8{n:Nat}:∀p,p∈([]:List Nat)->p<n:=λ_ h=>by cases h
theorem Zp{a n:Nat}{l:List Nat}(h:a<n)(t:∀p,p∈l->p<n):∀p,p∈a::l->p<n:=λp hp=>(aJ.mp hp).elim (λe=>e▸h) (t p)
theorem _root_.Go.M.Fine.pr{s:St}(h:Fine s){X:List Nat}(a:∀p,p∈X->p<s.next):Fine {s with prot:=X++s.prot}:=⟨h.wfb,λp hp=>(aW.mp hp).elim (a p) (h.wfp p)⟩
theorem _root_.Go.M.Fine.fresh{s:St}(h:Fine s):Fine {s with bar:=s.next}:=⟨aN _,h.wfp⟩
def zx(I:zZ):Prop:=∀f,I f=none
theorem uW:qg Tryz.prog 22=some (3,1,8,[.int .i64 0]):=by kernel_rfl
theorem P3:Tryz.prog.underlying 183=some (.int .u64):=by kernel_rfl
theorem un3:Tryz.prog.underlying 3=some (.int .i64):=by kernel_rfl
theorem _root_.Go.M.HL.same{W:List Nat}{s0 s s':St}{L a:au}{n b:Nat}(H:HL W s0 s L n)(H':HL W s0 s' a b):HL W s0 {next:=s'.next,bar:=s.bar,prot:=s.prot,heap:=s'.heap} a b:=by
 have e:({next:=s'.next,bar:=s.bar,prot:=s.prot,heap:=s'.heap}:St)=s':=by
  have h1:=H.bar.trans H'.bar.symm
  have h2:=H.prot.trans H'.prot.symm
  cases s'
  simp only at h1 h2
  rw[h1,h2]
 rw[e]
 exact H'
theorem _root_.Go.M.HL.callW{W W':List Nat}{s0 s s':St}{A L q:au}{n k:Nat}(H:HL W s0 s (A++L) n)(H':HL W' s s' q k)(l:∀b,b∈W'->∃o,(b,o)∈A)(hA:∀p,p∈A->p.1∈W'):HL W s0 s' (q++L) (n+k):=by
 have hm:=H.most
 have hm':=H'.most
 have hle:=H.le
 have hle':=H'.le
 have hd:=H.dist
 rw[List.pairwise_append]at hd
 have f:∀p,p∈L->p.1∉W':=λp hp hw=>by
  obtain⟨o,ho⟩:=l _ hw
  exact hd.2.2 (p.1,o) ho p hp rfl
 refine⟨H'.bar.trans H.bar,H'.prot.trans H.prot,H.wfb,H.wfp,by omega,by omega,λp hp=>?_,?_,λb hb hw=>?_⟩
 .rcases aW.mp hp with hp|hp
  .obtain⟨h1,h2,i,j⟩:=H'.own p hp
   refine⟨h1,h2,i,?_⟩
   rcases j with h|h
   .exact .inl Oz
   .obtain⟨o,ho⟩:=l _ h
    exact(H.own (p.1,o) (by simp[ho])).2.2.2
  .obtain⟨h1,h2,i,j⟩:=H.own p (by simp[hp])
   refine⟨by rw[H'.kept _ h2 (f p hp)];exact h1,by omega,?_,j⟩
   rw[St.may_eq H'.bar H'.prot];exact i
 .rw[List.pairwise_append]
  refine⟨H'.dist,hd.2.1,λa ha c hc=>?_⟩
  have h1:=(H'.own a ha).2.2.2
  have h2:=(H.own c (by simp[hc])).2.1
  rcases h1 with h|h
  .omega
  .intro e
   rw[e]at h
   exact f c hc h
 .rw[H'.kept b Oz (λm=>?_)]
  .exact H.kept b hb hw
  .obtain⟨o,ho⟩:=l _ m
   have:=(H.own (b,o) (by simp[ho])).2.2.2
   rcases this with h|h
   .simp only at h;omega
   .exact hw h
theorem _root_.Go.M.HL.callK{W:List Nat}{s0 s s':St}{A L a:au}{n k:Nat}(H:HL W s0 s (A++L) n)(c:HL (A.map Prod.fst) s s' a k):HL W s0 s' (a++L) (n+k):=
 HL.callW H c (λb hb=>by obtain⟨p,hp,rfl⟩:=List.mem_map.mp hb;exact⟨p.2,hp⟩) (λp hp=>eY hp)
end Go.Proofs.YtocnbjjmmgolfaaGreat
namespace Go.M
section
variable{P:Program}{I:zZ}{F:FF}{s:St}{Q:FF->St->Prop}{d:Option Tmp}{ty:TypeId}{pos:String}{af:Array Edge}{g:Option (Nat×Bool)}{W:List Nat}{s0:St}{L:au}{n:Nat}
def LD(n:Int):Prop:=0<=n/\n<18446744073709551616
theorem Kk{n:Int}(h:LD n):IntKind.u64.wrap n=n:=by
 obtain⟨h1,h2⟩:=h
 have:IntKind.u64.wrap n=n % 18446744073709551616:=by
  unfold IntKind.wrap
  rfl
 rw[this]
 omega
theorem FD(x:Int):IntKind.u64.wrap x=x % 18446744073709551616:=by unfold IntKind.wrap;rfl
theorem X3{src dst:TypeId}{x:Operand}{kd b:IntKind}{a:Int}{u:TypeDesc}(hu:P.underlying src=some u)(hd:P.underlying dst=some (.int b))(hx:zd F x=.int kd a)(k:Q (ba F d (.int b (b.wrap a))) s):br P I ⟨d,.convert src dst x,ty,pos,af,g⟩ F s Q:=by
 refine zE (v:=.int b (b.wrap a)) (s':=s) ?_ k
 simp only[zj,vG,hu,hd,hx]
 cases u<;>rfl
end
end Go.M
namespace Go.Proofs.YtocnbjjmmgolfaaGreat
open Go Go.M Go.Proofs.C14
section
variable{P:Program}{I:zZ}{F:FF}{s:St}{Q:FF->St->Prop}{d:Option Tmp}{ty:TypeId}{pos:String}{af:Array Edge}{g:Option (Nat×Bool)}
variable{W:List Nat}{s0:St}{L:au}{n:Nat}
theorem jq{A:au}{args:Array Operand}{ts:Array TypeId}{t t2 e e2:TypeId}{tr:List TypeId}{x y:Operand}{sz by_ b cap len m:Nat}{z c c' l:List Value}(H:HL W s0 s (A++(b,.cells c e)::L) n)(hs:qg P t=some (e,sz,by_,z))(h:P.underlying t2=some (.slice e2))
 (j:ts.toList=t::t2::tr) (ha:args.toList=[x,y]) (hx:zd F x=.slice (some ⟨b,0,none⟩) len cap) (he:kQ s sz (zd F y) m l) (hcap:len+m<=cap / 2) (hp:l.all Go.M.plainCell=true) (f:yK (len*sz) l c=some c') (i:s0.next+n<=zA)
 (k:∀s',HL W s0 s' (A++(b,.cells c' e)::L) n->Q (ba F d (.slice (some ⟨b,0,none⟩) (len+m) cap)) s'):br P I ⟨d,.call ⟨.builtin .append,args,ts⟩,ty,pos,af,g⟩ F s Q:=by
 obtain⟨hu,inf,z',hi,rfl,rfl,hz,hz1,hz2⟩:=yV hs
 refine zE (v:=.slice (some ⟨b,0,none⟩) (len+m) cap) (s':=s.put b (some (.cells c' e))) ?_ (k _ (H.putAt A _ i))
 have hf:Nat.ble (len+m) (cap / 2)=true:=aZ hcap
 have a:=(H.own (b,.cells c e) Y8).2.2.1
 simp only at a
 simp only[zj,xn,xe,j,ha,qv,hx,hu,hi,gW h he,qc,hf,xu,cB,H.ownA,hp,Bool.true_and,a,f]
 rfl
end
end Go.Proofs.YtocnbjjmmgolfaaGreat
namespace Go.Proofs.YtocnbjjmmgolfaaGreat
open Go Go.M Go.Proofs.C14
inductive Ty|int(k:IntKind)|bool|rat|sl(t w:Nat)(e:Ty)|one(a:Ty)|pair(a b:Ty)|tup(a b:Ty)|tup3(a b c:Ty)
@[reducible] def Ty.T:Ty->Type
 | .int _=>Int
 | .bool=>Bool
 | .rat=>Rat
 | .sl _ _ e=>List e.T
 | .one a=>a.T
 | .pair a b=>a.T×b.T
 | .tup a b=>a.T×b.T
 | .tup3 a b c=>a.T×b.T×c.T
abbrev Sw:=Nat->Nat->Value->List (List Value)->Prop
structure Wd where
 S:Sw
def Wd.x(W:Wd)(D:au):Wd:=⟨λt w v l=>W.S t w v l\/gq D t w v l⟩
structure cu(W W':Wd):Prop where
 s:∀t w v l,W.S t w v l->W'.S t w v l
structure et(s:St)(W:Wd):Prop where
 s:∀t w v l,W.S t w v l->Sl s t w v l
 cut:∀t w b off n cap L,W.S t w (.slice (some ⟨b,off,none⟩) n cap) L->∀lo hi cap' off',lo<=hi->hi<=L.length->hi-lo<=cap' / 2->(off'=off+lo*w\/lo=hi)->W.S t w (.slice (some ⟨b,off',none⟩) (hi-lo) cap') ((L.drop lo).take (hi-lo))
theorem gq.cut{D:au}{t w b off n cap:Nat}{L:List (List Value)}(h:gq D t w (.slice (some ⟨b,off,none⟩) n cap) L){lo hi a off':Nat}(h1:lo<=hi)(h2:hi<=L.length)(d:hi-lo<=a / 2)(e:off'=off+lo*w\/lo=hi):gq D t w (.slice (some ⟨b,off',none⟩) (hi-lo) a) ((L.drop lo).take (hi-lo)):=by
 have hlen:((L.drop lo).take (hi-lo)).length=hi-lo:=by rw[bX,bZ];omega
 cases h with
 |nil c hv hl=>cases hv
 |block b' off2 cap2 c hv hg hcap hc=>
  cases hv
  refine .block b off' a c (by rw[hlen]) hg (by rw[hlen];exact d) λk hk=>?_
  rw[hlen]at hk
  rcases e with rfl|rfl
  .have:=hc (lo+k) Oz
   rw[dM,<-Nat.add_assoc]at this
   rw[this]
   simp only[aB,List.getElem?_take,dV,hk,dQ]
  .omega
theorem cu.rfl{W:Wd}:cu W W:=⟨λ_ _ _ _ h=>h⟩
theorem cu.trans{W W' a:Wd}(h:cu W W')(g:cu W' a):cu W a:=⟨λt w v l x=>g.s t w v l (h.s t w v l x)⟩
theorem xJ{W:Wd}{D:au}:cu W (W.x D):=⟨λ_ _ _ _ h=>.inl h⟩
theorem vK{W:Wd}{D D':au}(h:D⊆D'):cu (W.x D) (W.x D'):=⟨λ_ _ _ _ x=>x.imp_right λy=>y.mono h⟩
theorem uV{W:Wd}{A D D':au}(h:A⊆D')(h2:D⊆D'):cu ((W.x A).x D) (W.x D'):=⟨λ_ _ _ _ x=>x.elim (λy=>y.imp_right λz=>z.mono h) λy=>.inr (y.mono h2)⟩
theorem et.heap{s s':St}{W:Wd}(h:et s W)(a:s'.heap=s.heap)(hn:s.next<=s'.next):et s' W:=⟨λt w v l x=>(h.s t w v l x).heap a hn,h.cut⟩
theorem et.x{s0 s:St}{W:Wd}{L D:au}{n:Nat}(h:et s0 W)(H:HL [] s0 s L n)(hs:D⊆L):et s (W.x D):=
 ⟨λt w v l x=>x.elim (λy=>(h.s t w v l y).kept H) λy=>y.sl H hs,λt w b off n cap L x lo hi a off' h1 h2 c d=>x.imp (λy=>h.cut t w b off n cap L y lo hi a off' h1 h2 c d) λy=>y.cut h1 h2 c d⟩
def yg(q:Rat):(Bool×List Int)×(Bool×List Int):=((decide (q.num<0),dg q.num.natAbs),(false,if q.den=1 then []else dg q.den))
def SR(W:Wd)(c:List Value)(l:List Int):Prop:=∃a cap L,c=[.slice a l.length cap]/\W.S 3 1 (.slice a l.length cap) L/\L.length=l.length/\∀k x,l[k]? = some x->L.getD k []=[.int .i64 x]
def nm(W:Wd)(c:List Value)(z:Bool×List Int):Prop:=∃c1 a,c=c1++a/\c1=[.bool z.1]/\SR W a z.2
def eZ(W:Wd)(c:List Value)(z:(Bool×List Int)×(Bool×List Int)):Prop:=∃c1 a,c=c1++a/\nm W c1 z.1/\nm W a z.2
theorem nm.mono{W W':Wd}(hs:cu W W'){c:List Value}{z:Bool×List Int}(h:nm W c z):nm W' c z:=by
 obtain⟨c1,b,e,h1,a,cap,L,e2,h2,d⟩:=h
 exact⟨c1,b,e,h1,a,cap,L,e2,hs.s _ _ _ _ h2,d⟩
theorem eZ.mono{W W':Wd}(hs:cu W W'){c:List Value}{z:(Bool×List Int)×(Bool×List Int)}(h:eZ W c z):eZ W' c z:=by
 obtain⟨c1,a,e,h1,h2⟩:=h
 exact⟨c1,a,e,h1.mono hs,h2.mono hs⟩
theorem eZ.cells{W:Wd}{c:List Value}{z:(Bool×List Int)×(Bool×List Int)}(h:eZ W c z):∃f d m1 c1 g e m2 b,c=[.bool f,.slice d m1 c1,.bool g,.slice e m2 b]:=by
 obtain⟨c1,b,rfl,⟨d1,d2,rfl,rfl,a,cap,L,rfl,_⟩,⟨d3,d4,rfl,rfl,a',cap',L',rfl,_⟩⟩:=h
 exact⟨_,_,_,_,_,_,_,_,rfl⟩
theorem eZ.len{W:Wd}{c:List Value}{z:(Bool×List Int)×(Bool×List Int)}(h:eZ W c z):c.length=4:=by obtain⟨_,_,_,_,_,_,_,_,rfl⟩:=h.cells;rfl
def ax(W:Wd):(τ:Ty)->List Value->τ.T->Prop
 | .int k,c,x=>c=[.int k x]
 | .bool,c,x=>c=[.bool x]
 | .rat,c,q=>eZ W c (yg q)
 | .sl t w e,c,l=>∃a cap L,c=[.slice a l.length cap]/\W.S t w (.slice a l.length cap) L/\L.length=l.length/\∀k x,l[k]? = some x->ax W e (L.getD k []) x
 | .one a,c,x=>ax W a c x
 | .pair a b,c,x=>∃c1 d,c=c1++d/\ax W a c1 x.1/\ax W b d x.2
 | .tup _ _,_,_=>False
 | .tup3 _ _ _,_,_=>False
theorem ax.mono{W W':Wd}(hs:cu W W'):{τ:Ty}->{c:List Value}->{x:τ.T}->ax W τ c x->ax W' τ c x
 | .int _,_,_,h=>h
 | .bool,_,_,h=>h
 | .rat,_,_,h=>eZ.mono hs h
 | .sl _ _ _,_,_,⟨a,cap,L,e,h,hn,hl⟩=>⟨a,cap,L,e,hs.s _ _ _ _ h,hn,λk x g=>ax.mono hs (hl k x g)⟩
 | .one a,_,_,h=>ax.mono (τ:=a) hs h
 | .pair _ _,_,_,⟨c1,b,e,h1,h2⟩=>⟨c1,b,e,ax.mono hs h1,ax.mono hs h2⟩
def Ty.sz:Ty->Nat
 | .int _=>1
 | .bool=>1
 | .rat=>4
 | .sl _ _ _=>1
 | .one a=>a.sz
 | .pair a b=>a.sz+b.sz
 |_=>0
theorem ax.len{W:Wd}:{τ:Ty}->{c:List Value}->{x:τ.T}->ax W τ c x->c.length=τ.sz
 | .int _,_,_,h=>by rw[show _=_ from h];rfl
 | .bool,_,_,h=>by rw[show _=_ from h];rfl
 | .rat,_,_,h=>eZ.len h
 | .sl _ _ _,_,_,⟨a,cap,L,e,h,hl⟩=>by rw[e];rfl
 | .one a,_,_,h=>ax.len (τ:=a) h
 | .pair _ _,_,_,⟨c1,c2,e,h1,h2⟩=>by rw[e,aQ,ax.len h1,ax.len h2];rfl
theorem ax.plain{W:Wd}:{τ:Ty}->{c:List Value}->{x:τ.T}->ax W τ c x->c.all Go.M.plainCell=true
 | .int _,_,_,h=>by rw[show _=_ from h];rfl
 | .bool,_,_,h=>by rw[show _=_ from h];rfl
 | .rat,_,_,h=>by obtain⟨_,_,_,_,_,_,_,_,rfl⟩:=eZ.cells h;rfl
 | .sl _ _ _,_,_,⟨a,cap,L,e,h,hl⟩=>by rw[e];rfl
 | .one a,_,_,h=>ax.plain (τ:=a) h
 | .pair _ _,_,_,⟨c1,c2,e,h1,h2⟩=>by rw[e,List.all_append,ax.plain h1,ax.plain h2];rfl
def cx(W:Wd):(τ:Ty)->Value->τ.T->Prop
 | .int k,v,x=>v=.int k x
 | .bool,v,x=>v=.bool x
 | .sl t w e,v,x=>ax W (.sl t w e) [v] x
 | .tup a b,v,x=>∃v1 v2,v=.tuple ⟨[v1,v2]⟩/\cx W a v1 x.1/\cx W b v2 x.2
 | .tup3 a b c,v,x=>∃v1 v2 d,v=.tuple ⟨[v1,v2,d]⟩/\cx W a v1 x.1/\cx W b v2 x.2.1/\cx W c d x.2.2
 |τ,v,x=>∃c,v=.agg ⟨c⟩/\ax W τ c x
theorem cx.mono{W W':Wd}(hs:cu W W'):{τ:Ty}->{v:Value}->{x:τ.T}->cx W τ v x->cx W' τ v x
 | .int _,_,_,h=>h
 | .bool,_,_,h=>h
 | .sl _ _ _,_,_,h=>ax.mono hs h
 | .tup _ _,_,_,⟨v1,v2,e,h1,h2⟩=>⟨v1,v2,e,cx.mono hs h1,cx.mono hs h2⟩
 | .tup3 _ _ _,_,_,⟨v1,v2,b,e,h1,h2,a⟩=>⟨v1,v2,b,e,cx.mono hs h1,cx.mono hs h2,cx.mono hs a⟩
 | .rat,_,_,⟨c,e,h⟩=>⟨c,e,ax.mono hs h⟩
 | .one _,_,_,⟨c,e,h⟩=>⟨c,e,ax.mono hs h⟩
 | .pair _ _,_,_,⟨c,e,h⟩=>⟨c,e,ax.mono hs h⟩
def L5(W:Wd)(s:St)(k:Nat)(τ:Ty)(r:τ.T)(v:Value)(s':St):Prop:=∃D,HL [] s s' D k/\cx (W.x D) τ v r
abbrev Rp(W:Wd)(I:zZ)(f:FuncId)(args:Array Value)(s:St)(k:Nat)(τ:Ty)(r:τ.T):Prop:=∃v' s',vr Tryz.prog I f args s v' s'/\L5 W s k τ r v' s'
instance {n:Int}:Decidable (xc n):=inferInstanceAs (Decidable (_/\_))
def Np(x:Int):Decidable (xc x):=decidable_of_iff ((Nat.ble x.toNat 9223372036854775807&&Nat.ble (-x).toNat 9223372036854775808)=true) (by
 rw[aF,Nat.ble_eq,Nat.ble_eq];unfold xc;omega)
def i64(x:Int):Option Int:= @ite _ (xc x) (Np x) (some x) none
def ae{α:Type}(l:List α)(i:Int):Option α:=if 0<=i then l[i.toNat]? else none
def app{α:Type}(l m:List α):Option (List α):=if l.length+m.length<=65536 then some (l++m)else none
def zk{a ρ:Type}(B:(a->Option ρ)->a->Option ρ):Nat->a->Option ρ
 |0,_=>none
 |k+1,x=>B (zk B k) x
section
variable{W W':Wd}{a b:Ty}{c c1 c2:List Value}
theorem BC{D:au}:ax (W.x D) .rat [.bool false,.slice none 0 0,.bool false,.slice none 0 0] (0:Rat):=
 ⟨[_,_],[_,_],rfl,⟨[_],[_],rfl,rfl,none,0,[],by rw[show(yg 0).1.2=[]from qw];rfl,by rw[show(yg 0).1.2=[]from qw];exact .inr (.nil 0 rfl rfl),by rw[show(yg 0).1.2=[]from qw];rfl,by rw[show(yg 0).1.2=[]from qw];intro k x h;simp at h⟩,[_],[_],rfl,rfl,none,0,[],rfl,.inr (.nil 0 rfl rfl),rfl,λk x h=>by simp[yg]at h⟩
theorem sl0{D:au}{t w cap:Nat}{e:Ty}:ax (W.x D) (.sl t w e) [.slice none 0 cap] ([]:List e.T):=⟨none,cap,[],rfl,.inr (.nil cap rfl rfl),rfl,λk x h=>by simp at h⟩
end
theorem kz{α:Type}{l:List α}{i:Int}{x:α}(h:ae l i=some x):0<=i/\i<l.length/\l[i.toNat]? = some x:=by
 unfold ae at h
 split at h
 .next h0=>
  have:=(aM.mp h).1
  exact⟨h0,by omega,h⟩
 .cases h
theorem wL{x y:Int}(h:i64 x=some y):y=x/\xc x:=by
 unfold i64 at h
 split at h
 .next h0=>exact⟨(dD h).symm,h0⟩
 .cases h
theorem gI{α:Type}{l m r:List α}(h:app l m=some r):r=l++m/\l.length+m.length<=65536:=by
 unfold app at h
 split at h
 .next h0=>exact⟨(dD h).symm,h0⟩
 .cases h
theorem ax.at{W:Wd}{s:St}(f:et s W){t w:Nat}{e:Ty}{a:Option Addr}{n cap:Nat}{l:List e.T}(h:ax W (.sl t w e) [.slice a n cap] l){i:Int}{x:e.T}(hi:ae l i=some x) :
 ∃b off,a=some ⟨b,off,none⟩/\0<=i/\i<n:=by
 obtain⟨a',cap',L,e1,hs,hn,hl⟩:=h
 simp only[List.cons.injEq,Value.slice.injEq,fA]at e1
 obtain⟨rfl,rfl,rfl⟩:=e1
 obtain⟨h0,h1,h2⟩:=kz hi
 obtain⟨b,off,c,rfl,_⟩:=(f.s _ _ _ _ hs).at (i:=i) (k:=i.toNat) Oz Oz
 exact⟨b,off,rfl,h0,h1⟩
theorem ax.cells{W:Wd}{s:St}(f:et s W){t w:Nat}{e:Ty}{b off n cap:Nat}{l:List e.T}(h:ax W (.sl t w e) [.slice (some ⟨b,off,none⟩) n cap] l){i:Int}{x:e.T}(hi:ae l i=some x) :
 ∃c C,s.get b=some (.cells c t)/\b<s.next/\y8 w (xr (off+i.toNat*w) c)=some C/\ax W e C x:=by
 obtain⟨a',cap',L,e1,hs,hn,hl⟩:=h
 simp only[List.cons.injEq,Value.slice.injEq,fA]at e1
 obtain⟨rfl,rfl,rfl⟩:=e1
 obtain⟨h0,h1,h2⟩:=kz hi
 obtain⟨b',off',c,e2,hg,hb,hc⟩:=(f.s _ _ _ _ hs).at (i:=i) (k:=i.toNat) Oz Oz
 cases e2
 exact⟨c,_,hg,hb,hc,hl _ _ h2⟩
theorem zai{c L e:List Value}{n k m o:Nat}(h:y8 n (xr k c)=some L)(h2:y8 m (xr o L)=some e):y8 m (xr (k+o) c)=some e:=by
 rw[y7,yR]at h h2 |-
 split at h
 .next h1=>
  cases h
  split at h2
  .next f=>
   cases h2
   rw[bZ,bX,bZ]at f
   rw[aG (by rw[bZ];omega)]
   rw[List.drop_take,List.take_take,List.drop_drop,Nat.min_eq_left Oz]
  .cases h2
 .cases h
theorem W3{c L:List Value}{n k o:Nat}{v:Value}(h:y8 n (xr k c)=some L)(h2:zH L o=some v):zH c (k+o)=some v:=by
 rw[y7,yR]at h
 rw[zN]at h2 |-
 split at h
 .next h1=>
  cases h
  rw[List.getElem?_take]at h2
  split at h2
  .rw[dV]at h2;exact h2
  .cases h2
 .cases h
theorem qx{c:List Value}{n k:Nat}{v:Value}{L:List Value}(h:y8 n (xr k c)=some (v::L)):zH c k=some v:=W3 (o:=0) h rfl
def dk(W:Wd)(t w:Nat)(e:Ty)(D:au)(a:Option Addr)(n cap:Nat)(l:List e.T):Prop:=n=l.length/\e.sz=w/\∃L:List (List Value),L.length=l.length/\hG t w D (.slice a n cap) L.flatten n/\(∀x∈L,x.length=w)/\∀k x,l[k]? = some x->ax W e (L.getD k []) x
theorem dk.nil{W:Wd}{t w:Nat}{e:Ty}(h:e.sz=w):dk W t w e [] none 0 0 ([]:List e.T):=⟨rfl,h,[],rfl,.nil,(λ_ h=>nomatch h),λ_ _ h=>nomatch h⟩
theorem dk.mono{W W':Wd}{t w:Nat}{e:Ty}{D:au}{a:Option Addr}{n cap:Nat}{l:List e.T}(h:dk W t w e D a n cap l)(hs:cu W W'):dk W' t w e D a n cap l:=by
 obtain⟨hn,hw,L,h1,h2,f,i⟩:=h
 exact⟨hn,hw,L,h1,h2,f,λk x g=>(i k x g).mono hs⟩
theorem dk.rep{W:Wd}{t w:Nat}{e:Ty}{Φ D E:au}{a:Option Addr}{n cap:Nat}{l:List e.T}(h:dk (W.x Φ) t w e D a n cap l)(h1:Φ⊆E)(h2:D⊆E):ax (W.x E) (.sl t w e) [.slice a n cap] l:=by
 obtain⟨hn,hw,L,g1,g2,f,i⟩:=h
 subst hn
 exact⟨a,cap,L,rfl,.inr ((hG.slG f (g1▸g2)).mono h2),g1,λk x g=>(i k x g).mono (vK h1)⟩
section
variable{P:Program}{I:zZ}{F:FF}{s:St}{Q:FF->St->Prop}{d:Option Tmp}{ty:TypeId}{pos:String}{af:Array Edge}{g:Option (Nat×Bool)}
variable{s0:St}{L:au}{n:Nat}
theorem gV{W:Wd}{t w:Nat}{e:Ty}{D:au}{a:Option Addr}{len cap:Nat}{l xs r:List e.T}{ag:Array Operand}{ts:Array TypeId}{t1 t2 e2:TypeId}{tr:List TypeId}{x y:Operand}{by_ m:Nat}{z:List Value}{X:List (List Value)}(H:HL [] s0 s (D++L) n)(ho:dk W t w e D a len cap l)(R:app l xs=some r)
 (hs:qg P t1=some (t,w,by_,z)) (G:P.underlying t2=some (.slice e2)) (S:ts.toList=t1::t2::tr) (ha:ag.toList=[x,y]) (hx:zd F x=.slice a len cap) (he:kQ s w (zd F y) m X.flatten) (hm:m=X.length) (E:0<m) (J:xs.length=X.length) (u:∀k x,xs[k]? = some x->ax W e (X.getD k []) x) (B:by_<=8000)
 (o:s0.next+n<zA)
 (k:∀a' f b c s',HL [] s0 s' ((b,.cells c t)::L) (n+1)->dk W t w e [(b,.cells c t)] a' r.length f r->Q (ba F d (.slice a' r.length f)) s'):br P I ⟨d,.call ⟨.builtin .append,ag,ts⟩,ty,pos,af,g⟩ F s Q:=by
 obtain⟨hn,hw,Y,h1,h2,N,O⟩:=ho
 obtain⟨rfl,hlen⟩:=gI R
 subst hn hm
 have p:∀x∈X,x.length=w:=λx hx=>by
  obtain⟨j,hj,rfl⟩:=List.getElem_of_mem hx
  have i:j<xs.length:=by omega
  have:=(u j xs[j] (aE i)).len
  rw[aB,aE hj]at this
  exact this.trans hw
 have A:X.flatten.all Go.M.plainCell=true:=by
  rw[List.all_eq_true]
  intro v hv
  obtain⟨c,hc,hv⟩:=List.mem_flatten.mp hv
  obtain⟨j,hj,rfl⟩:=List.getElem_of_mem hc
  have i:j<xs.length:=by omega
  have:=(u j xs[j] (aE i)).plain
  rw[aB,aE hj]at this
  exact(List.all_eq_true.mp this) v hv
 refine uc H h2 hs G S ha hx he E A (qQ p) (bK (eE (show l.length+X.length<=65536 by omega) (Nat.succ_le_succ B)) Uz) o λb s' K q=>?_
 have e1:l.length+X.length=(l++xs).length:=by rw[aQ,J]
 rw[e1]at q |-
 refine k _ _ b _ s' K ⟨rfl,hw,Y++X,by simp[h1,J],by rw[List.flatten_append];exact q,λx hx=>?_,λj x hj=>?_⟩
 .rcases aW.mp hx with h|h
  .exact N x h
  .exact p x h
 .rw[aB]
  by_cases C:j<l.length
  .rw[cA C]at hj
   rw[cA Oz,<-aB]
   exact O j x hj
  .rw[List.getElem?_append_right Oz]at hj
   rw[List.getElem?_append_right Oz,<-aB,h1]
   exact u _ x hj
end
deriving instance DecidableEq for Ty
inductive Lf
 |int (k:IntKind) (x:Int)|bool (b:Bool)|rat (q:Rat)
 |sl (t w:Nat) (e:Ty) (l:List e.T)
 |nil|nilf|nilp
 |own (j:Nat)
 |ptr (j off:Nat)
 |ep (t w:Nat) (e:Ty) (x:e.T) (off:Nat)
 |op (j w:Nat) (i:Int) (off:Nat)
 |fn (f:FuncId)
 |cl (f:FuncId) (js:List Nat)
 |yl (j:Nat)
 |sp (t w:Nat) (e:Ty) (l:List e.T)
 |asl (j n:Nat)
 |unk
inductive Pv
 |undef|any|one (l:Lf)|agg (l:List Lf)|tup (l:List (Bool×List Lf))|clo (f:FuncId) (l:List Lf)
inductive Ob
 |dead|const|cells (l:List Lf)|list (t w:Nat) (e:Ty) (l:List e.T)
 |loop (N:Nat) (slots:List (Nat×Pv)) (ps:List Nat) (x y:Code) (st:LoopState) (pend:Option Code)
structure En where
 slots:List (Nat×Pv)
 objs:List Ob
structure Cx where
 slots:List (Nat×Pv)
 objs:List Ob
 n:Nat
 lent:Nat
def Lf.w:Lf->Nat
 | .rat _=>4
 |_=>1
def Lr:List Lf->Nat
 | []=>0
 |x::l=>x.w+Lr l
def WN:List Lf->Nat->Option (List Lf)
 |l,0=>some l
 | [],_+1=>none
 |x::l,n+1=>match Nat.ble x.w (n+1)with
  |true=>WN l (n+1-x.w)
  |false=>none
def SL:List Lf->Nat->Option (List Lf)
 |_,0=>some []
 | [],_+1=>none
 |x::l,n+1=>match Nat.ble x.w (n+1)with
  |true=>match SL l (n+1-x.w)with
   |some r=>some (x::r)
   |none=>none
  |false=>none
def FZ:List Lf->Nat->List Lf->Option (List Lf)
 |l,0,new=>match WN l (Lr new)with
  |some r=>some (new++r)
  |none=>none
 | [],_+1,_=>none
 |x::l,n+1,new=>match Nat.ble x.w (n+1)with
  |true=>match FZ l (n+1-x.w) new with
   |some r=>some (x::r)
   |none=>none
  |false=>none
def Zo:(τ:Ty)->τ.T->List Lf
 | .int k,x=>[.int k x]
 | .bool,x=>[.bool x]
 | .rat,x=>[.rat x]
 | .sl t w e,x=>[.sl t w e x]
 | .one a,x=>Zo a x
 | .pair a b,x=>Zo a x.1++Zo b x.2
 |_,_=>[]
def jk{e a:Ty}(h:a=e)(l:List a.T):List e.T:=h▸l
def qd:(τ:Ty)->List Lf->Option (τ.T×List Lf)
 | .int k,.int k' x::r=>if k'=k then some (x,r)else none
 | .bool,.bool x::r=>some (x,r)
 | .rat,.rat x::r=>some (x,r)
 | .sl t w e,.sl t' w' c l::r=>if h:t'=t/\w'=w/\c=e then some (jk h.2.2 l,r)else none
 | .sl _ _ e,.nil::r=>some (([]:List e.T),r)
 | .one a,r=>qd a r
 | .pair a b,r=>match qd a r with
  |some (x,r)=>match qd b r with
   |some (y,r)=>some ((x,y),r)
   |none=>none
  |none=>none
 |_,_=>none
def Ty.isAgg:Ty->Bool
 | .rat | .one _ | .pair _ _=>true
 |_=>false
def vh(τ:Ty)(l:List Lf):Option τ.T:=match qd τ l with
 |some (x,[])=>some x
 |_=>none
def XZ(τ:Ty)(p:Bool×List Lf):Option τ.T:=match p.1==τ.isAgg with
 |true=>vh τ p.2
 |false=>none
def P6:Pv->Option (Bool×List Lf)
 | .one l=>some (false,[l])
 | .agg l=>some (true,l)
 |_=>none
def KF:(τ:Ty)->Pv->Option τ.T
 | .tup a b,.tup [p,q]=>match XZ a p,XZ b q with
  |some x,some y=>some (x,y)
  |_,_=>none
 | .tup3 a b c,.tup [p,q,r]=>match XZ a p,XZ b q,XZ c r with
  |some x,some y,some z=>some (x,y,z)
  |_,_,_=>none
 | .tup _ _,_=>none
 | .tup3 _ _ _,_=>none
 |τ,v=>match P6 v with
  |some p=>XZ τ p
  |none=>none
def H4(τ:Ty)(x:τ.T):Bool×List Lf:=(τ.isAgg,Zo τ x)
def OQ:Bool×List Lf->Pv
 |(true,l)=>.agg l
 |(false,l)=>match l with
  | [x]=>.one x
  |_=>.tup []
def Ty.isTup:Ty->Bool
 | .tup _ _ | .tup3 _ _ _=>true
 |_=>false
def Ty.okT:Ty->Bool
 | .tup a b=> !a.isTup && !b.isTup
 | .tup3 a b c=> !a.isTup && !b.isTup && !c.isTup
 |_=>true
def RJ:(τ:Ty)->τ.T->Pv
 | .tup a b,x=>.tup [H4 a x.1,H4 b x.2]
 | .tup3 a b c,x=>.tup [H4 a x.1,H4 b x.2.1,H4 c x.2.2]
 |τ,x=>OQ (H4 τ x)
def zI(k:IntKind):List Value->Option (List Lf×List Value)
 | .int k' x::r=>if k'=k then some ([.int k x],r)else none
 |_=>none
def zB:List Value->Option (List Lf×List Value)
 | .bool x::r=>some ([.bool x],r)
 |_=>none
def zR:List Value->Option (List Lf×List Value)
 | .bool false::.slice none 0 0::.bool false::.slice none 0 0::r=>some ([.rat 0],r)
 |_=>none
def zS:List Value->Option (List Lf×List Value)
 | .slice none 0 0::r=>some ([.nil],r)
 |_=>none
def jx:Ty->List Value->Option (List Lf×List Value)
 | .int k,c=>zI k c
 | .bool,c=>zB c
 | .rat,c=>zR c
 | .sl _ _ _,c=>zS c
 | .one a,r=>jx a r
 | .pair a b,r=>match jx a r with
  |some (x,r)=>match jx b r with
   |some (y,r)=>some (x++y,r)
   |none=>none
  |none=>none
 |_,_=>none
def gK(τ:Ty)(c:List Value):Option (List Lf):=match jx τ c with
 |some (l,[])=>some l
 |_=>none
def rA(l:List Lf):Nat->List Lf
 |0=>[]
 |n+1=>l++rA l n
def WV(τ:Ty):Nat->List Lf->Option (List τ.T)
 |0,[]=>some []
 |n+1,l=>match qd τ l with
  |some (x,r)=>match WV τ n r with
   |some y=>some (x::y)
   |none=>none
  |none=>none
 |_,_=>none
def cW{α:Type}:List (Nat×α)->Nat->Option α
 | [],_=>none
 |(t,v)::l,d=>match Nat.beq t d with
  |true=>some v
  |false=>cW l d
def Rs{α:Type}:List (Nat×α)->Nat->List (Nat×α)
 | [],_=>[]
 |(t,u)::l,d=>match Nat.beq t d with
  |true=>Rs l d
  |false=>(t,u)::Rs l d
def putS{α:Type}(l:List (Nat×α))(d:Nat)(v:α):List (Nat×α):=(d,v)::Rs l d
def zM{α:Type}:List α->Nat->α->List α
 | [],_,_=>[]
 |_::l,0,y=>y::l
 |x::l,n+1,y=>x::zM l n y
def ofV:Value->Option Lf
 | .int k x=>some (.int k x)
 | .bool b=>some (.bool b)
 | .slice none 0 0=>some .nil
 | .nilFunc=>some .nilf
 | .pointer none=>some .nilp
 |_=>none
def qK{α:Type}(l:List α)(lo hi:Int):Option (List α):=if 0<=lo/\lo<=hi/\hi<=l.length/\0<l.length then some ((l.drop lo.toNat).take (hi.toNat-lo.toNat))else none
@[reducible] def Tp:List Ty->Type
 | []=>Unit
 | [a]=>a.T
 |a::b::l=>a.T×Tp (b::l)
structure eQ where
 ar:List Ty
 res:Ty
 room:Nat
 fn:Tp ar->Option res.T
def RI:(ar:List Ty)->List Pv->Option (Tp ar)
 | [],[]=>some ()
 | [a],[p]=>KF a p
 |a::b::l,p::ps=>match KF a p,RI (b::l) ps with
  |some x,some y=>some (x,y)
  |_,_=>none
 |_,_=>none
def sf:(ar:List Ty)->Tp ar->List Pv
 | [],_=>[]
 | [a],x=>[RJ a x]
 |a::b::l,x=>RJ a x.1::sf (b::l) x.2
section
variable{ρ:Type}
def kO{α:Type}(o:Option α)(k:α->Option ρ):Option ρ:=match o with
 |some v=>k v
 |none=>none
def Kc(sh:Option (Option Nat))(off:Nat)(l:List Lf):Option Pv:=match sh with
 |some none=>match WN l off with
  |some (x::_)=>match x.w with
   |1=>some (.one x)
   |_=>none
  |_=>none
 |some (some n)=>match WN l off with
  |some r=>match SL r n with
   |some g=>some (.agg g)
   |none=>none
  |none=>none
 |none=>none
end
section
variable(C:Cx)(e:En)
def En.get(t:Nat):Option Pv:=match cW e.slots t with
 |some v=>some v
 |none=>cW C.slots t
def En.ev:Operand->Option Pv
 | .tmp t=>e.get C t
 | .const v=>match ofV v with
  |some l=>some (.one l)
  |none=>none
 | .func f=>some (.one (.fn f))
 | .global _=>none
def En.evs:List Operand->Option (List Pv)
 | []=>some []
 |x::l=>match e.ev C x,En.evs l with
  |some v,some vs=>some (v::vs)
  |_,_=>none
def En.obj(j:Nat):Option Ob:=match zH e.objs j with
 |some .const=>zH C.objs j
 |o=>o
def En.mark(x:Operand)(b:Bool):En:=match x with
 | .tmp t=>{e with slots:=putS e.slots t (.one (.bool b))}
 |_=>e
def En.setO(j:Nat)(o:Ob):En:={e with objs:=zM e.objs j o}
variable{ρ:Type}
def En.set(d:Option Nat)(v:Pv)(k:En->Option ρ):Option ρ:=match d with
 |none=>k e
 |some d=>match cW C.slots d with
  |some _=>none
  |none=>k {e with slots:=putS e.slots d v}
def En.new(d:Option Nat)(o:Ob)(v:Nat->Lf)(k:En->Option ρ):Option ρ:=
 En.set C {e with objs:=e.objs++[o]} d (.one (v (yD e.objs 0))) k
end
def Lf.sub(l:Lf)(j:Nat)(x:Lf):Lf:=match l with
 | .own i=>match Nat.beq i j with
  |true=>x
  |false=>.own i
 |l=>l
def sc(j:Nat)(x:Lf):List Lf->List Lf
 | []=>[]
 |l::r=>l.sub j x::sc j x r
def HU(j:Nat)(x:Lf):List (Bool×List Lf)->List (Bool×List Lf)
 | []=>[]
 |(g,l)::r=>(g,sc j x l)::HU j x r
def Pv.sub(j:Nat)(x:Lf):Pv->Pv
 | .one l=>.one (l.sub j x)
 | .agg l=>.agg (sc j x l)
 | .tup l=>.tup (HU j x l)
 |p=>p
def Ob.sub(j:Nat)(x:Lf):Ob->Ob
 | .cells l=>.cells (sc j x l)
 |o=>o
def HT(j:Nat)(x:Lf):List (Nat×Pv)->List (Nat×Pv)
 | []=>[]
 |(t,p)::r=>(t,p.sub j x)::HT j x r
def I7(j:Nat)(x:Lf):List Ob->List Ob
 | []=>[]
 |o::r=>o.sub j x::I7 j x r
def En.frz(C:Cx)(e:En)(j:Nat):Option En:=match zH e.objs j,Nat.ble C.lent j with
 |some (.list t w τ l),true=>some {slots:=HT j (.sl t w τ l) e.slots,objs:=I7 j (.sl t w τ l) (zM e.objs j .dead)}
 |_,_=>none
def En.frzL(C:Cx)(e:En):List Lf->Option En
 | []=>some e
 | .own j::r=>match zH e.objs j with
  |some .dead=>En.frzL C e r
  |_=>match e.frz C j with
   |some e=>En.frzL C e r
   |none=>none
 |_::r=>En.frzL C e r
def En.frzT(C:Cx)(e:En):List (Bool×List Lf)->Option En
 | []=>some e
 |(_,l)::r=>match e.frzL C l with
  |some e=>En.frzT C e r
  |none=>none
def En.frzP(C:Cx)(e:En):List Pv->Option En
 | []=>some e
 | .tup l::r=>match e.frzT C l with
  |some e=>En.frzP C e r
  |none=>none
 | .one l::r=>match e.frzL C [l]with
  |some e=>En.frzP C e r
  |none=>none
 | .agg l::r=>match e.frzL C l with
  |some e=>En.frzP C e r
  |none=>none
 |_::r=>En.frzP C e r
section
variable(Γ:TypeId->Option Ty){ρ:Type}
noncomputable def cmpZ(o:BinOp)(a b:Int):Option Bool:=match o with
 | .lss=>some (decide (a<b))
 | .leq=>some (decide (a<=b))
 | .gtr=>some (decide (b<a))
 | .geq=>some (decide (b<=a))
 | .eql=>some (decide (a=b))
 | .neq=>some (decide (a≠b))
 |_=>none
def uZ(x:Int):Option Int:=if 0<=x/\x<18446744073709551616 then some x else none
noncomputable def Gu(o:BinOp)(t:TypeId)(x y:Pv)(k:Pv->Option ρ):Option ρ:=match x,y with
 | .one (.int .i64 a),.one (.int .i64 b)=>match cmpZ o a b with
  |some c=>k (.one (.bool c))
  |none=>match o with
   | .add=>(i64 (a+b)).bind λx=>k (.one (.int .i64 x))
   | .sub=>(i64 (a-b)).bind λx=>k (.one (.int .i64 x))
   | .mul=>(i64 (a*b)).bind λx=>k (.one (.int .i64 x))
   | .rem=>if b=0 then none else k (.one (.int .i64 (a.tmod b)))
   | .quo=>if b=0 then none else(i64 (a.tdiv b)).bind λx=>k (.one (.int .i64 x))
   | .shl=>if 0<=b/\b<=64 then(i64 (a*2 ^ b.toNat)).bind λx=>k (.one (.int .i64 x))else none
   | .shr=>if 0<=b then k (.one (.int .i64 (a.fdiv (2 ^ min b.toNat 64))))else none
   | .and=>k (.one (.int .i64 (F7 a b)))
   | .or=>k (.one (.int .i64 (Ov a b)))
   |_=>none
 | .one (.int .u64 a),.one (.int .u64 b)=>match o with
  | .lss=>k (.one (.bool (decide (a<b))))
  | .eql=>k (.one (.bool (decide (a=b))))
  | .mul=>(uZ (a*b)).bind λx=>k (.one (.int .u64 x))
  | .rem=>if b=0 then none else k (.one (.int .u64 (a.tmod b)))
  | .quo=>if b=0 then none else(uZ (a.tdiv b)).bind λx=>k (.one (.int .u64 x))
  |_=>none
 | .one (.bool a),.one (.bool b)=>match Tryz.prog.underlying t with
  |some .bool=>match o with
   | .eql=>k (.one (.bool (a==b)))
   | .neq=>k (.one (.bool (!(a==b))))
   |_=>none
  |_=>none
 | .one (.sl _ _ _ l),.one .nil=>match o,Tryz.prog.underlying t with
  | .eql,some (.slice _)=>if 0<l.length then k (.one (.bool false))else none
  |_,_=>none
 |_,_=>none
variable(C:Cx)(e:En)
def Sp:List Lf->Option (List Nat)
 | []=>some []
 | .ptr j 0::r=>match Sp r with
  |some l=>some (j::l)
  |none=>none
 |_=>none
noncomputable def jN:Pv->Option (List Lf)
 | .one l=>some [l]
 | .agg l=>some l
 | .clo f l=>match Sp l with
  |some js=>some [.cl f js]
  |none=>none
 |_=>none
noncomputable def Jw(place:Nat->Option (Nat×Nat)):List (Nat×Operand)->List Lf->Option (List Lf)
 | [],c=>some c
 |(i,x)::r,c=>match place i,e.ev C x with
  |some (off,size),some v=>match jN v with
   |some l=>match Nat.beq (Lr l) size,FZ c off l with
    |true,some c=>Jw place r c
    |_,_=>none
   |none=>none
  |_,_=>none
noncomputable def Lh(t:TypeId):Option (TypeId×Nat×Ty×List Lf):=match qg Tryz.prog t with
 |some (el,sz,by_,z)=>match Γ el with
  |some τ=>match Nat.beq τ.sz sz&&Nat.ble by_ 8000,gK τ z with
   |true,some l=>some (el,sz,τ,l)
   |_,_=>none
  |none=>none
 |none=>none
noncomputable def zgh(t:TypeId)(parts:List (Nat×Operand)):Option Pv:=match wl Tryz.prog t,Tryz.prog.underlying t,Γ t with
 |some z,some (.struct fields),some τ=>match gK τ z,fields.toList.all (λf=>(Tryz.prog.info? f.type).isSome)with
  |some l,true=>match Jw C e (jp Tryz.prog fields.toList) parts l with
   |some c=>some (.agg c)
   |none=>none
  |_,_=>none
 |some z,some (.array _ el),some τ=>match gK τ z,Tryz.prog.info? el with
  |some l,some inf=>match Jw C e (λi=>some (i*inf.size,inf.size)) parts l with
   |some c=>some (.agg c)
   |none=>none
  |_,_=>none
 |_,_,_=>none
def R0{τ:Ty}(l:List τ.T):Nat->Nat->(List Lf->Option ρ)->Option ρ
 |0,_,k=>k []
 |n+1,i,k=>(ae l (i:Int)).bind λx=>R0 l n (i+1) λr=>k (Zo τ x++r)
noncomputable def pq(t:TypeId)(a:Pv)(k:Pv->Option ρ):Option ρ:=match a with
 | .one (.ptr j off)=>match e.obj C j with
  |some (.cells l)=>kO (Kc (z3 Tryz.prog t) off l) k
  |_=>none
 | .one (.ep _ _ τ x off)=>kO (Kc (z3 Tryz.prog t) off (Zo τ x)) k
 | .one (.op j w i off)=>match e.obj C j with
  |some (.list _ w' τ l)=>match Nat.beq w' w with
   |true=>(ae l i).bind λx=>kO (Kc (z3 Tryz.prog t) off (Zo τ x)) k
   |false=>none
  |_=>none
 | .one (.sp _ w τ l)=>match z3 Tryz.prog t with
  |some (some n)=>match Nat.beq (n / w*w) n&&Nat.beq τ.sz w with
   |true=>R0 l (n / w) 0 λc=>k (.agg c)
   |false=>none
  |_=>none
 |_=>none
noncomputable def ZW(t:TypeId)(f:Nat)(a:Pv):Option Pv:=match a,ZI Tryz.prog t f with
 | .one (.ptr j off),some n=>some (.one (.ptr j (off+n)))
 | .one (.ep t w τ x off),some n=>some (.one (.ep t w τ x (off+n)))
 | .one (.op j w i off),some n=>some (.one (.op j w i (off+n)))
 |_,_=>none
noncomputable def ZQ(t:TypeId)(a i:Pv)(k:Pv->Option ρ):Option ρ:=match i,wM Tryz.prog t,a with
 | .one (.int _ i),some (true,_,sz),.one (.sl t w τ l)=>match Nat.beq w sz with
  |true=>(ae l i).bind λx=>k (.one (.ep t w τ x 0))
  |false=>none
 | .one (.int _ i),some (true,_,sz),.one (.own j)=>match e.obj C j with
  |some (.list _ w τ l)=>match Nat.beq w sz with
   |true=>(ae l i).bind λ_=>k (.one (.op j w i 0))
   |false=>none
  |_=>none
 | .one (.int _ (.ofNat i)),some (true,_,sz),.one (.asl j n)=>match Nat.blt i n with
  |true=>k (.one (.ptr j (0+i*sz)))
  |false=>none
 | .one (.int _ (.ofNat i)),some (false,n,sz),.one (.ptr j off)=>match Nat.blt i n with
  |true=>k (.one (.ptr j (off+i*sz)))
  |false=>none
 | .one (.int _ (.ofNat i)),some (false,n,sz),.one (.ep t w τ x off)=>match Nat.blt i n with
  |true=>k (.one (.ep t w τ x (off+i*sz)))
  |false=>none
 | .one (.int _ (.ofNat i)),some (false,n,sz),.one (.op j w x off)=>match Nat.blt i n with
  |true=>k (.one (.op j w x (off+i*sz)))
  |false=>none
 |_,_,_=>none
noncomputable def M5(t:TypeId)(a:Pv):Option Pv:=match a,Tryz.prog.underlying t with
 | .one (.ptr j 0),some (.array n el)=>match (Tryz.prog.info? el).isSome with
  |true=>some (.one (.asl j n))
  |false=>none
 |_,_=>none
noncomputable def zfo(t:TypeId)(a:Pv)(f:Nat):Option Pv:=match a,Tryz.prog.underlying t with
 | .agg l,some (.struct fields)=>match zH fields.toList f with
  |some fd=>Kc (z3 Tryz.prog fd.type) fd.offset l
  |none=>none
 |_,_=>none
noncomputable def EY(t:TypeId)(τ:Ty):Bool:=match z3 Tryz.prog t with
 |some none=> !τ.isAgg&&Nat.beq τ.sz 1
 |some (some n)=>τ.isAgg&&Nat.beq τ.sz n
 |none=>false
noncomputable def zff(t:TypeId)(a i:Pv)(k:Pv->Option ρ):Option ρ:=match i,a,Tryz.prog.underlying t with
 | .one (.int _ i),.agg l,some (.array len el)=>match Γ el,Tryz.prog.info? el with
  |some τ,some inf=>match EY el τ&&Nat.beq τ.sz inf.size,WV τ len l with
   |true,some xs=>(ae xs i).bind λx=>k (OQ (τ.isAgg,Zo τ x))
   |_,_=>none
  |_,_=>none
 |_,_,_=>none
noncomputable def GZ(t:TypeId)(a:Pv):Option Pv:=match Tryz.prog.underlying t,a with
 |some (.slice _),.one .nil=>some (.one (.int .i64 0))
 |some (.slice _),.one (.sl _ _ _ l)=>some (.one (.int .i64 (l.length:Int)))
 |some (.slice _),.one (.asl _ n)=>some (.one (.int .i64 (n:Int)))
 |some (.slice _),.one (.own j)=>match e.obj C j with
  |some (.list _ _ _ l)=>some (.one (.int .i64 (l.length:Int)))
  |_=>none
 |_,_=>none
noncomputable def Vz(a:Pv)(i:Nat):Option Pv:=match a with
 | .tup l=>match zH l i with
  |some (true,l)=>some (.agg l)
  |some (false,[x])=>some (.one x)
  |_=>none
 |_=>none
noncomputable def SA:List Operand->Option (List Lf)
 | []=>some []
 |x::r=>match e.ev C x,SA r with
  |some (.one l),some ls=>some (l::ls)
  |_,_=>none
noncomputable def KK(o:Op)(k:Pv->Option ρ):Option ρ:=match o with
 | .move x | .assign x=>kO (e.ev C x) k
 | .pick c a b=>match e.ev C c with
  |some (.one (.bool c))=>if c=true then kO (e.ev C a) k else kO (e.ev C b) k
  |_=>none
 | .load t x=>kO (e.ev C x) λa=>pq C e t a k
 | .fieldAddr t x f=>kO (e.ev C x) λa=>kO (ZW t f a) k
 | .indexAddr t x i=>kO (e.ev C x) λa=>kO (e.ev C i) λi=>ZQ C e t a i k
 | .field t x f=>kO (e.ev C x) λa=>kO (zfo t a f) k
 | .index t x i=>kO (e.ev C x) λa=>kO (e.ev C i) λi=>zff Γ t a i k
 | .binOp o t x y _=>kO (e.ev C x) λa=>kO (e.ev C y) λb=>Gu o t a b k
 | .unOp .not _ x=>match e.ev C x with
  |some (.one (.bool b))=>k (.one (.bool (!b)))
  |_=>none
 | .unOp .neg _ x=>match e.ev C x with
  |some (.one (.int .i64 a))=>(i64 (0-a)).bind λx=>k (.one (.int .i64 x))
  |some (.one (.int .u64 a))=>k (.one (.int .u64 ((0-a) % 18446744073709551616)))
  |_=>none
 | .extract x i=>kO (e.ev C x) λa=>kO (Vz a i) k
 | .nilCheck x=>match e.ev C x with
  |some (.one (.ptr j off))=>k (.one (.ptr j off))
  |some (.one (.ep t w τ x off))=>k (.one (.ep t w τ x off))
  |some (.one (.op j w i off))=>k (.one (.op j w i off))
  |some (.one (.fn f))=>k (.one (.fn f))
  |some (.clo f l)=>k (.clo f l)
  |_=>none
 | .convert src dst x=>match Tryz.prog.underlying src,Tryz.prog.underlying dst,e.ev C x with
  |some _,some (.int .u64),some (.one (.int .i64 a))=>k (.one (.int .u64 (a % 18446744073709551616)))
  |some _,some (.int .i64),some (.one (.int .u64 a))=>(i64 a).bind λx=>k (.one (.int .i64 x))
  |_,_,_=>none
 | .sliceToArrayPointer t x=>match Tryz.prog.underlying t,e.ev C x with
  |some (.array (n+1) _),some (.one (.sl t' w τ l))=>if ((n+1:Nat):Int)<=(l.length:Int)then k (.one (.sp t' w τ l))else none
  |_,_=>none
 | .build t parts=>kO (zgh Γ C e t parts.toList) k
 | .makeFunc (.func f) ⟨[]⟩ caps=>match Rl (.func f)with
  |false=>kO (SA C e caps.toList) λl=>k (.clo f l)
  |true=>none
 | .call c=>match c.callee,c.argTypes.toList,c.args.toList with
  | .builtin .len,t::_,[x]=>kO (e.ev C x) λa=>kO (GZ C e t a) k
  |_,_,_=>none
 |_=>none
end
end Go.Proofs.YtocnbjjmmgolfaaGreat
