/- The program's search for a way along the tree fits: what it stands on. -/
import Derived.Test.YtocnbjjmmgolfaaGreatA25
import Derived.Test.YtocnbjjmmgolfaaGreatA12
import Derived.Test.YtocnbjjmmgolfaaGreatA24
set_option linter.unusedSimpArgs false
set_option linter.unusedVariables false
set_option linter.unusedSectionVars false
namespace Go.Proofs.YtocnbjjmmgolfaaGreat
open Go Go.M Go.Proofs.C14
def az(F:List Fq)(k:Nat):Int×Int:=((F.getD k default).1,(F.getD k default).2.1)
def ey(r:List Nat):List Int:=r.map λ(k:Nat)=>(k:Int)
def dw(F:List Fq)(k:Nat):Q2:=(F.getD k default).2.2.2.2.2.1
theorem je(r:List Nat):(ey r).length=r.length:=by simp[ey]
theorem pP{r:List Nat}{k:Nat}(h:k<r.length):(ey r).getD k 0=(r.getD k 0:Int):=YM h
theorem gh(l:List Int):(xk l).length=l.length:=by simp[xk]
theorem Ze(r:List Int)(x:Int):xk (r++[x])=xk r++[.int .i64 x]:=by simp[xk]
theorem xo{l:List Value}{n:Nat}(h:l.length=n):Nat.beq (yD l 0) n=true:=by
 rw[yf,h,bM];exact eL n
theorem zcJ{α:Type}:∀{l c:List α},l.length<=c.length->xI l c=some (l++c.drop l.length)
 | [],_,_=>rfl
 |_::_,[],h=>by simp at h
 |v::l,x::c,h=>by
  simp only[aU]at h
  simp only[xI,zcJ (l:=l) (c:=c) Oz]
  rfl
theorem yM{α:Type}{l c:List α}(h:l.length=c.length):yK 0 l c=some l:=by
 show xI l c=some l
 rw[zcJ Oz,h,List.drop_length,bP]
theorem Jf{α:Type}{k:Nat}{l b b':List α}(h:yK k l b=some b'):∀a:List α,yK (a.length+k) l (a++b)=some (a++b')
 | []=>by rw[List.length_nil,cB];exact h
 |x::a=>by
  rw[aU,show a.length+1+k=(a.length+k)+1 by omega]
  simp only[yK,bY,Jf h a]
theorem xH{c:List Value}{n:Nat}(h:c.length=n):y8 n (xr 0 c)=some c:=by
 rw[y7,yR,List.drop_zero,aG Oz,dJ Oz]
structure nf(U:Wd)(c:List Value)(d:Fq):Prop where
 len:c.length=29
 plain:c.all Go.M.plainCell=true
 a:zH c 0=some (.int .i64 d.1)
 b:zH c 1=some (.int .i64 d.2.1)
 t:∃t,y8 8 (xr 5 c)=some t/\ax U bG t d.2.2.2.2.2.1
theorem Tt{U:Wd}{c:List Value}{d:Fq}(h:ax U fM c d):nf U c d:=by
 have hl:c.length=29:=ax.len (τ:=fM) h
 have hp:=ax.plain (τ:=fM) h
 obtain⟨c1,r1,rfl,h1,e,r2,rfl,h2,f,r3,rfl,l,i,r4,rfl,m,j,r5,rfl,o,a,r6,rfl,b,h7⟩:=h
 obtain rfl:c1=_:=h1
 obtain rfl:e=_:=h2
 obtain rfl:f=_:=l
 obtain rfl:i=_:=m
 obtain rfl:j=_:=o
 have l6:a.length=8:=ax.len (τ:=bG) b
 refine⟨hl,hp,rfl,rfl,a,?_,b⟩
 rw[y7,yR]
 simp only[bY,cJ,eX,List.drop_zero]
 rw[aG (by rw[aQ];omega),List.take_append_of_le_length Oz,dJ Oz]
theorem nf.mono{U a:Wd}{c:List Value}{d:Fq}(h:nf U c d)(hs:cu U a):nf a c d:=by
 obtain⟨h1,h2,b,e,t,f,i⟩:=h
 exact⟨h1,h2,b,e,t,f,ax.mono (τ:=bG) hs i⟩
structure fc(U:Wd)(L:List (List Value))(F:List Fq):Prop where
 len:L.length=F.length
 fit:∀k,k<F.length->nf U (L.getD k []) (F.getD k default)
theorem fc.mono{U a:Wd}{L:List (List Value)}{F:List Fq}(h:fc U L F)(hs:cu U a):fc a L F:=⟨h.len,λk hk=>(h.fit k hk).mono hs⟩
theorem zfl{s:St}{a:Option Addr}{len cap:Nat}{U:Wd}{L:List (List Value)}{F:List Fq}(h:Sl s 40 29 (.slice a len cap) L)(j:fc U L F){k:Nat}(hk:k<F.length) :
 ∃b off c,a=some ⟨b,off,none⟩/\s.get b=some (.cells c 40)/\b<s.next/\y8 29 (xr (off+(k:Int).toNat*29) c)=some (L.getD k []):=by
 obtain⟨b,off,c,e,h1,h2,f⟩:=h.at (i:=(k:Int)) rfl (by rw[j.len];exact hk)
 exact⟨b,off,c,e,h1,h2,f⟩
theorem et.xx{s:St}{U:Wd}(h:et s U){W:List Nat}{s0:St}{L D:au}{n:Nat}(H:HL W s0 s L n)(hs:D⊆L):et s (U.x D):=
 ⟨λt w v l x=>x.elim (h.s t w v l) λy=>y.sl H hs,λt w b off n cap L x lo hi a off' h1 h2 c e=>x.imp (λy=>h.cut t w b off n cap L y lo hi a off' h1 h2 c e) λy=>y.cut h1 h2 c e⟩
def mZ(s:St)(W:List Nat)(U:Wd):Prop:=∀s' L n,HL W s s' L n->et s' U
theorem mZ.in{s0 s:St}{W:List Nat}{U:Wd}{A R Φ:au}{n:Nat}(h:mZ s0 W U)(H:HL W s0 s (A++R) n)(hs:Φ⊆R):mZ s (A.map Prod.fst) (U.x Φ):=λs' L k c=>by
 have a:=HL.callW H c (λb hb=>by obtain⟨p,hp,rfl⟩:=List.mem_map.mp hb;exact⟨p.2,hp⟩) (λp hp=>eY hp)
 exact(h _ _ _ a).xx a λp hp=>bA _ (hs hp)
theorem mZ.narrow{s:St}{W X:List Nat}{U:Wd}(h:mZ s W U)(hf:Fine s):mZ {next:=s.next,bar:=s.bar,prot:=X++s.prot,heap:=s.heap} W U:=λ_ _ _ a=>
 (h _ _ _ (HL.wider hf (aN _) (λ_ h=>bA _ h) a)).heap rfl (aN _)
theorem et.w{s:St}{U:Wd}(h:et s U):mZ s [] U:=λ_ _ _ H=>⟨λt w v l x=>(h.s t w v l x).kept H,h.cut⟩
section
variable{W:List Nat}{s0 s s':St}{A B Φ D:au}{U:Wd}{n k:Nat}
theorem ZM(P:au)(H:HL W s0 s (P++(A++Φ)) n)(Hc:HL [] s s' D k):∃a,cu (U.x Φ) (U.x a)/\cu ((U.x Φ).x D) (U.x a)/\HL W s0 s' (P++(A++a)) (n+k):=
 ⟨Φ++D,vK (List.subset_append_left _ _),uV (List.subset_append_left _ _) (dK _ _),by rw[<-bF A,<-bF P,<-bF];rw[bF P];exact H.callE Hc⟩
theorem AH{P:au}(a:mZ s0 W U)(H:HL W s0 s (P++(A++Φ)) n):et s (U.x Φ):=(a _ _ _ H).xx H Z8
end
section
variable{P:Program}{I:zZ}{F:FF}{s:St}{Q:FF->St->Prop}{W:List Nat}{s0:St}{L:au}{n:Nat}
theorem _root_.Go.M.HL.narrow{D:au}{X:List Nat}(H:HL W s0 s (D++L) n)(c:∀q∈D,q.1∉X)(e:∀p∈X,p<s.next) :
 HL (D.map Prod.fst) {s with prot:=X++s.prot} {s with prot:=X++s.prot} D 0 where
 bar:=rfl
 prot:=rfl
 wfb:=H.fine.wfb
 wfp:=λp hp=>by
  rcases aW.mp hp with hp|hp
  .exact e p hp
  .exact H.fine.wfp p hp
 le:=aN _
 most:=aN _
 own:=λp hp=>by
  obtain⟨h1,h2,b,_⟩:=H.own p (bJ _ hp)
  refine⟨h1,h2,?_,.inr (eY hp)⟩
  have hn:=c p hp
  simp only[St.may,aF,bB,cM,ne_eq,dT,not_exists,not_and]at b |-
  refine⟨b.1,λq a he=>?_⟩
  rcases aW.mp a with a|a
  .have:=aK he
   exact hn (this▸a)
  .exact b.2 q a he
 dist:=(List.pairwise_append.mp H.dist).1
 kept:=λ_ _ _=>rfl
theorem oH{ops:List Oper}{ix anc:Nat}{free:List Nat}{t:Tmp}{e:TypeId}{ty:TypeId}{pos:String}{af:Array Edge}{g:Option (Nat×Bool)}{c:List Value}{rest:List an}(j:zH ops ix=some ⟨some t,.alloc e,ty,pos,af,g⟩)(hw:ym ops F ⟨some t,.alloc e,ty,pos,af,g⟩=true)
 (H:HL W s0 s L n) (h:jy P e=some c) (m:s0.next+n<zA) (k:∀b s',HL W s0 s' ((b,.cells c e)::L) (n+1)->yX P I ops rest (ba F (some t) (.pointer (some ⟨b,0,none⟩))) s' Q):yX P I ops (⟨ix,anc,.new,free⟩::rest) F s Q:=by
 have a:=H.room m
 refine oI j hw a (ob:=.cells c e) ?_ (k _ _ (H.new _ m))
 have f:({next:=s.next,bar:=s.next,prot:=[],heap:=.nil}:St).room=true:=a
 simp only[jy]at h
 split at h
 .next i hb hi=>
  split at h
  .next z l=>
   cases h
   simp only[zj,hb,jh,gJ,hi,l,XN,f]
   rfl
  .cases h
 .cases h
end
section
variable{P:Program}{I:zZ}{F:FF}{s:St}{Post:Value->St->Prop}
theorem R3{t t2:Nat}{ty:TypeId}{b off n:Nat}{c l:List Value}{e:TypeId}{v:Value}(hs:z3 P ty=some (some n))(hx:F t=.pointer (some ⟨b,off,none⟩))(hg:s.get b=some (.cells c e))(hc:y8 n (xr off c)=some l)(h2:F t2=v)(h:Post (.tuple ⟨[.agg ⟨l⟩,v]⟩) s) :
 fq P [.cell t ty,.tmp t2] Post F s:=by
 constructor
 simp only[qP,zcM hs hx hg hc,h2]
 exact h
theorem po{t:TypeId}{v w:Value}{b off:Nat}{c:List Value}{e:TypeId}(hs:z3 P t=some none)(hx:v=.pointer (some ⟨b,off,none⟩))(hg:s.get b=some (.cells c e))(hc:zH c off=some w):wc P t v s=some w:=by
 subst hx
 simp only[wc,hg,hs,jv,hc]
theorem At{t t2 t3:Nat}{ty f:TypeId}{b off o a r:Nat}{c p q:List Value}{e e2:TypeId}{v w:Value}(hs:z3 P ty=some none)(hx:F t=.pointer (some ⟨b,off,none⟩))(hg:s.get b=some (.cells c e))(hc:zH c off=some w)
 (l:z3 P f=some (some r)) (m:F t2=.pointer (some ⟨o,a,none⟩)) (j:s.get o=some (.cells p e2)) (i:y8 r (xr a p)=some q) (u:F t3=v) (h:Post (.tuple ⟨[w,.agg ⟨q⟩,v]⟩) s) :
 fq P [.cell t ty,.cell t2 f,.tmp t3] Post F s:=by
 constructor
 simp only[qP,po hs hx hg hc,zcM l m j i,u]
 exact h
end
section
variable{P:Program}{I:zZ}{F:FF}{s:St}{Q:FF->St->Prop}{d:Option Tmp}{ty:TypeId}{pos:String}{af:Array Edge}{g:Option (Nat×Bool)}
theorem kv{x:Operand}{a:Addr}(hx:zd F x=.pointer (some a))(k:Q (ba F d (.pointer (some a))) s):br P I ⟨d,.nilCheck x,ty,pos,af,g⟩ F s Q:=
 zE (by simp only[zj,K3,hx];rfl) k
end
theorem _root_.Go.M.HL.rm{W:List Nat}{s0 s:St}{L:au}{n k:Nat}(H:HL W s0 s L n)(h:k+(n+s0.next)<=zA):s.next+k<=zA:=by have:=H.most;omega
def adj(e:Nat->Int×Int)(tr:List Nat)(v:Int):List Nat:=tr.filter λk=>decide (dO e k v)
structure tY(bTo bT bW bS bt:Nat)(vl:Value)(cF:List Value)(va:Int->Value)(L:List (List Value))(e:Nat->Int×Int)(tr:List Nat)(w:Int)(s:St):Prop where
 gTo:s.get bTo=some (.cells [.int .i64 w] 3)
 gT:s.get bT=some (.cells [.pointer (some ⟨bt,0,none⟩)] 91)
 gS:s.get bS=some (.cells [.func (.func 104) #[] #[.pointer (some ⟨bTo,0,none⟩),.pointer (some ⟨bT,0,none⟩),.pointer (some ⟨bW,0,none⟩),.pointer (some ⟨bS,0,none⟩)]] 145)
 lS:bS<s.next
 gF:s.get bt=some (.cells cF 94)
 adj:∀v:Int,0<=v->v<12->Ld s (va v) (ey (adj e tr v))
 sl:Sl s 40 29 vl L
theorem tY.heap{bTo bT bW bS bt:Nat}{vl:Value}{cF:List Value}{va:Int->Value}{L:List (List Value)}{e:Nat->Int×Int}{tr:List Nat}{w:Int}{s s':St}(h:tY bTo bT bW bS bt vl cF va L e tr w s)(a:s'.heap=s.heap)(hn:s'.next=s.next):tY bTo bT bW bS bt vl cF va L e tr w s':=by
 have hg:∀b,s'.get b=s.get b:=λb=>by simp only[St.get,a]
 exact⟨by rw[hg];exact h.gTo,by rw[hg];exact h.gT,by rw[hg];exact h.gS,by rw[hn];exact h.lS,by rw[hg];exact h.gF,λv h0 h1=>(h.adj v h0 h1).heap a Oz,h.sl.heap a Oz⟩
def tZ(s:St)(W:List Nat)(p:St->Prop):Prop:=∀s' L n,HL W s s' L n->p s'
theorem tZ.in{p:St->Prop}{s0 s:St}{W:List Nat}{A R:au}{n:Nat}(h:tZ s0 W p)(H:HL W s0 s (A++R) n):tZ s (A.map Prod.fst) p:=λ_ _ _ a=>
 h _ _ _ (HL.callW H a (λb hb=>by obtain⟨p,hp,rfl⟩:=List.mem_map.mp hb;exact⟨p.2,hp⟩) (λp hp=>eY hp))
theorem tZ.narrow{p:St->Prop}(hp:∀s s':St,p s->s'.heap=s.heap->s'.next=s.next->p s'){s:St}{W X:List Nat}(h:tZ s W p)(hf:Fine s):tZ {next:=s.next,bar:=s.bar,prot:=X++s.prot,heap:=s.heap} W p:=λ_ _ _ a=>
 hp _ _ (h _ _ _ (HL.wider hf (aN _) (λ_ h=>bA _ h) a)) rfl rfl
inductive Wy:au->Value->List Nat->Prop
 |nil:Wy [] (.slice none 0 0) []
 |block (b cap len:Nat) (rest:List Value) (r:List Nat) (hl:len=r.length) (hc:len+rest.length=cap / 2):Wy [(b,.cells (xk (ey r)++rest) tI)] (.slice (some ⟨b,0,none⟩) len cap) r
theorem Wy.isSlice{D:au}{v:Value}{r:List Nat}(h:Wy D v r):∃a cap,v=.slice a r.length cap:=by
 cases h with
 |nil=>exact⟨_,_,rfl⟩
 |block b cap len rest r hl hc=>subst hl;exact⟨_,_,rfl⟩
theorem YJ(r:List Nat)(k:Nat):ey (r++[k])=ey r++[(k:Int)]:=by simp[ey]
theorem Wy.snoc{D:au}{v:Value}{r:List Nat}{k:Nat}(h:Wy D v (r++[k])):∃b cap rest,D=[(b,.cells (xk (ey r)++rest) tI)]/\v=.slice (some ⟨b,0,none⟩) (r.length+1) cap/\r.length+rest.length=cap / 2/\r.length+1<=cap / 2:=by
 generalize a:r++[k]=q at h
 cases h with
 |nil=>simp at a
 |block b cap len rest q hl hc=>
  subst a hl
  refine⟨b,cap,.int .i64 (k:Int)::rest,?_,by rw[aQ];rfl,?_,?_⟩
  .rw[YJ,Ze,bF];rfl
  .simp only[aQ,aU,List.length_nil]at hc |-;omega
  .simp only[aQ,aU,List.length_nil]at hc;omega
section
variable{P:Program}{I:zZ}{F:FF}{s:St}{Q:FF->St->Prop}{d:Option Tmp}{ty:TypeId}{pos:String}{af:Array Edge}{g:Option (Nat×Bool)}
variable{W:List Nat}{s0:St}{L:au}{n:Nat}
theorem Xu{D:au}{args:Array Operand}{ts:Array TypeId}{t t2 e2:TypeId}{tr:List TypeId}{x y:Operand}{v:Value}{by_ a:Nat}{z:List Value}{r:List Nat}(H:HL W s0 s (D++L) n)(ho:Wy D v r)(hs:qg P t=some (tI,1,by_,z))(c:P.underlying t2=some (.slice e2))
 (f:ts.toList=t::t2::tr) (ha:args.toList=[x,y]) (hx:zd F x=v) (he:kQ s 1 (zd F y) 1 [.int .i64 (a:Int)]) (hb:(r.length+1)*(by_+1)<=1073741824) (h:s0.next+n<zA)
 (k:∀D' v' s',Wy D' v' (r++[a])->HL W s0 s' (D'++L) (n+1)->Q (ba F d v') s'):br P I ⟨d,.call ⟨.builtin .append,args,ts⟩,ty,pos,af,g⟩ F s Q:=by
 have h9:∀r:List Nat,xk (ey (r++[a]))=xk (ey r)++[.int .i64 (a:Int)]:=λr=>by rw[YJ,Ze]
 cases ho with
 |nil=>
  refine uc (D:=[]) H .nil hs c f ha hx he Oz rfl rfl (by simpa using hb) h (λb s' H' _=>?_)
  exact k [(b,_)] _ s' (.block b 3 1 [] [a] rfl rfl) H'
 |block b cap len rest r hl hc=>
  subst hl
  by_cases hf:rest=[]
  .subst hf
   simp only[bP,List.length_nil,bM]at H hc
   refine KV H hs c f ha hx he (by rw[gh,je,cG]) Oz rfl rfl hb h (λb' s' H'=>?_)
   refine k [(b',_)] _ s' ?_ H'
   have:=Wy.block b' (2*(r.length+1)+1) (r.length+1) [] (r++[a]) Y8 (by rw[List.length_nil];omega)
   rw[bP,h9]at this
   exact this
  .obtain⟨i,rest,rfl⟩:=List.exists_cons_of_ne_nil hf
   have e:yK (r.length*1) [Value.int .i64 (a:Int)] (xk (ey r)++i::rest)=some (xk (ey r)++(.int .i64 (a:Int)::rest)):=by
    have:=Jf (k:=0) (l:=[Value.int .i64 (a:Int)]) (b:=i::rest) (b':=.int .i64 (a:Int)::rest) rfl (xk (ey r))
    rwa[gh,je,bM,<-cG r.length]at this
   simp only[aU]at hc
   refine jq (A:=[]) H hs c f ha hx he Oz rfl e Oz (λs' H'=>?_)
   refine k [(b,_)] _ s' ?_ (H'.up Oz)
   have:=Wy.block b cap (r.length+1) rest (r++[a]) Y8 Oz
   rw[h9,bF]at this
   exact this
end
def HR(e:Nat->Int×Int)(tr:List Nat)(f:Nat)(v w last:Int):Nat->Option (List Nat):=λ(k:Nat)=>if (k:Int)=last\/¬dO e k v then none else(fo e tr f (oth e k v) w k).map (k::·)
theorem zbe{e:Nat->Int×Int}{tr:List Nat}{f:Nat}{v w last:Int}(h:¬v=w):fo e tr (f+1) v w last=tr.findSome? (HR e tr f v w last):=by
 rw[fo,aD h];rfl
theorem zgB{e:Nat->Int×Int}{tr:List Nat}{f:Nat}{v w last:Int}{k:Nat}(h:(k:Int)=last\/¬dO e k v):HR e tr f v w last k=none:=aG h
theorem sb{e:Nat->Int×Int}{tr:List Nat}{f:Nat}{v w last:Int}{k:Nat}(h1:(k:Int)≠last)(h2:dO e k v):HR e tr f v w last k=(fo e tr f (oth e k v) w k).map (k::·):=aD (by intro h;rcases h with h|h;exact h1 h;exact h h2)
theorem Wg{e:Nat->Int×Int}{tr:List Nat}{f:Nat}{v w last:Int}:tr.findSome? (HR e tr f v w last)=(adj e tr v).findSome? (HR e tr f v w last):=
 (uJ λk _ hk=>zgB (.inr (of_decide_eq_false hk))).symm
theorem vd{e:Nat->Int×Int}{tr:List Nat}{v:Int}{k:Nat}(h:k∈adj e tr v):k∈tr/\dO e k v:=⟨(List.mem_filter.mp h).1,cO (List.mem_filter.mp h).2⟩
theorem zhQ{e:Nat->Int×Int}{tr:List Nat}{v:Int}:(adj e tr v).length<=tr.length:=List.length_filter_le ..
def mI(e:Nat->Int×Int)(T:Nat->Q2)(v:Int)(t:Q2):Option (List Nat)->Q2
 |some r=>qe e T r v t
 |none=>(0,0)
section
variable{W:List Nat}{s0 s s':St}{n:Nat}{U:Wd}
theorem Km{p q0 b c f h:Nat×ak}{A D Φ:au}(H:HL W s0 s ((p::(A++D))++(q0::b::c::f::h::Φ)) n):∃a,cu (U.x Φ) (U.x a)/\cu ((U.x Φ).x D) (U.x a)/\HL W s0 s (q0::b::c::f::h::p::(A++a)) n:=by
 refine⟨D++Φ,vK (dK _ _),uV (dK _ _) (List.subset_append_left _ _),?_⟩
 have i:=HL.mid (A:=p::(A++D)) (B:=[q0,b,c,f,h]) (C:=Φ) H
 have e:(p::(A++D))++Φ=p::(A++(D++Φ)):=by simp
 rw[e]at i
 exact i
end
theorem jU{U:Wd}{I:zZ}{f:FuncId}{args:Array Value}{s:St}{k:Nat}{τ:Ty}{r:τ.T}{Q:Value->St->Prop}(h:Rp U I f args s k τ r)(c:∀v s' D,HL [] s s' D k->cx (U.x D) τ v r->Q v s'):∃v s',vr Tryz.prog I f args s v s'/\Q v s':=by
 obtain⟨v,s',a,D,H,hv⟩:=h
 exact⟨v,s',a,c v s' D H hv⟩
theorem S6:qt 105 7 [bG] bG λx=>BU x:=Pb 105 _ rfl
theorem d67:qt 67 11960 [bG,bG] bG λx=>FJ x.1 x.2:=t67 67 _ rfl
theorem OO{i:Nat}(h:i<=5):25 ^ i<=9765625:=bK (Nat.pow_le_pow_right Uz h) Uz
theorem zcs{f:Nat}(h7:f+1<=7):25 ^ (7-(f+1))*25=25 ^ (7-f):=by rw[show 7-f=(7-(f+1))+1 by omega,Nat.pow_succ]
theorem VY{e:Nat->Int×Int}{T:Nat->Q2}{k:Nat}{r:List Nat}{v:Int}{t:Q2}:qe e T (k::r) v t=qe e T r (oth e k v) (aft t (if (e k).1=v then T k else bck (T k))):=rfl
theorem Tn.sm{D:Nat}{t:Q2}(h:Tn D t)(hD:D<500000000):Sm t.1/\Sm t.2:=by
 obtain⟨h1,h2⟩:=h.bd
 exact⟨⟨by have:=h1.1;omega,by have:=h1.2;omega⟩,⟨by have:=h2.1;omega,by have:=h2.2;omega⟩⟩
theorem x5{t:Q2}(h:Sm t.1/\Sm t.2):BU t=some (bck t):=by
 unfold BU
 rw[kJ h.2]
 rfl
theorem Fk{q:Rat}{N D:Nat}(h:Bd q N D)(b:N<500000000)(a:D<500000000):Sm q:=⟨cD h.1 b,cD h.2 a⟩
theorem zdV{D:Nat}{t u:Q2}(h:Tn D t)(g:Tn 25 u)(hD:D*25<=244140625):FJ t u=some (aft t u):=by
 obtain⟨h1,h2⟩:=h.bd
 obtain⟨g1,g2⟩:=g.bd
 have e:D<500000000:=by omega
 have e2:D*25<500000000:=by omega
 unfold FJ
 rw[jA ⟨Fk h1 e e,Fk h2 e e,Fk g1 Uz Uz,Fk g2 Uz Uz,Fk (h1.mul g1) e2 e2,Fk (h2.mul g2) e2 e2,Fk (h2.mul g1) e2 e2,Fk (h1.mul g2) e2 e2⟩]
 rfl
theorem SV:VT Tryz.prog 36=some ([.bool false,.slice none 0 0,.bool false,.slice none 0 0,.bool false,.slice none 0 0,.bool false,.slice none 0 0],[(0,4),(4,4)]):=by kernel_rfl
theorem Gb:wM Tryz.prog 22=some (true,0,1):=by kernel_rfl
theorem GN:wM Tryz.prog 24=some (true,0,29):=by kernel_rfl
theorem oM:wM Tryz.prog 92=some (false,12,1):=by kernel_rfl
theorem Nu:vM Tryz.f104 (Tryz.f104.body.getD .skip) 7=true:=by kernel_rfl
theorem oT:xE Tryz.prog 104=true:=by kernel_rfl
theorem NG:xE Tryz.prog 105=true:=by kernel_rfl
theorem NV:xE Tryz.prog 67=true:=by kernel_rfl
theorem Sc:ZI Tryz.prog 40 0=some 0:=by kernel_rfl
theorem KZ:ZI Tryz.prog 40 1=some 1:=by kernel_rfl
theorem zeO:ZI Tryz.prog 40 5=some 5:=by kernel_rfl
theorem pT:ZI Tryz.prog 94 0=some 0:=by kernel_rfl
theorem KY:ZI Tryz.prog 94 1=some 1:=by kernel_rfl
theorem rS:z3 Tryz.prog 145=some (none):=by kernel_rfl
theorem Kx:z3 Tryz.prog 22=some (none):=by kernel_rfl
theorem OW:z3 Tryz.prog 24=some (none):=by kernel_rfl
theorem fu:z3 Tryz.prog 3=some (none):=by kernel_rfl
theorem uN:z3 Tryz.prog 36=some (some 8):=by kernel_rfl
theorem HM:z3 Tryz.prog 40=some (some 29):=by kernel_rfl
theorem OX:z3 Tryz.prog 91=some (none):=by kernel_rfl
theorem I6:qV Tryz.prog 22=some 1:=by kernel_rfl
theorem ZF:qV Tryz.prog 36=some 8:=by kernel_rfl
theorem HV:qV Tryz.prog 40=some 29:=by kernel_rfl
theorem Xf:Tryz.prog.underlying 22=some (.slice 3):=by kernel_rfl
theorem FR:jy Tryz.prog 36=some [.bool false,.slice none 0 0,.bool false,.slice none 0 0,.bool false,.slice none 0 0,.bool false,.slice none 0 0]:=by kernel_rfl
theorem Kb:jy Tryz.prog 40=some [.int .i64 0,.int .i64 0,.int .i64 0,.int .i64 0,.int .i64 0,.bool false,.slice none 0 0,.bool false,.slice none 0 0,.bool false,.slice none 0 0,.bool false,.slice none 0 0,.bool false,.slice none 0 0,.bool false,.slice none 0 0,.bool false,.slice none 0 0,.bool false,.slice none 0 0,.bool false,.slice none 0 0,.bool false,.slice none 0 0,.bool false,.slice none 0 0,.bool false,.slice none 0 0]:=by kernel_rfl
def Gl(U:Wd)(s:St)(bW:Nat)(W:List Nat)(k:Nat)(r0:List Nat)(r:Option (List Nat))(q:Q2)(v:Value)(s':St):Prop:=∃(D':au) (a:Value) (D:au) (t8:List Value),v=.tuple ⟨[.agg ⟨t8⟩,.bool r.isSome]⟩/\HL W s s' ((bW,.cells [a] 22)::(D'++D)) k/\Wy D' a (r0++r.getD [])/\ax (U.x D) bG t8 q
set_option maxHeartbeats 4000000 in
set_option maxRecDepth 10000 in
theorem sA{I:zZ}(hI:zx I){bTo bT bW bS bt:Nat}{vl:Value}{cF:List Value}{va:Int->Value}{L:List (List Value)}{l:List Fq}{tr:List Nat}{w:Int}(hE:∀k,k<l.length->0<=(az l k).1/\(az l k).1<(az l k).2/\(az l k).2<12)(hT:∀k,k<l.length->Tn 25 (dw l k))(hlt:∀k∈tr,k<l.length)(h6:tr.length<=6)(hc0:zH cF 0=some vl)(hcv:∀v:Int,0<=v->v<12->zH cF (1+v.toNat)=some (va v)) :
 ∀(f:Nat) (hf7:f<=7) {s:St} (hf:Fine s) {U:Wd} {Dw:au} {vw:Value} {r0:List Nat} (HA:HL (bW::Dw.map Prod.fst) s s ((bW,.cells [vw] 22)::Dw) 0) (q:Wy Dw vw r0) (hr0:r0.length+f<=20) (hK:mZ s (bW::Dw.map Prod.fst) U) (o:tZ s (bW::Dw.map Prod.fst) (tY bTo bT bW bS bt vl cF va L (az l) tr w)) (hF:fc U L l) {at_ last:Int} (h0:0<=at_) (h1:at_<12) {t:Q2} {c:List Value} (ht:Tn (25 ^ (7-f)) t) (r:ax U bG c t) (S:Tm (az l) tr f at_ last) (hroom:s.next+uA 110000 f<=zA),
 ∃v' s',vr Tryz.prog I 104 #[.int .i64 at_,.int .i64 last,.agg ⟨c⟩,.pointer (some ⟨bTo,0,none⟩),.pointer (some ⟨bT,0,none⟩),.pointer (some ⟨bW,0,none⟩),.pointer (some ⟨bS,0,none⟩)] s v' s'/\Gl U s bW (bW::Dw.map Prod.fst) (uA 110000 f) r0 (fo (az l) tr f at_ w last) (mI (az l) (dw l) at_ t (fo (az l) tr f at_ w last)) v' s':=by
 intro f
 induction f
 case zero=>intro _ s _ U Dw vw r0 _ _ _ _ _ _ at_ last _ _ t c _ _ h;exact absurd h id
 rename_i f ih
 intro hf7 s hf U Dw vw r0 HA q hr0 hK o hF at_ last h0 h1 t c ht r S hroom
 have O:c.length=8:=ax.len (τ:=bG) r
 have hcp:=ax.plain (τ:=bG) r
 rw[Nat.add_comm]at hroom
 have hcs:uA 110000 (f+1)=7*110000+6*uA 110000 f:=by simp only[uA];omega
 have H:HL (bW::Dw.map Prod.fst) s s ((bW,.cells [vw] 22)::(Dw++[])) 0:=by rw[bP];exact HA
 have hb2S:=(o _ _ _ HA).lS
 obtain⟨al,ll,cl,hvle,hll⟩:=(o _ _ _ HA).sl.isSlice
 subst hvle
 rw[hF.len]at hll
 subst hll
 replace r:=ax.mono (τ:=bG) (xJ (D:=[])) r
 refine qz 7 (hI 104) Tryz.func104 rfl Nu rfl ?_
 refine zh (QO H rfl Oz (λb9 s1 H=>?_))
 refine xT H FR Oz (λb10 s2 H=>?_)
 refine zQ (zb (zO (zh (zg rfl (ye fu rfl (o _ _ _ H).gTo rfl (Xv rfl rfl (λh=>?_) (λh=>?_)))))))
 .refine zb (yI rfl (zh (qo uN rfl H.own1 (xH O) (xp (vs:=c) H ZF rfl rfl (xo O) hcp (yM (by rw[O];rfl)) Oz (λs3 H=>?_)))))
  refine zQ (zb (qE (qm (xA (R3 uN rfl H.own0 (xH O) rfl ?_)))))
  rw[fo,aG Oz]
  refine⟨Dw,vw,[],_,rfl,H.drop0.drop0.up Oz,by rw[bN,bP];exact q,?_⟩
  exact r
 refine zb (yh rfl (yq (zn (zO ?_))))
 have hva:=(o _ _ _ H).adj at_ h0 h1
 obtain⟨aa,na,ca,hve,hna⟩:=hva.isSlice
 rw[bI,je]at hna
 subst hna
 have hvw:¬at_=w:=by omega
 have hal:=zhQ (e:=az l) (tr:=tr) (v:=at_)
 have hvl:∀Q,Ld Q (va at_) (ey (adj (az l) tr at_))->Ld Q (.slice aa (adj (az l) tr at_).length ca) (ey (adj (az l) tr at_)):=λQ h=>by rw[<-hve];exact h
 refine zh (ye OX rfl (o _ _ _ H).gT rfl (zg rfl (kv rfl (zD KY rfl (jJ oM rfl rfl Oz Oz (ye Kx rfl (o _ _ _ H).gF (by rw[show 0+1+at_.toNat*1=1+at_.toNat by omega];exact hcv at_ h0 h1) ?_))))))
 refine qT Xf rfl rfl hve (wJ (zb (yn (kM (λk F s1=>∃(G:FF) (i m:Nat) (vw2:Value) (N Φ:au),F=fT G [(0,.int .i64 at_),(1,.int .i64 last),(3,.pointer (some ⟨bTo,0,none⟩)),(4,.pointer (some ⟨bT,0,none⟩)),(5,.pointer (some ⟨bW,0,none⟩)),(6,.pointer (some ⟨bS,0,none⟩)),(9,.pointer (some ⟨b9,0,none⟩)),(10,.pointer (some ⟨b10,0,none⟩)),(28,.slice aa (adj (az l) tr at_).length ca),(29,.int .i64 ((adj (az l) tr at_).length:Int)),(30,.int .i64 (i:Int))]/\HL (bW::Dw.map Prod.fst) s s1 ((b10,.cells [.bool false,.slice none 0 0,.bool false,.slice none 0 0,.bool false,.slice none 0 0,.bool false,.slice none 0 0] 36)::(b9,.cells c 36)::(bW,.cells [vw2] 22)::(N++Φ)) m/\m<=2+i*(110000+uA 110000 f)/\i<=(adj (az l) tr at_).length/\k=(adj (az l) tr at_).length-i/\Wy N vw2 r0/\ax (U.x Φ) bG c t/\(adj (az l) tr at_).findSome? (HR (az l) tr f at_ w last)=((adj (az l) tr at_).drop i).findSome? (HR (az l) tr f at_ w last)) ?_ (adj (az l) tr at_).length _ _ ?_))))
 rotate_left
 .exact⟨_,0,_,_,_,_,slots ⟨rfl,rfl,rfl,rfl,rfl,rfl,rfl,rfl,hve,rfl,rfl,trivial⟩,H,by omega,by omega,by omega,q,r,rfl⟩
 rintro k F s1 ⟨G,i,m,vw2,N,Φ,rfl,H,hm,hi,rfl,q,r,hs⟩
 refine zh (kw rfl rfl (λh=>?_) (λh=>?_))
 .refine zb (zO (yI rfl (yq (zn (zO (yn ?_))))))
  have hii:i<(adj (az l) tr at_).length:=by omega
  obtain⟨b1,off1,c1_,he1,hg1,hb1,hc1⟩:=(hvl _ ((o _ _ _ H).adj at_ h0 h1)).atD (i:=(i:Int)) (k:=i) rfl (by rw[je];omega)
  subst he1
  rw[pP hii]at hc1
  obtain⟨hkm,hinc⟩:=vd (jP (y:=0) hii)
  have hkl:=hlt _ hkm
  generalize Z:(adj (az l) tr at_).getD i 0=j at *
  have hq:=hF.fit j hkl
  have hqt:=hT j hkl
  obtain⟨e0,e3,e4⟩:=hE j hkl
  have e1:(az l j).1=(l.getD j default).1:=rfl
  have e2:(az l j).2=(l.getD j default).2.1:=rfl
  rw[e1]at e0 e3
  rw[e2]at e3 e4
  obtain⟨t1,hct,E⟩:=hq.t
  have ht8:t1.length=8:=ax.len (τ:=bG) E
  have htp:=ax.plain (τ:=bG) E
  replace E:=ax.mono (τ:=bG) (xJ (D:=Φ)) E
  unfold dO at hinc
  rw[e1,e2]at hinc
  have hml:=bQ (110000+uA 110000 f) (show i<=5 by omega)
  refine zh (yd Gb rfl rfl Oz Oz (ye fu rfl hg1 hc1 (yb rfl (zb ?_))))
  obtain⟨b2,off2,c2_,he2,hg2,hb2,hc9⟩:=zfl ((o _ _ _ H).sl) hF hkl
  subst he2
  refine zh (ye OX rfl (o _ _ _ H).gT rfl (kv rfl (zD pT rfl (ye OW rfl (o _ _ _ H).gF hc0 (zg rfl (yd GN rfl rfl Oz Oz (qo HM rfl hg2 hc9 (xT H Kb Oz (λb14 s4 H=>?_)))))))))
  refine xp (vs:=L.getD j []) H HV rfl rfl (xo hq.len) hq.plain (yM (by rw[hq.len];rfl)) Oz (λQ H=>?_)
  refine zb (zO (zh (zg rfl (zg rfl (Xv rfl rfl (λh=>?_) (λh=>?_))))))
  .refine zb (yI rfl (qr (xD (xF (zn (zW (xU rfl rfl (by unfold xc;omega) (zg rfl (zb (yB (⟨(adj (az l) tr at_).length-(i+1),by omega,_,i+1,_,_,_,Φ,slots ⟨rfl,rfl,rfl,rfl,rfl,rfl,rfl,rfl,rfl,rfl,rfl,trivial⟩,H.drop0,by rw[dM,eG];omega,by omega,rfl,q,r,?_⟩)))))))))))
   refine jt 0 Oz hs ?_
   rw[Z]
   exact zgB (.inl Oz)
  refine zb (yh rfl (yq (zn (vW [⟨0,0,.light,[3]⟩,⟨1,1,.light,[3]⟩,⟨2,0,.light,[1]⟩,⟨3,4,.light,[1]⟩,⟨4,0,.whole,[1,3]⟩,⟨5,19,.light,[3]⟩,⟨6,63,.whole,[]⟩] Z0 Z0 (za rfl rfl (zD KZ rfl ⟨rfl,(yH rfl rfl fu rfl H.own0 (H.lim0 Oz) hq.b (za rfl rfl (zD zeO rfl ⟨rfl,(ve rfl rfl uN rfl H.own0 (H.lim0 Oz) hct (yw rfl rfl (xT (Fine.pr H.fine (Zp H.lt0 (Zp H.lt0 F8))).hl FR (H.rm (k:=1) Oz) (λb16 s5 Hc=>?_))))⟩)))⟩))))))
  have H:=H.call (HL.wider H.fine (aN _) (λ_ h=>bA _ h) Hc)
  clear Hc
  refine za rfl rfl (yb rfl ⟨rfl,(vv (vs:=t1) (fr:=[]) H rfl rfl ZF rfl rfl (xo ht8) htp (yM (by rw[ht8];rfl)) rfl Z2 Oz (λs6 H=>?_))⟩)
  refine yS (zO (zh (zg rfl (zD KZ rfl (ye fu rfl H.own1 hq.b (Xv rfl rfl (λh=>?_) (λh=>?_)))))))
  .refine zb (yI rfl (uz [⟨0,0,.light,[3]⟩,⟨1,1,.light,[3]⟩,⟨2,0,.light,[1]⟩,⟨3,4,.light,[1]⟩,⟨4,12,.whole,[1]⟩,⟨5,31,.light,[]⟩,⟨6,63,.whole,[]⟩] Z0 Z0 (za rfl rfl (zD Sc rfl ⟨rfl,(yH rfl rfl fu rfl H.own1 (H.lim1 Oz) hq.a (za rfl rfl (zD zeO rfl ⟨rfl,(ve rfl rfl uN rfl H.own1 (H.lim1 Oz) hct (yw rfl rfl (yo rfl NG rfl (jU (S6 hI (Fine.pr H.fine (Zp H.lt1 F8)) ((AH (P:=[_,_,_,_,_]) hK H).heap rfl (aN _)) (x:=dw l j) ⟨_,rfl,_,rfl,E⟩ (x5 (Tn.sm hqt Uz)) (H.rm Oz)) (λv9 Q D9 Hc hv9=>?_)))))⟩)))⟩))))
   have Hc:=HL.wider H.fine (aN _) (λ_ h=>bA _ h) Hc
   obtain⟨Φ,J,kd,H⟩:=ZM (U:=U) [_,_,_,_,_] H Hc
   replace r:=ax.mono (τ:=bG) J r
   replace E:=ax.mono (τ:=bG) J E
   obtain⟨cb,rfl,T⟩:=hv9
   have hb8:cb.length=8:=ax.len (τ:=bG) T
   have hbp:=ax.plain (τ:=bG) T
   replace T:=ax.mono (τ:=bG) kd T
   clear Hc J kd
   refine za rfl rfl (yb rfl ⟨rfl,(vv (vs:=cb) (fr:=[]) H rfl rfl ZF rfl rfl (xo hb8) hbp (yM (by rw[hb8,ht8])) rfl Z2 Oz (λs7 H=>?_))⟩)
   refine yS (zn (zh (ye Kx rfl H.own4 rfl (zg rfl (xO (c:=[.int _ _]) H uW rfl rfl Oz (λb59 s8 H=>?_))))))
   have hgt:=H.own0
   have H:=HL.mid (A:=[_,_,_,_,_]) (B:=N) (C:=Φ) H.drop0
   refine Xu H q uW Xf rfl rfl rfl (qD hgt rfl) Oz Oz (λDX v9 Q q H=>?_)
   obtain⟨a9,c9,rfl⟩:=q.isSlice
   have H:=HL.mid (A:=DX) (B:=[_,_,_,_,_]) (C:=Φ) H
   simp only[bY,cJ]at H
   refine W6 (vs:=[.slice _ _ _]) H I6 rfl rfl rfl rfl rfl Oz (λQ H=>?_)
   refine zb (zO ?_)
   have hf2:1<=f:=by rcases f with _|f;exact absurd (S j hkm Oz (by unfold dO;omega)) id;omega
   have hp5:25 ^ (7-(f+1))<=9765625:=OO Oz
   have hb2:=hb2S
   refine vW [⟨0,0,.light,[3,4,10]⟩,⟨1,0,.light,[0,3,4,10]⟩,⟨2,0,.light,[0,3,4,10]⟩,⟨3,0,.light,[0,4,10]⟩,⟨4,0,.light,[0,3,10]⟩,⟨10,0,.new,[0,3,4]⟩,⟨5,24,.whole,[0,10]⟩,⟨6,63,.whole,[10]⟩,⟨7,127,.light,[10]⟩,⟨8,255,.light,[10]⟩,⟨9,255,.light,[10]⟩,⟨11,1535,.whole,[]⟩,⟨12,4095,.light,[]⟩] Z0 Z0 (yH rfl rfl rS rfl (o _ _ _ H).gS (by have:=H.most;omega) rfl (za rfl rfl (zg rfl ⟨rfl,(za rfl rfl (zg rfl ⟨rfl,(ve rfl rfl uN rfl H.own3 (H.lim3 Oz) (xH O) (ve rfl rfl uN rfl H.own0 (H.lim0 Oz) (xH hb8) (oH rfl rfl H FR Oz (λb17 s10 H=>?_))))⟩))⟩)))
   refine yw rfl rfl (yo rfl NV rfl (jU (d67 hI (Fine.pr H.fine (Zp X9 (Zp H.lt0 F8))) ((AH (P:=[_,_,_,_,_,_]) hK H).heap rfl (aN _)) (x:=(t,bck (dw l j))) ⟨_,_,rfl,⟨_,rfl,r⟩,_,rfl,_,rfl,T⟩ (zdV ht hqt.bck (show 25 ^ (7-(f+1))*25<=244140625 by omega)) (H.rm Oz)) (λv9 Q D9 Hc hv9=>?_)))
   have Hc:=HL.wider H.fine (aN _) (λ_ h=>bA _ h) Hc
   obtain⟨Φ,J,kd,H⟩:=ZM (U:=U) [_,_,_,_,_,_] H Hc
   replace r:=ax.mono (τ:=bG) J r
   replace E:=ax.mono (τ:=bG) J E
   obtain⟨ca,rfl,K⟩:=hv9
   replace K:=ax.mono (τ:=bG) kd K
   clear Hc J kd
   refine yw rfl rfl (yo rfl oT rfl ?_)
   have R:=HL.mid (A:=[_,_,_,_,_]) (B:=_::DX) (C:=Φ) H
   have HN:=HL.narrow (D:=_::DX) (X:=[b17]) R (by intro q9 hq9 Y;rw[bC]at Y;exact(List.pairwise_cons.mp H.dist).1 q9 (by simp only[aJ,aW]at hq9 |-;rcases hq9 with h|h<;>simp[h]) Y.symm) (by intro p hp;rw[bC]at hp;subst hp;exact H.lt0)
   have eo:oth (az l) j at_=(l.getD j default).1:=by unfold oth;omega
   have ho9:=S j hkm Oz (by unfold dO;omega)
   rw[eo]at ho9
   have ht9:Tn (25 ^ (7-f)) (aft t (bck (dw l j))):=by rw[<-zcs hf7];exact ht.aft hqt.bck
   obtain⟨_,Q,hr,Dw3,vw3,D8,t8,rfl,Hc,d,n⟩:=ih Oz HN.fine HN q W9 ((mZ.in hK R (Φ:=Φ) (λ_ h=>bA _ h)).narrow H.fine) ((tZ.in o R).narrow (λ_ _ h h1 h2=>h.heap h1 h2) H.fine) (hF.mono xJ) (at_:=(l.getD j default).1) (last:=(j:Int)) Oz Oz ht9 K ho9 (H.rm Oz)
   refine⟨_,_,hr,?_⟩
   clear hr
   have H:=HL.callK (A:=_::DX) (L:=[_,_,_,_,_]++Φ) R (HL.wider H.fine (aN _) (λ_ h=>bA _ h) Hc)
   clear Hc HN R
   obtain⟨Φ,J,kd,H⟩:=Km (U:=U) H
   replace r:=ax.mono (τ:=bG) J r
   replace n:=ax.mono (τ:=bG) kd n
   clear J kd
   have g:t8.length=8:=ax.len (τ:=bG) n
   have z:=ax.plain (τ:=bG) n
   revert n g z
   generalize t8=cw
   intro n g z
   have u:=sb (tr:=tr) (f:=f) (w:=w) (show(j:Int)≠last by omega) (show dO (az l) j at_ by unfold dO;omega)
   rw[eo]at u
   rcases hd:fo (az l) tr f ((l.getD j default).1) w (j:Int)with _|r9
   .rw[hd]at d n
    simp only[Option.getD_none,bN]at d
    refine za rfl rfl (v6 rfl ⟨rfl,(za rfl rfl (yC rfl rfl ⟨rfl,(za rfl rfl (yC rfl rfl ⟨rfl,(vv (vs:=cw) (fr:=[]) H rfl rfl ZF rfl rfl (xo g) z (yM (by rw[g];rfl)) rfl Z2 Oz (λs11 H=>?_))⟩))⟩))⟩)
    refine za rfl rfl (xj rfl ⟨rfl,(yS (zh (xw rfl (zb (yh rfl (yq (zn ?_)))))))⟩)
    rw[bP]at d
    obtain⟨bw2,cw2,M,rfl,rfl,V,hcw3⟩:=d.snoc
    refine zW (ye Kx rfl H.own5 rfl (ye Kx rfl H.own5 rfl (qT Xf rfl rfl rfl (wi rfl rfl (by unfold xc;omega) (KP (m:=r0.length) uW rfl rfl Oz H.own6 Oz (W5 (vs:=[.slice _ _ _]) H I6 rfl rfl rfl rfl rfl Oz (λs12 H=>?_)))))))
    refine zb (xb (zn (zW (xU rfl rfl (by unfold xc;omega) (zg rfl (zb (yB (⟨(adj (az l) tr at_).length-(i+1),by omega,_,i+1,_,_,_,Φ,slots ⟨rfl,rfl,rfl,rfl,rfl,rfl,rfl,rfl,rfl,rfl,rfl,trivial⟩,H.drop0.drop0.drop0,by rw[dM,eG];omega,by omega,rfl,.block bw2 cw2 _ M r0 rfl V,r,?_⟩))))))))
    refine jt 0 Oz hs ?_
    rw[Z]
    rw[u,hd]
    rfl
   rw[hd]at d n
   simp only[Option.getD_none,bN]at d
   refine za rfl rfl (v6 rfl ⟨rfl,(za rfl rfl (yC rfl rfl ⟨rfl,(za rfl rfl (yC rfl rfl ⟨rfl,(vv (vs:=cw) (fr:=[]) H rfl rfl ZF rfl rfl (xo g) z (yM (by rw[g];rfl)) rfl Z2 Oz (λs13 H=>?_))⟩))⟩))⟩)
   refine za rfl rfl (xj rfl ⟨rfl,(yS (zh (xw rfl (zb (yI rfl (zh (qo uN rfl H.own0 (xH g) (W7 (vs:=cw) H ZF rfl rfl (xo g) z (yM (by rw[g];rfl)) Oz (λs14 H=>?_)))))))))⟩)
   refine zQ (zb (qE (qm (vi (qm (gg (vi (qm (xA (R3 uN rfl H.own3 (xH g) rfl ?_))))))))))
   have W:fo (az l) tr (f+1) at_ w last=some (j::r9):=by rw[zbe hvw,Wg,YS 0 Oz hs (by rw[Z,u,hd];rfl)]
   rw[W]
   refine⟨Dw3,vw3,Φ,_,rfl,H.drop0.drop0.drop0.drop0.drop0.up Oz,by rw[bN];rw[bF]at d;exact d,?_⟩
   have ew:mI (az l) (dw l) at_ t (some (j::r9))=mI (az l) (dw l) ((l.getD j default).1) (aft t (bck (dw l j))) (some r9):=by show qe (az l) (dw l) (j::r9) at_ t=_;rw[VY,eo,aD Oz];rfl
   rw[ew]
   exact n
  refine zb (yh rfl (yq (zn (zh (ye Kx rfl H.own4 rfl (zg rfl (xO (c:=[.int _ _]) H uW rfl rfl Oz (λb59 s15 H=>?_))))))))
  have hgt:=H.own0
  have H:=HL.mid (A:=[_,_,_,_,_]) (B:=N) (C:=Φ) H.drop0
  refine Xu H q uW Xf rfl rfl rfl (qD hgt rfl) Oz Oz (λDX v9 Q q H=>?_)
  obtain⟨a9,c9,rfl⟩:=q.isSlice
  have H:=HL.mid (A:=DX) (B:=[_,_,_,_,_]) (C:=Φ) H
  simp only[bY,cJ]at H
  refine W6 (vs:=[.slice _ _ _]) H I6 rfl rfl rfl rfl rfl Oz (λs16 H=>?_)
  refine zb (zO ?_)
  have hf2:1<=f:=by rcases f with _|f;exact absurd (S j hkm Oz (by unfold dO;omega)) id;omega
  have hp5:25 ^ (7-(f+1))<=9765625:=OO Oz
  have hb2:=hb2S
  refine vW [⟨0,0,.light,[3,4,10]⟩,⟨1,0,.light,[0,3,4,10]⟩,⟨2,0,.light,[0,3,4,10]⟩,⟨3,0,.light,[0,4,10]⟩,⟨4,0,.light,[0,3,10]⟩,⟨10,0,.new,[0,3,4]⟩,⟨5,24,.whole,[0,10]⟩,⟨6,63,.whole,[10]⟩,⟨7,127,.light,[10]⟩,⟨8,255,.light,[10]⟩,⟨9,255,.light,[10]⟩,⟨11,1535,.whole,[]⟩,⟨12,4095,.light,[]⟩] Z0 Z0 (yH rfl rfl rS rfl (o _ _ _ H).gS (by have:=H.most;omega) rfl (za rfl rfl (zg rfl ⟨rfl,(za rfl rfl (zg rfl ⟨rfl,(ve rfl rfl uN rfl H.own3 (H.lim3 Oz) (xH O) (ve rfl rfl uN rfl H.own0 (H.lim0 Oz) (xH ht8) (oH rfl rfl H FR Oz (λb17 s17 H=>?_))))⟩))⟩)))
  refine yw rfl rfl (yo rfl NV rfl (jU (d67 hI (Fine.pr H.fine (Zp X9 (Zp H.lt0 F8))) ((AH (P:=[_,_,_,_,_,_]) hK H).heap rfl (aN _)) (x:=(t,dw l j)) ⟨_,_,rfl,⟨_,rfl,r⟩,_,rfl,_,rfl,E⟩ (zdV ht hqt (show 25 ^ (7-(f+1))*25<=244140625 by omega)) (H.rm Oz)) (λv9 Q D9 Hc hv9=>?_)))
  have Hc:=HL.wider H.fine (aN _) (λ_ h=>bA _ h) Hc
  obtain⟨Φ,J,kd,H⟩:=ZM (U:=U) [_,_,_,_,_,_] H Hc
  replace r:=ax.mono (τ:=bG) J r
  obtain⟨ca,rfl,K⟩:=hv9
  replace K:=ax.mono (τ:=bG) kd K
  clear Hc J kd
  refine yw rfl rfl (yo rfl oT rfl ?_)
  have R:=HL.mid (A:=[_,_,_,_,_]) (B:=_::DX) (C:=Φ) H
  have HN:=HL.narrow (D:=_::DX) (X:=[b17]) R (by intro q9 hq9 Y;rw[bC]at Y;exact(List.pairwise_cons.mp H.dist).1 q9 (by simp only[aJ,aW]at hq9 |-;rcases hq9 with h|h<;>simp[h]) Y.symm) (by intro p hp;rw[bC]at hp;subst hp;exact H.lt0)
  have eo:oth (az l) j at_=(l.getD j default).2.1:=by unfold oth;omega
  have ho9:=S j hkm Oz (by unfold dO;omega)
  rw[eo]at ho9
  have ht9:Tn (25 ^ (7-f)) (aft t (dw l j)):=by rw[<-zcs hf7];exact ht.aft hqt
  obtain⟨_,Q,hr,Dw3,vw3,D8,t8,rfl,Hc,d,n⟩:=ih Oz HN.fine HN q W9 ((mZ.in hK R (Φ:=Φ) (λ_ h=>bA _ h)).narrow H.fine) ((tZ.in o R).narrow (λ_ _ h h1 h2=>h.heap h1 h2) H.fine) (hF.mono xJ) (at_:=(l.getD j default).2.1) (last:=(j:Int)) Oz Oz ht9 K ho9 (H.rm Oz)
  refine⟨_,_,hr,?_⟩
  clear hr
  have H:=HL.callK (A:=_::DX) (L:=[_,_,_,_,_]++Φ) R (HL.wider H.fine (aN _) (λ_ h=>bA _ h) Hc)
  clear Hc HN R
  obtain⟨Φ,J,kd,H⟩:=Km (U:=U) H
  replace r:=ax.mono (τ:=bG) J r
  replace n:=ax.mono (τ:=bG) kd n
  clear J kd
  have g:t8.length=8:=ax.len (τ:=bG) n
  have z:=ax.plain (τ:=bG) n
  revert n g z
  generalize t8=cw
  intro n g z
  have u:=sb (tr:=tr) (f:=f) (w:=w) (show(j:Int)≠last by omega) (show dO (az l) j at_ by unfold dO;omega)
  rw[eo]at u
  rcases hd:fo (az l) tr f ((l.getD j default).2.1) w (j:Int)with _|r9
  .rw[hd]at d n
   simp only[Option.getD_none,bN]at d
   refine za rfl rfl (v6 rfl ⟨rfl,(za rfl rfl (yC rfl rfl ⟨rfl,(za rfl rfl (yC rfl rfl ⟨rfl,(vv (vs:=cw) (fr:=[]) H rfl rfl ZF rfl rfl (xo g) z (yM (by rw[g];rfl)) rfl Z2 Oz (λiy H=>?_))⟩))⟩))⟩)
   refine za rfl rfl (xj rfl ⟨rfl,(yS (zh (xw rfl (zb (yh rfl (yq (zn ?_)))))))⟩)
   rw[bP]at d
   obtain⟨bw2,cw2,M,rfl,rfl,V,hcw3⟩:=d.snoc
   refine zW (ye Kx rfl H.own5 rfl (ye Kx rfl H.own5 rfl (qT Xf rfl rfl rfl (wi rfl rfl (by unfold xc;omega) (KP (m:=r0.length) uW rfl rfl Oz H.own6 Oz (W5 (vs:=[.slice _ _ _]) H I6 rfl rfl rfl rfl rfl Oz (λs19 H=>?_)))))))
   refine zb (xb (zn (zW (xU rfl rfl (by unfold xc;omega) (zg rfl (zb (yB (⟨(adj (az l) tr at_).length-(i+1),by omega,_,i+1,_,_,_,Φ,slots ⟨rfl,rfl,rfl,rfl,rfl,rfl,rfl,rfl,rfl,rfl,rfl,trivial⟩,H.drop0.drop0.drop0,by rw[dM,eG];omega,by omega,rfl,.block bw2 cw2 _ M r0 rfl V,r,?_⟩))))))))
   refine jt 0 Oz hs ?_
   rw[Z]
   rw[u,hd]
   rfl
  rw[hd]at d n
  simp only[Option.getD_none,bN]at d
  refine za rfl rfl (v6 rfl ⟨rfl,(za rfl rfl (yC rfl rfl ⟨rfl,(za rfl rfl (yC rfl rfl ⟨rfl,(vv (vs:=cw) (fr:=[]) H rfl rfl ZF rfl rfl (xo g) z (yM (by rw[g];rfl)) rfl Z2 Oz (λs20 H=>?_))⟩))⟩))⟩)
  refine za rfl rfl (xj rfl ⟨rfl,(yS (zh (xw rfl (zb (yI rfl (zh (qo uN rfl H.own0 (xH g) (W7 (vs:=cw) H ZF rfl rfl (xo g) z (yM (by rw[g];rfl)) Oz (λs21 H=>?_)))))))))⟩)
  refine zQ (zb (qE (qm (vi (qm (gg (vi (qm (xA (R3 uN rfl H.own3 (xH g) rfl ?_))))))))))
  have W:fo (az l) tr (f+1) at_ w last=some (j::r9):=by rw[zbe hvw,Wg,YS 0 Oz hs (by rw[Z,u,hd];rfl)]
  rw[W]
  refine⟨Dw3,vw3,Φ,_,rfl,H.drop0.drop0.drop0.drop0.drop0.up Oz,by rw[bN];rw[bF]at d;exact d,?_⟩
  have ew:mI (az l) (dw l) at_ t (some (j::r9))=mI (az l) (dw l) ((l.getD j default).2.1) (aft t (dw l j)) (some r9):=by show qe (az l) (dw l) (j::r9) at_ t=_;rw[VY,eo,aG Oz];rfl
  rw[ew]
  exact n
 refine zb (zO (yh rfl (qr (xD (xq (xF (zn ?_)))))))
 have hml:=bQ (110000+uA 110000 f) (show i<=6 by omega)
 refine zh (KS (c:=[.bool _,.slice _ _ _,.bool _,.slice _ _ _,.bool _,.slice _ _ _,.bool _,.slice _ _ _]) SV rfl (xp (vs:=[.bool _,.slice _ _ _,.bool _,.slice _ _ _,.bool _,.slice _ _ _,.bool _,.slice _ _ _]) H ZF rfl rfl rfl rfl rfl Oz (λs22 H=>?_)))
 refine zQ (zb (qE (xA (R3 uN rfl H.own0 rfl rfl ?_))))
 have hml:=bQ (110000+uA 110000 f) (show i<=6 by omega)
 have W:fo (az l) tr (f+1) at_ w last=none:=by rw[zbe hvw,Wg,zaU Oz hs]
 rw[W]
 refine⟨N,vw2,Φ,_,rfl,H.drop0.drop0.up Oz,by rw[Option.getD_none,bP];exact q,⟨_,_,rfl,BC,BC⟩⟩
theorem Td:vM Tryz.f45 (Tryz.f45.body.getD .skip) 3=true:=by kernel_rfl
theorem Ts:xE Tryz.prog 65=true:=by kernel_rfl
theorem O8:qV Tryz.prog 145=some 1:=by kernel_rfl
theorem Ru:jy Tryz.prog 145=some [.nilFunc]:=by kernel_rfl
theorem za0:jy Tryz.prog 22=some [.slice none 0 0]:=by kernel_rfl
theorem d65:qt 65 242 [] bG λ_=>Cj:=t65 65 _ rfl
theorem IF:Cj=some zU:=by
 unfold Cj
 rw[show dh 1 1=some 1 from(aG Uz).trans (congrArg some Uz)]
 rfl
def Gm(U:Wd)(s:St)(k:Nat)(r:Option (List Nat))(q:Q2)(v:Value)(s':St):Prop:=∃(a:au) (b:Value) (D:au) (t8:List Value),v=.tuple ⟨[b,.agg ⟨t8⟩,.bool r.isSome]⟩/\HL [] s s' (a++D) k/\Wy a b (r.getD [])/\ax (U.x D) bG t8 q
theorem zbK{W:List Nat}{s0 s:St}{n:Nat}{U:Wd}{p q0 b c d:Nat×ak}{A D Φ:au}(H:HL W s0 s ((p::(A++D))++(q0::b::c::d::Φ)) n):∃a,cu (U.x Φ) (U.x a)/\cu ((U.x Φ).x D) (U.x a)/\HL W s0 s (q0::b::p::(A++a)) n:=by
 refine⟨D++Φ,vK (dK _ _),uV (dK _ _) (List.subset_append_left _ _),?_⟩
 have H2:=HL.mid (A:=p::(A++D)) (B:=[q0,b,c,d]) (C:=Φ) H
 have e:(p::(A++D))++Φ=p::(A++(D++Φ)):=by simp
 rw[e]at H2
 exact H2.sub (.cons_cons _ (.cons_cons _ (.cons _ (.cons _ (.refl _)))))
set_option maxHeartbeats 4000000 in
set_option maxRecDepth 10000 in
theorem zbL{I:zZ}(r:zx I){s:St}(hf:Fine s){U:Wd}(R:et s U){bt:Nat}{vl:Value}{cF:List Value}{va:Int->Value}{L:List (List Value)}{l:List Fq}{tr:List Nat}(Y:∀k,k<l.length->0<=(az l k).1/\(az l k).1<(az l k).2/\(az l k).2<12)(hT:∀k,k<l.length->Tn 25 (dw l k))(G:∀k∈tr,k<l.length)(W:tr.length<=6)(p:Fo (az l) tr)(t:zH cF 0=some vl)(y:∀v:Int,0<=v->v<12->zH cF (1+v.toNat)=some (va v))(z:s.get bt=some (.cells cF 94))(F:bt<s.next)(i:∀v:Int,0<=v->v<12->Ld s (va v) (ey (adj (az l) tr v)))(hl:Sl s 40 29 vl L)(Z:fc U L l){v w:Int}(K:0<=v)(M:v<12)(hroom:43200000000+s.next<=zA) :
 ∃v' s',vr Tryz.prog I 45 #[.pointer (some ⟨bt,0,none⟩),.int .i64 v,.int .i64 w] s v' s'/\Gm U s 43200000000 (way (az l) tr v w) (mI (az l) (dw l) v zU (way (az l) tr v w)) v' s':=by
 have H:=hf.hl
 have u:=lf 110000 (show tr.length+1<=7 by omega)
 rw[Nb]at u
 refine qz 3 (r 45) Tryz.func45 rfl Td rfl ?_
 refine zh (A0 H rfl Oz (λj s1 H=>?_))
 refine zgU H rfl Oz (λm s2 H=>?_)
 refine xT H za0 Oz (λo s3 H=>?_)
 refine xT H FR Oz (λb7 s4 H=>?_)
 refine zQ (zb (zh (xT H Ru Oz (λg s5 H=>?_))))
 refine zb (zh (X2 (xp (vs:=[.func (.func 104) #[] #[.pointer (some ⟨m,0,none⟩),.pointer (some ⟨j,0,none⟩),.pointer (some ⟨o,0,none⟩),.pointer (some ⟨g,0,none⟩)]]) H O8 rfl rfl rfl rfl rfl Oz (λT H=>?_))))
 refine zb (vW [⟨0,0,.light,[]⟩,⟨1,0,.light,[0]⟩,⟨2,0,.whole,[0]⟩,⟨3,7,.whole,[]⟩,⟨4,15,.light,[]⟩,⟨5,31,.light,[]⟩,⟨6,31,.light,[]⟩,⟨7,63,.whole,[]⟩,⟨8,255,.light,[]⟩] Z0 Z0 (yH rfl rfl rS rfl H.own0 (H.lim0 Oz) rfl (za rfl rfl (zg rfl ⟨rfl,(yw rfl rfl (yo rfl Ts rfl (jU (d65 r (Fine.pr H.fine (Zp H.lt0 F8)) ((AH (P:=[_,_,_,_,_]) (A:=[]) R.w H).heap rfl (aN _)) (x:=()) rfl IF (H.rm Oz)) (λv9 T D9 Hc N=>?_))))⟩))))
 have Hc:=HL.wider H.fine (aN _) (λ_ h=>bA _ h) Hc
 obtain⟨Φ,O,kd,H⟩:=ZM (U:=U) (A:=[]) [_,_,_,_,_] H Hc
 have H:HL [] s _ (_::_::_::_::_::Φ) _:=H
 obtain⟨ca,rfl,e⟩:=N
 replace e:=ax.mono (τ:=bG) kd e
 clear Hc O kd
 refine yw rfl rfl (yo rfl oT rfl ?_)
 have f:=HL.mid (A:=[_,_]) (B:=[_]) (C:=_::_::Φ) H
 have HN:=HL.narrow (D:=[_]) (X:=[]) f (by intro q hq E;cases E) V1
 have J:1<=25 ^ (7-(tr.length+1)):=Nat.one_le_pow _ _ Uz
 obtain⟨_,T,S,n,vw3,D8,t8,rfl,Hc,c,a⟩:=sA r (bTo:=m) (bT:=j) (bW:=o) (bS:=g) (bt:=bt) (cF:=cF) (va:=va) (w:=w) (L:=L) (l:=l) Y hT G W t y (tr.length+1) Oz HN.fine HN (r0:=[]) .nil (by simp only[List.length_nil];omega) ((mZ.in R.w f (Φ:=Φ) Z8).narrow H.fine) (λs8 L8 n8 V=>(by have H9:=HL.callK f V;exact⟨(H9.own (m,_) Y8).1,(H9.own (j,_) Y8).1,(H9.own (g,_) Y8).1,(H9.own (g,.cells [.func (.func 104) #[] #[.pointer (some ⟨m,0,none⟩),.pointer (some ⟨j,0,none⟩),.pointer (some ⟨o,0,none⟩),.pointer (some ⟨g,0,none⟩)]] 145) Y8).2.1,H9.old F z,λv h0 h1=>(i v h0 h1).kept H9,hl.kept H9⟩)) (Z.mono xJ) (at_:=v) (last:= -1) K M (eN.le J) e (p.tm v (-1)) (H.rm Oz)
 refine⟨_,_,S,?_⟩
 clear S
 have H:=HL.callK (A:=[_]) (L:=_::_::_::_::Φ) f (HL.wider H.fine (aN _) (λ_ h=>h) Hc)
 clear Hc HN f
 obtain⟨Φ,O,kd,H⟩:=zbK (U:=U) H
 replace a:=ax.mono (τ:=bG) kd a
 clear O kd
 have b:t8.length=8:=ax.len (τ:=bG) a
 have d:=ax.plain (τ:=bG) a
 revert a b d
 generalize t8=Q
 intro a b d
 rw[cJ]at c
 obtain⟨a9,c9,rfl⟩:=c.isSlice
 refine za rfl rfl (v6 rfl ⟨rfl,(za rfl rfl (yC rfl rfl ⟨rfl,(za rfl rfl (yC rfl rfl ⟨rfl,(XF (vs:=Q) (fr:=[]) H rfl rfl ZF rfl rfl (xo b) d (yM (by rw[b];rfl)) rfl Z2 Oz (λs6 H=>?_))⟩))⟩))⟩)
 refine za rfl rfl (xj rfl ⟨rfl,(yS (vW [⟨0,0,.light,[1]⟩,⟨1,0,.light,[0]⟩,⟨2,0,.light,[0,1]⟩,⟨3,1,.whole,[1]⟩,⟨4,11,.whole,[]⟩,⟨5,31,.light,[]⟩] Z0 Z0 (yH rfl rfl Kx rfl H.own2 (H.lim2 Oz) rfl (ve rfl rfl uN rfl H.own1 (H.lim1 Oz) (xH b) (za rfl rfl (xw rfl ⟨rfl,(XE (vs:=[.slice _ _ _]) (fr:=[_]) H rfl rfl I6 rfl rfl rfl rfl rfl rfl Z2 Oz (λs7 H=>?_))⟩))))))⟩)
 refine XF (vs:=Q) (fr:=[]) H rfl rfl ZF rfl rfl (xo b) d (yM rfl) rfl Z2 Oz (λs8 H=>?_)
 refine za rfl rfl (xj rfl ⟨rfl,(yS (qE (xA (At Kx rfl H.own2 rfl uN rfl H.own1 (xH b) rfl ?_))))⟩)
 exact⟨n,_,Φ,_,rfl,H.drop0.drop0.drop0.up Oz,c,a⟩
theorem Ji{α:Type}:∀{l a a' b:List α},xI l a=some a'->xI l (a++b)=some (a'++b)
 | [],_,_,_,h=>by simp only[xI,bH]at h |-;rw[h]
 |_::_,[],_,_,h=>by simp[xI]at h
 |v::l,x::a,a',b,h=>by
  simp only[xI,bY]at h |-
  split at h
  .next r c=>rw[Ji c];cases h;rfl
  .cases h
theorem zcI{α:Type}:∀{j:Nat} {l a a' b:List α},yK j l a=some a'->yK j l (a++b)=some (a'++b)
 |0,_,_,_,_,h=>Ji h
 |_+1,_,[],_,_,h=>by simp[yK]at h
 |j+1,l,x::a,a',b,h=>by
  simp only[yK,bY]at h |-
  split at h
  .next r c=>rw[zcI c];cases h;rfl
  .cases h
theorem ND:vM Tryz.f236 (Tryz.f236.body.getD .skip) 1=true:=by kernel_rfl
theorem NS:xE Tryz.prog 236=true:=by kernel_rfl
theorem Lq:qV Tryz.prog 3=some 1:=by kernel_rfl
set_option maxHeartbeats 4000000 in
theorem pg{I:zZ}(a:zx I){s:St}{n:Int}:∃v' s',vr Tryz.prog I 236 #[.int .i64 n] s v' s'/\(v'=.bool false/\s'=s):=by
 refine qz 1 (a 236) Tryz.func236 rfl ND rfl ?_
 refine zh (zQ (zb (zh (zg rfl (zg rfl (pX rfl rfl (λh=>False.elim (h rfl)) (λh=>?_)))))))
 refine xj rfl (zb (qE (xA (uL ?_))))
 exact⟨rfl,rfl⟩
section
variable{P:Program}{I:zZ}{F:FF}{s:St}{Q:FF->St->Prop}{d:Option Tmp}{ty:TypeId}{pos:String}{af:Array Edge}{g:Option (Nat×Bool)}
theorem zcA{src dst:TypeId}{x:Operand}{kd:IntKind}{a:Int}{u:TypeDesc}(hu:P.underlying src=some u)(hd:P.underlying dst=some (.int .u64))(hx:zd F x=.int kd a)(h:LD a)(k:Q (ba F d (.int .u64 a)) s):br P I ⟨d,.convert src dst x,ty,pos,af,g⟩ F s Q:=
 X3 hu hd hx (by rw[Kk h];exact k)
end
theorem Nz:vM Tryz.f182 (Tryz.f182.body.getD .skip) 2=true:=by kernel_rfl
theorem Ny:vM Tryz.f176 (Tryz.f176.body.getD .skip) 3=true:=by kernel_rfl
theorem NL:xE Tryz.prog 182=true:=by kernel_rfl
theorem Nv:vM Tryz.f107 (Tryz.f107.body.getD .skip) 4=true:=by kernel_rfl
theorem NK:xE Tryz.prog 176=true:=by kernel_rfl
theorem Tf:vM Tryz.f48 (Tryz.f48.body.getD .skip) 1=true:=by kernel_rfl
theorem NH:xE Tryz.prog 107=true:=by kernel_rfl
theorem NJ:xE Tryz.prog 108=true:=by kernel_rfl
theorem P2:Tryz.prog.underlying 150=some (.int .u64):=by kernel_rfl
section
variable{P:Program}{I:zZ}{f:FuncId}{args:Array Value}{s:St}{Q:Value->St->Prop}
theorem Gy{a b:Int}(h:∃v s',vr P I f args s v s'/\(v=.bool (decide (a<b))/\s'=s))(c0:¬a<b->Q (.bool false) s)(c1:a<b->Q (.bool true) s):∃v s',vr P I f args s v s'/\Q v s':=by
 obtain⟨v,s',e,rfl,rfl⟩:=h
 by_cases c:a<b
 .rw[aH c]at e;exact⟨_,_,e,c1 c⟩
 .rw[aX c]at e;exact⟨_,_,e,c0 c⟩
end
theorem Xk:∀{L:List Int} {j:Nat},j+1<L.length->((L.set (j+1) (L.getD j 0)).set j (L.getD (j+1) 0)).Perm L
 | [],_,h=>by simp at h
 | [x],_,h=>by simp at h
 |x::y::L,0,_=>by simpa using List.Perm.swap x y L
 |x::y::L,j+1,h=>by
  have:=Xk (L:=y::L) (j:=j) (by simpa using h)
  simpa using this.cons x
theorem zgF{L:List Int}{i j:Nat}{x:Int}(hi:i<L.length):(L.set i x).getD j 0=if j=i then x else L.getD j 0:=by
 rw[aB,List.getElem?_set]
 by_cases h:i=j
 .subst h;simp[hi]
 .rw[aD h,aD (Ne.symm h),aB]
def Cy(L:List Int)(i j:Nat):Prop:=∀p q,p<q->q<=i->(p≠j->q≠j->L.getD p 0<=L.getD q 0)/\(p=j->L.getD j 0<=L.getD q 0)
def tH(L:List Int)(i:Nat):Prop:=∀p q,p<q->q<i->L.getD p 0<=L.getD q 0
theorem tH.but{L:List Int}{i:Nat}(h:tH L i):Cy L i i:=λp q a hqi=>⟨λ_ hq=>h p q a Oz,λhp=>by omega⟩
theorem Cy.srt{L:List Int}{i j:Nat}(h:Cy L i j)(hj:j=0\/¬L.getD j 0<L.getD (j-1) 0):tH L (i+1):=λp q a hqi=>by
 by_cases hp:p=j
 .exact hp▸(h p q a Oz).2 hp
 .by_cases c:q=j
  .subst c
   rcases hj with rfl|hj
   .omega
   .by_cases b:p=q-1
    .rw[b];omega
    .have:=(h p (q-1) Oz Oz).1 hp Oz;omega
  .exact(h p q a Oz).1 hp c
theorem Cy.swap{L:List Int}{i j:Nat}(h:Cy L i (j+1))(hj:L.getD (j+1) 0<L.getD j 0)(hl:j+1<L.length):Cy ((L.set (j+1) (L.getD j 0)).set j (L.getD (j+1) 0)) i j:=λp q l c=>by
 have e:∀k,((L.set (j+1) (L.getD j 0)).set j (L.getD (j+1) 0)).getD k 0=if k=j then L.getD (j+1) 0 else if k=j+1 then L.getD j 0 else L.getD k 0:=λk=>by
  rw[zgF V3,zgF hl]
 rw[e,e,e]
 refine⟨λhp m=>?_,λhp=>?_⟩
 .rw[aD hp,aD m]
  by_cases b:p=j+1
  .rw[aG b,aD Oz]
   exact(h j q Oz c).1 Oz Oz
  .rw[aD b]
   by_cases a:q=j+1
   .rw[aG a]
    exact(h p j Oz Oz).1 b Oz
   .rw[aD a]
    exact(h p q l c).1 b a
 .subst hp
  rw[aG rfl,aD Oz]
  by_cases a:q=p+1
  .rw[aG a];omega
  .rw[aD a]
   exact(h (p+1) q Oz c).2 rfl
theorem tH.pw{L:List Int}(h:tH L L.length):L.Pairwise (·<=·):=by
 rw[List.pairwise_iff_getElem]
 intro p q hp b a
 have:=h p q a b
 rwa[aB,aB,aE hp,aE b]at this
theorem uk{L:List Int}{rest:List Value}{k m:Nat}(hk:k<L.length)(hm:m=k):zH (xk L++rest) m=some (.int .i64 (L.getD k 0)):=by
 subst hm
 have h1:=Jl hk
 rw[zN]at h1 |-
 rw[cA (by rw[gh];exact hk)]
 exact h1
theorem Vb{x:Int}{L:List Int}{rest:List Value}{k m:Nat}(hk:k<L.length)(hm:m=k):yK m [.int .i64 x] (xk L++rest)=some (xk (L.set k x)++rest):=zcI (zeU hk hm)
set_option maxHeartbeats 4000000 in
set_option maxRecDepth 10000 in
theorem AI{I:zZ}(c:zx I){s:St}{a b:Int}:∃v' s',vr Tryz.prog I 182 #[.int .i64 a,.int .i64 b] s v' s'/\(v'=.bool (decide (a<b))/\s'=s):=by
 refine qz 2 (c 182) Tryz.func182 rfl Nz rfl ?_
 refine zh (zQ (zb (zh (zg rfl (yo rfl NS rfl ?_)))))
 obtain⟨_,_,e,rfl,rfl⟩:=pg (s:=s) (n:=a) c
 refine⟨_,_,e,?_⟩
 clear e
 refine xw rfl (xB rfl (xB rfl (xB rfl (gU rfl (xw rfl (zg rfl (zg rfl (kw rfl rfl (λh=>?_) (λh=>?_)))))))))
 .refine wz rfl rfl (xj rfl (zb (qE (xA (uL (⟨congrArg Value.bool ?_,rfl⟩))))))
  exact(aH Oz).symm
 refine wz rfl rfl (xj rfl (zb (qE (xA (uL (⟨congrArg Value.bool ?_,rfl⟩))))))
 exact(aX Oz).symm
set_option maxHeartbeats 4000000 in
set_option maxRecDepth 10000 in
theorem zaD{I:zZ}(o:zx I){s0 s:St}{c m cap:Nat}{L0:List Int}{rest:List Value}{R:au}(H:HL [] s0 s ((c,.cells (xk L0++rest) tI)::R) m)(h12:L0.length<=12)(hroom:m+1+s0.next<=zA) :
 ∃v' s',vr Tryz.prog I 176 #[.slice (some ⟨c,0,none⟩) L0.length cap,.int .i64 0,.int .i64 (L0.length:Int)] s v' s'/\(∃L,v'=.tuple ⟨[]⟩/\HL [] s0 s' ((c,.cells (xk L++rest) tI)::R) m/\L.Perm L0/\L.Pairwise (·<=·)):=by
 refine qz 3 (o 176) Tryz.func176 rfl Ny rfl ?_
 refine zh (zg rfl (xU rfl rfl (by unfold xc;omega) (yb rfl (zb (yn (kM (λk F s1=>∃(G:FF) (i:Nat) (L:List Int),F=fT G [(0,.slice (some ⟨c,0,none⟩) L0.length cap),(1,.int .i64 0),(2,.int .i64 (L0.length:Int)),(6,.int .i64 (i:Int))]/\HL [] s0 s1 ((c,.cells (xk L++rest) tI)::R) m/\L.Perm L0/\L.length=L0.length/\1<=i/\(i<=L0.length\/i=1)/\k=13-i/\tH L i) ?_ 12 _ _ ?_))))))
 rotate_left
 .exact⟨_,1,L0,slots ⟨rfl,rfl,rfl,rfl,trivial⟩,H,.refl _,rfl,by omega,by omega,rfl,λp q h1 h2=>by omega⟩
 rintro k F s1 ⟨G,i,L,rfl,H,hp,n,hi1,hi,rfl,hs⟩
 refine zO (zh (zg rfl (zg rfl (kw rfl rfl (λh=>?_) (λh=>?_)))))
 .refine zb (yI rfl (yq (zn (zO (yn (zh (zg rfl (yb rfl (zb (yn (kM (λk F s1=>∃(G:FF) (j:Nat) (L2:List Int),F=fT G [(0,.slice (some ⟨c,0,none⟩) L0.length cap),(1,.int .i64 0),(2,.int .i64 (L0.length:Int)),(6,.int .i64 (i:Int)),(7,.int .i64 (j:Int))]/\HL [] s0 s1 ((c,.cells (xk L2++rest) tI)::R) m/\L2.Perm L0/\L2.length=L0.length/\j<=i/\k=j/\Cy L2 i j) ?_ i _ _ ?_)))))))))))
  rotate_left
  .exact⟨_,i,L,slots ⟨rfl,rfl,rfl,rfl,rfl,trivial⟩,H,hp,n,by omega,rfl,hs.but⟩
  rintro kx F s1 ⟨G,j,L2,rfl,H,e,b,hj,hkj,a⟩
  refine zO (vW [⟨0,0,.light,[]⟩,⟨1,0,.light,[]⟩,⟨2,3,.light,[]⟩,⟨3,7,.light,[]⟩,⟨4,15,.light,[12]⟩,⟨5,15,.light,[12]⟩,⟨6,63,.light,[12]⟩,⟨7,127,.light,[12]⟩,⟨8,15,.light,[7]⟩,⟨9,15,.light,[7]⟩,⟨10,527,.light,[7]⟩,⟨11,1807,.light,[7]⟩,⟨12,3855,.light,[7]⟩,⟨13,8191,.whole,[]⟩,⟨14,16383,.light,[]⟩] Z0 Z0 (za rfl rfl (zg rfl ⟨rfl,(za rfl rfl (zg rfl ⟨rfl,(za rfl rfl (R9 rfl rfl (λh=>⟨rfl,?_⟩) (λh=>⟨rfl,?_⟩)))⟩))⟩)))
  .refine za rfl rfl (xw rfl ⟨rfl,(za rfl rfl (zC rfl ⟨rfl,(za rfl rfl (zg rfl ⟨rfl,(za rfl rfl (yd Gb rfl rfl Oz Oz ⟨rfl,(yH rfl rfl fu rfl H.own0 (H.lim0 Oz) (uk (k:=j) Oz Oz) (za rfl rfl (zC rfl ⟨rfl,(za rfl rfl (zg rfl ⟨rfl,(za rfl rfl (wi rfl rfl (by unfold xc;omega) ⟨rfl,(za rfl rfl (yd Gb rfl rfl Oz Oz ⟨rfl,(yH rfl rfl fu rfl H.own0 (H.lim0 Oz) (uk (k:=j-1) Oz Oz) (yw rfl rfl (yo rfl NL rfl (Gy (AI o) (λl=>?_) (λl=>?_)))))⟩))⟩))⟩))⟩)))⟩))⟩))⟩))⟩)
   .refine za rfl rfl (vQ rfl rfl ⟨rfl,(yS (yh rfl (qr (xD (xq (xF (xb (zn (zW (zg rfl (xU rfl rfl (by unfold xc;omega) ?_)))))))))))⟩)
    refine yb rfl (zb (yB (⟨13-(i+1),by omega,_,i+1,L2,slots ⟨rfl,rfl,rfl,rfl,trivial⟩,H,e,b,by omega,by omega,rfl,a.srt ?_⟩)))
    exact .inr Oz
   refine za rfl rfl (vQ rfl rfl ⟨rfl,(yS (yI rfl (yq (zn (zO (yn ?_))))))⟩)
   obtain⟨k,rfl⟩:∃k,j=k+1:=⟨j-1,by omega⟩
   have hj1:(((k+1:Nat):Int)-1).toNat=k:=by omega
   rw[Nat.add_sub_cancel]at l
   refine uz [⟨0,0,.light,[9,13]⟩,⟨1,0,.light,[9,13]⟩,⟨2,0,.light,[9,13]⟩,⟨3,0,.light,[9,13]⟩,⟨4,8,.light,[9,13]⟩,⟨5,0,.light,[13]⟩,⟨6,0,.light,[13]⟩,⟨7,64,.light,[13]⟩,⟨8,224,.light,[13]⟩,⟨9,480,.light,[13]⟩,⟨10,0,.light,[9]⟩,⟨11,0,.light,[9]⟩,⟨12,3072,.light,[9]⟩,⟨13,7168,.light,[9]⟩,⟨14,16355,.light,[]⟩,⟨15,32739,.whole,[]⟩,⟨16,65535,.light,[]⟩,⟨17,131071,.whole,[]⟩] Z0 Z0 (za rfl rfl (zC rfl ⟨rfl,(za rfl rfl (zg rfl ⟨rfl,(za rfl rfl (zC rfl ⟨rfl,(za rfl rfl (zg rfl ⟨rfl,(za rfl rfl (wi rfl rfl (by unfold xc;omega) ⟨rfl,(za rfl rfl (zC rfl ⟨rfl,(za rfl rfl (zg rfl ⟨rfl,(za rfl rfl (wi rfl rfl (by unfold xc;omega) ⟨rfl,(za rfl rfl (yd Gb rfl rfl Oz Oz ⟨rfl,(yH rfl rfl fu rfl H.own0 (H.lim0 Oz) (uk (k:=k) Oz Oz) (za rfl rfl (zC rfl ⟨rfl,?_⟩)))⟩))⟩))⟩))⟩))⟩))⟩))⟩))⟩))⟩))
   refine za rfl rfl (zg rfl ⟨rfl,(za rfl rfl (yd Gb rfl rfl Oz Oz ⟨rfl,(yH rfl rfl fu rfl H.own0 (H.lim0 Oz) (uk (k:=k+1) Oz Oz) (za rfl rfl (yd Gb rfl rfl Oz Oz ⟨rfl,(vv (vs:=[.int .i64 _]) (fr:=[]) H rfl rfl Lq rfl rfl rfl rfl (Vb (k:=k+1) Oz Oz) rfl V1 Oz (λr H=>?_))⟩)))⟩))⟩)
   refine za rfl rfl (yd Gb rfl rfl Oz Oz ⟨rfl,(vv (vs:=[.int .i64 _]) (fr:=[]) H rfl rfl Lq rfl rfl rfl rfl (Vb (k:=k) V3 Oz) rfl V1 Oz (λr H=>?_))⟩)
   refine yS (xb (zn (zW (zg rfl (wi rfl rfl (by unfold xc;omega) (yb rfl (zb (yB (⟨k,by omega,_,k,_,slots ⟨rfl,rfl,rfl,rfl,by show Value.int .i64 (((k+1:Nat):Int)-1)=_;congr 1;omega,trivial⟩,H,(Xk Oz).trans e,by rw[bR,bR];exact b,by omega,rfl,a.swap Oz Oz⟩)))))))))
  refine za rfl rfl (xw rfl ⟨rfl,(kD rfl rfl (kD rfl rfl (kD rfl rfl (kD rfl rfl (kD rfl rfl (kD rfl rfl (kD rfl rfl (kD rfl rfl (kD rfl rfl (kD rfl rfl (za rfl rfl (gU rfl ⟨rfl,?_⟩))))))))))))⟩)
  refine yS (yh rfl (qr (xD (xq (xF (xb (zn (zW (zg rfl (xU rfl rfl (by unfold xc;omega) (yb rfl ?_)))))))))))
  refine zb (yB (⟨13-(i+1),by omega,_,i+1,L2,slots ⟨rfl,rfl,rfl,rfl,trivial⟩,H,e,b,by omega,by omega,rfl,a.srt ?_⟩))
  exact .inl Oz
 refine zb (yh rfl (qr (xD (xq (xF (Go.M.nrm_end (Q3 ?_)))))))
 have hii:L0.length<=i:=by omega
 exact⟨L,rfl,H,hp,tH.pw λp q h1 h2=>hs p q h1 Oz⟩
set_option maxHeartbeats 4000000 in
set_option maxRecDepth 10000 in
theorem Hu{I:zZ}(i:zx I){s0 s:St}{b e cap:Nat}{L0:List Int}{rest:List Value}{R:au}(H:HL [] s0 s ((b,.cells (xk L0++rest) tI)::R) e)(c:L0.length<=12){z:Int}(a:e+1+s0.next<=zA) :
 ∃v' s',vr Tryz.prog I 107 #[.slice (some ⟨b,0,none⟩) L0.length cap,.int .i64 0,.int .i64 (L0.length:Int),.int .i64 z] s v' s'/\(∃L,v'=.tuple ⟨[]⟩/\HL [] s0 s' ((b,.cells (xk L++rest) tI)::R) e/\L.Perm L0/\L.Pairwise (·<=·)):=by
 refine qz 4 (i 107) Tryz.func107 rfl Nv rfl ?_
 refine zh (zQ (zb (zh (zQ (zb (yn (XI (yn (zh (zg rfl (zg rfl ?_)))))))))))
 refine wi rfl rfl (by unfold xc;omega) (yb rfl (zb (zO (zh (zg rfl (Hn rfl rfl (λh=>?_) (λh=>False.elim Oz)))))))
 refine zb (yI rfl (zh (zC rfl (zg rfl (zg rfl (yo rfl NK rfl ?_))))))
 obtain⟨_,s9,j,L,rfl,k,l⟩:=zaD i H c a
 refine⟨_,_,j,?_⟩
 clear j
 refine zb (qE (qm (vi (qm (vi (xA (Q3 ?_)))))))
 exact⟨L,rfl,k,l⟩
set_option maxHeartbeats 4000000 in
set_option maxRecDepth 10000 in
theorem BJ{I:zZ}(e:zx I){s0 s:St}{c h cap:Nat}{L0:List Int}{rest:List Value}{R:au}(H:HL [] s0 s ((c,.cells (xk L0++rest) tI)::R) h)(b:L0.length<=12)(a:h+1+s0.next<=zA) :
 ∃v' s',vr Tryz.prog I 48 #[.slice (some ⟨c,0,none⟩) L0.length cap] s v' s'/\(∃L,v'=.tuple ⟨[]⟩/\HL [] s0 s' ((c,.cells (xk L++rest) tI)::R) h/\L.Perm L0/\L.Pairwise (·<=·)):=by
 refine qz 1 (e 48) Tryz.func48 rfl Tf rfl ?_
 refine zh (zC rfl (qT Xf rfl rfl rfl (yb rfl (zb (zW (zC rfl (zg rfl (zg rfl (zcA un3 P2 rfl (by unfold LD;omega) (yo rfl NJ rfl (zdE (zhi e b) (λz=>?_))))))))))))
 refine yo rfl NH rfl ?_
 obtain⟨_,s9,i,L,rfl,j,k⟩:=Hu e H b a (z:=z)
 refine⟨_,_,i,?_⟩
 clear i
 refine zb (Go.M.nrm_end (Q3 ?_))
 exact⟨L,rfl,j,k⟩
end Go.Proofs.YtocnbjjmmgolfaaGreat
