/- The program's search for a way xJ the tree jh: what it stands on. -/
import Derived.Test.YtocnbjjmmgolfaaGreatA25
import Derived.Test.YtocnbjjmmgolfaaGreatA12
import Derived.Test.YtocnbjjmmgolfaaGreatA22
import Derived.Test.YtocnbjjmmgolfaaGreatA23
set_option linter.unusedSimpArgs false
set_option linter.unusedVariables false
set_option linter.unusedSectionVars false
namespace Go.Proofs.YtocnbjjmmgolfaaGreat
open Go Go.M Go.Proofs.C14
def eds(F:List Fq)(k:Nat):Int×Int:=((F.getD k default).1,(F.getD k default).2.1)
def nts(r:List Nat):List Int:=r.map fun(k:Nat)=>(k:Int)
def trn(F:List Fq)(k:Nat):Q2:=(F.getD k default).2.2.2.2.2.1
theorem wU(r:List Nat):(nts r).length=r.length:=by simp[nts]
theorem nts_getD{r:List Nat}{k:Nat}(h:k<r.length):(nts r).getD k 0=(r.getD k 0:Int):=YI h
theorem gh(l:List Int):(xm l).length=l.length:=by simp[xm]
theorem Zk(r:List Int)(x:Int):xm (r++[x])=xm r++[.int .i64 x]:=by simp[xm]
theorem xq{l:List Value}{n:Nat}(h:l.length=n):Nat.beq (yD l 0) n=true:=by
 rw[yd,h,bK];exact eM n
theorem zcp{α:Type}:∀{l c:List α},l.length≤c.length→xO l c=some (l++c.drop l.length)
 | [],_,_=>rfl
 |_::_,[],h=>by simp at h
 |v::l,x::c,h=>by
  simp only[aW]at h
  simp only[xO,zcp (l:=l) (c:=c) Oz]
  rfl
theorem yQ{α:Type}{l c:List α}(h:l.length=c.length):yO 0 l c=some l:=by
 show xO l c=some l
 rw[zcp Oz,h,List.drop_length,bM]
theorem WV{α:Type}{k:Nat}{l b b':List α}(h:yO k l b=some b'):∀a:List α,yO (a.length+k) l (a++b)=some (a++b')
 | []=>by rw[List.length_nil,cA];exact h
 |x::a=>by
  rw[aW,show a.length+1+k=(a.length+k)+1 by omega]
  simp only[yO,bV,WV h a]
theorem xM{c:List Value}{n:Nat}(h:c.length=n):y8 n (xw 0 c)=some c:=by
 rw[y7,yU,List.drop_zero,aF Oz,dC Oz]
structure FitC(U:Wd)(c:List Value)(d:Fq):Prop where
 len:c.length=29
 plain:c.all Go.M.plainCell=true
 a:zF c 0=some (.int .i64 d.1)
 b:zF c 1=some (.int .i64 d.2.1)
 t:∃t,y8 8 (xw 5 c)=some t∧Rep U T36 t d.2.2.2.2.2.1
theorem fitC{U:Wd}{c:List Value}{d:Fq}(h:Rep U T40 c d):FitC U c d:=by
 have hl:c.length=29:=Rep.len (τ:=T40) h
 have hp:=Rep.plain (τ:=T40) h
 obtain⟨c1,r1,rfl,h1,e,r2,rfl,h2,f,r3,rfl,l,i,r4,rfl,m,j,r5,rfl,o,a,r6,rfl,b,h7⟩:=h
 obtain rfl:c1=_:=h1
 obtain rfl:e=_:=h2
 obtain rfl:f=_:=l
 obtain rfl:i=_:=m
 obtain rfl:j=_:=o
 have l6:a.length=8:=Rep.len (τ:=T36) b
 refine⟨hl,hp,rfl,rfl,a,?_,b⟩
 rw[y7,yU]
 simp only[bV,cI,fA,List.drop_zero]
 rw[aF (by rw[aQ];omega),List.take_append_of_le_length Oz,dC Oz]
theorem FitC.mono{U a:Wd}{c:List Value}{d:Fq}(h:FitC U c d)(hs:WLe U a):FitC a c d:=by
 obtain⟨h1,h2,b,e,t,f,i⟩:=h
 exact⟨h1,h2,b,e,t,f,Rep.mono (τ:=T36) hs i⟩
structure FitsC(U:Wd)(L:List (List Value))(F:List Fq):Prop where
 len:L.length=F.length
 fit:∀k,k<F.length→FitC U (L.getD k []) (F.getD k default)
theorem FitsC.mono{U a:Wd}{L:List (List Value)}{F:List Fq}(h:FitsC U L F)(hs:WLe U a):FitsC a L F:=⟨h.len,fun k hk=>(h.fit k hk).mono hs⟩
theorem zeM{s:St}{a:Option Addr}{len cap:Nat}{U:Wd}{L:List (List Value)}{F:List Fq}(h:Sl s 40 29 (.slice a len cap) L)(j:FitsC U L F){k:Nat}(hk:k<F.length) :
 ∃b off c,a=some ⟨b,off,none⟩∧s.get b=some (.cells c 40)∧b<s.next∧y8 29 (xw (off+(k:Int).toNat*29) c)=some (L.getD k []):=by
 obtain⟨b,off,c,e,h1,h2,f⟩:=h.at (i:=(k:Int)) rfl (by rw[j.len];exact hk)
 exact⟨b,off,c,e,h1,h2,f⟩
theorem Knw.xx{s:St}{U:Wd}(h:Knw s U){W:List Nat}{s0:St}{L D:Hp'}{n:Nat}(H:HL W s0 s L n)(hs:D⊆L):Knw s (U.x D):=
 ⟨fun t w v l x=>x.elim (h.s t w v l) fun y=>y.sl H hs,fun t w b off n cap L x lo hi cap' off' h1 h2 a c=>x.imp (fun y=>h.cut t w b off n cap L y lo hi cap' off' h1 h2 a c) fun y=>y.cut h1 h2 a c⟩
def KnW(s:St)(W:List Nat)(U:Wd):Prop:=∀s' L n,HL W s s' L n→Knw s' U
theorem KnW.in{s0 s:St}{W:List Nat}{U:Wd}{A R Φ:Hp'}{n:Nat}(h:KnW s0 W U)(H:HL W s0 s (A++R) n)(hs:Φ⊆R):KnW s (A.map Prod.fst) (U.x Φ):=fun s' L k c=>by
 have a:=HL.callW H c (fun b hb=>by obtain⟨p,hp,rfl⟩:=List.mem_map.mp hb;exact⟨p.2,hp⟩) (fun p hp=>dS hp)
 exact(h _ _ _ a).xx a fun p hp=>bE _ (hs hp)
theorem KnW.narrow{s:St}{W X:List Nat}{U:Wd}(h:KnW s W U)(hf:Fine s):KnW {next:=s.next,bar:=s.bar,prot:=X++s.prot,heap:=s.heap} W U:=fun _ _ _ a=>
 (h _ _ _ (HL.wider hf (aO _) (fun _ h=>bE _ h) a)).heap rfl (aO _)
theorem Knw.w{s:St}{U:Wd}(h:Knw s U):KnW s [] U:=fun _ _ _ H=>⟨fun t w v l x=>(h.s t w v l x).kept H,h.cut⟩
section
variable{W:List Nat}{s0 s s':St}{A B Φ D:Hp'}{U:Wd}{n k:Nat}
theorem ZM(P:Hp')(H:HL W s0 s (P++(A++Φ)) n)(Hc:HL [] s s' D k):∃Φ',WLe (U.x Φ) (U.x Φ')∧WLe ((U.x Φ).x D) (U.x Φ')∧HL W s0 s' (P++(A++Φ')) (n+k):=
 ⟨Φ++D,vF (List.subset_append_left _ _),uT (List.subset_append_left _ _) (dJ _ _),by rw[←bD A,←bD P,←bD];rw[bD P];exact H.callE Hc⟩
theorem knWX{P:Hp'}(a:KnW s0 W U)(H:HL W s0 s (P++(A++Φ)) n):Knw s (U.x Φ):=(a _ _ _ H).xx H Z8
end
section
variable{P:Program}{I:zU}{F:FF}{s:St}{Q:FF→St→Prop}{W:List Nat}{s0:St}{L:Hp'}{n:Nat}
theorem _root_.Go.M.HL.narrow{D:Hp'}{X:List Nat}(H:HL W s0 s (D++L) n)(c:∀q∈D,q.1∉X)(e:∀p∈X,p<s.next) :
 HL (D.map Prod.fst) {s with prot:=X++s.prot} {s with prot:=X++s.prot} D 0 where
 bar:=rfl
 prot:=rfl
 wfb:=H.fine.wfb
 wfp:=fun p hp=>by
  rcases aU.mp hp with hp|hp
  ·exact e p hp
  ·exact H.fine.wfp p hp
 le:=aO _
 most:=aO _
 own:=fun p hp=>by
  obtain⟨h1,h2,b,_⟩:=H.own p (cE _ hp)
  refine⟨h1,h2,?_,.inr (dS hp)⟩
  have hn:=c p hp
  simp only[St.may,aG,bC,cL,ne_eq,eU,not_exists,not_and]at b ⊢
  refine⟨b.1,fun q a he=>?_⟩
  rcases aU.mp a with a|a
  ·have:=aJ he
   exact hn (this▸a)
  ·exact b.2 q a he
 dist:=(List.pairwise_append.mp H.dist).1
 kept:=fun _ _ _=>rfl
theorem dr_new{ops:List Oper}{ix anc:Nat}{free:List Nat}{t:Tmp}{e:TypeId}{ty:TypeId}{pos:String}{af:Array Edge}{g:Option (Nat×Bool)}{c:List Value}{rest:List Drawn}(j:zF ops ix=some ⟨some t,.alloc e,ty,pos,af,g⟩)(o:yi ops F ⟨some t,.alloc e,ty,pos,af,g⟩=true)
 (H:HL W s0 s L n) (h:jn P e=some c) (m:s0.next+n<zw) (k:∀b s',HL W s0 s' ((b,.cells c e)::L) (n+1)→yZ P I ops rest (upd F (some t) (.pointer (some ⟨b,0,none⟩))) s' Q):yZ P I ops (⟨ix,anc,.new,free⟩::rest) F s Q:=by
 have a:=H.room m
 refine draw_new j o a (ob:=.cells c e) ?_ (k _ _ (H.new _ m))
 have f:({next:=s.next,bar:=s.next,prot:=[],heap:=.nil}:St).room=true:=a
 simp only[jn]at h
 split at h
 ·next i hb hi=>
  split at h
  ·next z l=>
   cases h
   simp only[zh,hb,wW,gM,hi,l,XH,f]
   rfl
  ·cases h
 ·cases h
end
section
variable{P:Program}{I:zU}{F:FF}{s:St}{Post:Value→St→Prop}
theorem zaF{t t2:Nat}{ty:TypeId}{b off n:Nat}{c l:List Value}{e:TypeId}{v:Value}(hs:zV P ty=some (some n))(hx:F t=.pointer (some ⟨b,off,none⟩))(hg:s.get b=some (.cells c e))(hc:y8 n (xw off c)=some l)(h2:F t2=v)(h:Post (.tuple ⟨[.agg ⟨l⟩,v]⟩) s) :
 endQ P [.cell t ty,.tmp t2] Post F s:=by
 constructor
 simp only[qS,zcs hs hx hg hc,h2]
 exact h
theorem load1_of{t:TypeId}{v w:Value}{b off:Nat}{c:List Value}{e:TypeId}(hs:zV P t=some none)(hx:v=.pointer (some ⟨b,off,none⟩))(hg:s.get b=some (.cells c e))(hc:zF c off=some w):vY P t v s=some w:=by
 subst hx
 simp only[vY,hg,hs,jk,hc]
theorem end_sct{t t2 p:Nat}{ty ty2:TypeId}{b off l off2 o:Nat}{c m l2:List Value}{e e2:TypeId}{v w:Value}(hs:zV P ty=some none)(hx:F t=.pointer (some ⟨b,off,none⟩))(hg:s.get b=some (.cells c e))(hc:zF c off=some w)
 (i:zV P ty2=some (some o)) (j:F t2=.pointer (some ⟨l,off2,none⟩)) (f:s.get l=some (.cells m e2)) (a:y8 o (xw off2 m)=some l2) (q:F p=v) (h:Post (.tuple ⟨[w,.agg ⟨l2⟩,v]⟩) s) :
 endQ P [.cell t ty,.cell t2 ty2,.tmp p] Post F s:=by
 constructor
 simp only[qS,load1_of hs hx hg hc,zcs i j f a,q]
 exact h
end
section
variable{P:Program}{I:zU}{F:FF}{s:St}{Q:FF→St→Prop}{d:Option Tmp}{ty:TypeId}{pos:String}{af:Array Edge}{g:Option (Nat×Bool)}
theorem kz{x:Operand}{a:Addr}(hx:zd F x=.pointer (some a))(k:Q (upd F d (.pointer (some a))) s):OpW P I ⟨d,.nilCheck x,ty,pos,af,g⟩ F s Q:=
 zA (by simp only[zh,KX,hx];rfl) k
end
theorem _root_.Go.M.HL.rm{W:List Nat}{s0 s:St}{L:Hp'}{n k:Nat}(H:HL W s0 s L n)(h:k+(n+s0.next)≤zw):s.next+k≤zw:=by have:=H.most;omega
def adj(e:Nat→Int×Int)(tr:List Nat)(v:Int):List Nat:=tr.filter fun k=>decide (Inc e k v)
structure Stat(bTo bT bW bS bt:Nat)(vl:Value)(cF:List Value)(va:Int→Value)(L:List (List Value))(e:Nat→Int×Int)(tr:List Nat)(w:Int)(s:St):Prop where
 gTo:s.get bTo=some (.cells [.int .i64 w] 3)
 gT:s.get bT=some (.cells [.pointer (some ⟨bt,0,none⟩)] 91)
 gS:s.get bS=some (.cells [.func (.func 104) #[] #[.pointer (some ⟨bTo,0,none⟩),.pointer (some ⟨bT,0,none⟩),.pointer (some ⟨bW,0,none⟩),.pointer (some ⟨bS,0,none⟩)]] 145)
 lS:bS<s.next
 gF:s.get bt=some (.cells cF 94)
 adj:∀v:Int,0≤v→v<12→SlD s (va v) (nts (adj e tr v))
 sl:Sl s 40 29 vl L
theorem Stat.heap{bTo bT bW bS bt:Nat}{vl:Value}{cF:List Value}{va:Int→Value}{L:List (List Value)}{e:Nat→Int×Int}{tr:List Nat}{w:Int}{s s':St}(h:Stat bTo bT bW bS bt vl cF va L e tr w s)(a:s'.heap=s.heap)(hn:s'.next=s.next):Stat bTo bT bW bS bt vl cF va L e tr w s':=by
 have hg:∀b,s'.get b=s.get b:=fun b=>by simp only[St.get,a]
 exact⟨by rw[hg];exact h.gTo,by rw[hg];exact h.gT,by rw[hg];exact h.gS,by rw[hn];exact h.lS,by rw[hg];exact h.gF,fun v h0 h1=>(h.adj v h0 h1).heap a Oz,h.sl.heap a Oz⟩
def Sts(s:St)(W:List Nat)(p:St→Prop):Prop:=∀s' L n,HL W s s' L n→p s'
theorem Sts.in{p:St→Prop}{s0 s:St}{W:List Nat}{A R:Hp'}{n:Nat}(h:Sts s0 W p)(H:HL W s0 s (A++R) n):Sts s (A.map Prod.fst) p:=fun _ _ _ a=>
 h _ _ _ (HL.callW H a (fun b hb=>by obtain⟨p,hp,rfl⟩:=List.mem_map.mp hb;exact⟨p.2,hp⟩) (fun p hp=>dS hp))
theorem Sts.narrow{p:St→Prop}(hp:∀s s':St,p s→s'.heap=s.heap→s'.next=s.next→p s'){s:St}{W X:List Nat}(h:Sts s W p)(hf:Fine s):Sts {next:=s.next,bar:=s.bar,prot:=X++s.prot,heap:=s.heap} W p:=fun _ _ _ a=>
 hp _ _ (h _ _ _ (HL.wider hf (aO _) (fun _ h=>bE _ h) a)) rfl rfl
inductive Wy:Hp'→Value→List Nat→Prop
 |nil:Wy [] (.slice none 0 0) []
 |block (b cap len:Nat) (rest:List Value) (r:List Nat) (hl:len=r.length) (hc:len+rest.length=cap / 2):Wy [(b,.cells (xm (nts r)++rest) tI)] (.slice (some ⟨b,0,none⟩) len cap) r
theorem Wy.isSlice{D:Hp'}{v:Value}{r:List Nat}(h:Wy D v r):∃a cap,v=.slice a r.length cap:=by
 cases h with
 |nil=>exact⟨_,_,rfl⟩
 |block b cap len rest r hl hc=>subst hl;exact⟨_,_,rfl⟩
theorem YE(r:List Nat)(k:Nat):nts (r++[k])=nts r++[(k:Int)]:=by simp[nts]
theorem Wy.snoc{D:Hp'}{v:Value}{r:List Nat}{k:Nat}(h:Wy D v (r++[k])):∃b cap rest,D=[(b,.cells (xm (nts r)++rest) tI)]∧v=.slice (some ⟨b,0,none⟩) (r.length+1) cap∧r.length+rest.length=cap / 2∧r.length+1≤cap / 2:=by
 generalize a:r++[k]=q at h
 cases h with
 |nil=>simp at a
 |block b cap len rest q hl hc=>
  subst a hl
  refine⟨b,cap,.int .i64 (k:Int)::rest,?_,by rw[aQ];rfl,?_,?_⟩
  ·rw[YE,Zk,bD];rfl
  ·simp only[aQ,aW,List.length_nil]at hc ⊢;omega
  ·simp only[aQ,aW,List.length_nil]at hc;omega
section
variable{P:Program}{I:zU}{F:FF}{s:St}{Q:FF→St→Prop}{d:Option Tmp}{ty:TypeId}{pos:String}{af:Array Edge}{g:Option (Nat×Bool)}
variable{W:List Nat}{s0:St}{L:Hp'}{n:Nat}
theorem Xk{D:Hp'}{args:Array Operand}{ts:Array TypeId}{t t2 e2:TypeId}{tr:List TypeId}{x y:Operand}{v:Value}{by_ a:Nat}{z:List Value}{r:List Nat}(H:HL W s0 s (D++L) n)(ho:Wy D v r)(hs:ql P t=some (tI,1,by_,z))(c:P.underlying t2=some (.slice e2))
 (f:ts.toList=t::t2::tr) (ha:args.toList=[x,y]) (hx:zd F x=v) (he:kS s 1 (zd F y) 1 [.int .i64 (a:Int)]) (hb:(r.length+1)*(by_+1)≤1073741824) (h:s0.next+n<zw)
 (k:∀D' v' s',Wy D' v' (r++[a])→HL W s0 s' (D'++L) (n+1)→Q (upd F d v') s'):OpW P I ⟨d,.call ⟨.builtin .append,args,ts⟩,ty,pos,af,g⟩ F s Q:=by
 have h9:∀r:List Nat,xm (nts (r++[a]))=xm (nts r)++[.int .i64 (a:Int)]:=fun r=>by rw[YE,Zk]
 cases ho with
 |nil=>
  refine j4 (D:=[]) H .nil hs c f ha hx he Oz rfl rfl (by simpa using hb) h (fun b s' H' _=>?_)
  exact k [(b,_)] _ s' (.block b 3 1 [] [a] rfl rfl) H'
 |block b cap len rest r hl hc=>
  subst hl
  by_cases hf:rest=[]
  ·subst hf
   simp only[bM,List.length_nil,bK]at H hc
   refine KQ H hs c f ha hx he (by rw[gh,wU,cG]) Oz rfl rfl hb h (fun b' s' H'=>?_)
   refine k [(b',_)] _ s' ?_ H'
   have:=Wy.block b' (2*(r.length+1)+1) (r.length+1) [] (r++[a]) Y8 (by rw[List.length_nil];omega)
   rw[bM,h9]at this
   exact this
  ·obtain⟨i,rest,rfl⟩:=List.exists_cons_of_ne_nil hf
   have e:yO (r.length*1) [Value.int .i64 (a:Int)] (xm (nts r)++i::rest)=some (xm (nts r)++(.int .i64 (a:Int)::rest)):=by
    have:=WV (k:=0) (l:=[Value.int .i64 (a:Int)]) (b:=i::rest) (b':=.int .i64 (a:Int)::rest) rfl (xm (nts r))
    rwa[gh,wU,bK,←cG r.length]at this
   simp only[aW]at hc
   refine jf (A:=[]) H hs c f ha hx he Oz rfl e Oz (fun s' H'=>?_)
   refine k [(b,_)] _ s' ?_ (H'.up Oz)
   have:=Wy.block b cap (r.length+1) rest (r++[a]) Y8 Oz
   rw[h9,bD]at this
   exact this
end
def stp(e:Nat→Int×Int)(tr:List Nat)(f:Nat)(v w last:Int):Nat→Option (List Nat):=fun(k:Nat)=>if (k:Int)=last∨¬Inc e k v then none else(dfs e tr f (oth e k v) w k).map (k::·)
theorem zaK{e:Nat→Int×Int}{tr:List Nat}{f:Nat}{v w last:Int}(h:¬v=w):dfs e tr (f+1) v w last=tr.findSome? (stp e tr f v w last):=by
 rw[dfs,aD h];rfl
theorem zfY{e:Nat→Int×Int}{tr:List Nat}{f:Nat}{v w last:Int}{k:Nat}(h:(k:Int)=last∨¬Inc e k v):stp e tr f v w last k=none:=aF h
theorem stp_on{e:Nat→Int×Int}{tr:List Nat}{f:Nat}{v w last:Int}{k:Nat}(h1:(k:Int)≠last)(h2:Inc e k v):stp e tr f v w last k=(dfs e tr f (oth e k v) w k).map (k::·):=aD (by intro h;rcases h with h|h;exact h1 h;exact h h2)
theorem VP{e:Nat→Int×Int}{tr:List Nat}{f:Nat}{v w last:Int}:tr.findSome? (stp e tr f v w last)=(adj e tr v).findSome? (stp e tr f v w last):=
 (uG fun k _ hk=>zfY (.inr (of_decide_eq_false hk))).symm
theorem adj_mem{e:Nat→Int×Int}{tr:List Nat}{v:Int}{k:Nat}(h:k∈adj e tr v):k∈tr∧Inc e k v:=⟨(List.mem_filter.mp h).1,dE (List.mem_filter.mp h).2⟩
theorem zhi{e:Nat→Int×Int}{tr:List Nat}{v:Int}:(adj e tr v).length≤tr.length:=List.length_filter_le ..
def wres(e:Nat→Int×Int)(T:Nat→Q2)(v:Int)(t:Q2):Option (List Nat)→Q2
 |some r=>xJ e T r v t
 |none=>(0,0)
section
variable{W:List Nat}{s0 s s':St}{n:Nat}{U:Wd}
theorem Q9{p q0 a b c f:Nat×MObj}{A D Φ:Hp'}(H:HL W s0 s ((p::(A++D))++(q0::a::b::c::f::Φ)) n):∃Φ',WLe (U.x Φ) (U.x Φ')∧WLe ((U.x Φ).x D) (U.x Φ')∧HL W s0 s (q0::a::b::c::f::p::(A++Φ')) n:=by
 refine⟨D++Φ,vF (dJ _ _),uT (dJ _ _) (List.subset_append_left _ _),?_⟩
 have h:=HL.mid (A:=p::(A++D)) (B:=[q0,a,b,c,f]) (C:=Φ) H
 have e:(p::(A++D))++Φ=p::(A++(D++Φ)):=by simp
 rw[e]at h
 exact h
end
def QB(D N:Nat)(x:Rat):Prop:=∃n:Int,x*(D:Rat)=(n:Rat)∧n.natAbs≤N
theorem WI{D:Nat}{n:Int}{x:Rat}(hn:x*(D:Rat)=(n:Rat)):x.num*(D:Int)=n*(x.den:Int):=by
 have hx:(x.num:Rat)=x*(x.den:Rat):=by
  have h:=Rat.num_divInt_den x
  rw[Rat.divInt_eq_div]at h
  have hd:((x.den:Int):Rat)≠0:=by
   have:=x.den_nz
   exact_mod_cast this
  have h2:(x.num:Rat) / ((x.den:Int):Rat)*((x.den:Int):Rat)=(x.num:Rat):=Rat.div_mul_cancel hd
  rw[h]at h2
  rw[←h2]
  rfl
 have:(x.num:Rat)*(D:Rat)=(n:Rat)*(x.den:Rat):=by rw[hx,←hn];grind
 exact_mod_cast this
theorem QB.num{D N:Nat}{x:Rat}(c:0<D)(h:QB D N x):x.num.natAbs≤N∧x.den≤D:=by
 obtain⟨n,hn,hN⟩:=h
 have h1:=WI hn
 have hc:=x.reduced
 have h2:x.den∣D:=by
  have b:x.den∣x.num.natAbs*D:=by
   have:(x.num*(D:Int)).natAbs=(n*(x.den:Int)).natAbs:=by rw[h1]
   rw[eW,eW,Int.natAbs_natCast,Int.natAbs_natCast]at this
   rw[this]
   exact Nat.dvd_mul_left _ _
  exact Nat.Coprime.dvd_of_dvd_mul_left (Nat.Coprime.symm hc) b
 refine⟨?_,Nat.le_of_dvd c h2⟩
 obtain⟨k,hk⟩:=h2
 have h4:x.num.natAbs*k=n.natAbs:=by
  have:(x.num*(D:Int)).natAbs=(n*(x.den:Int)).natAbs:=by rw[h1]
  rw[eW,eW,Int.natAbs_natCast,Int.natAbs_natCast,hk]at this
  have hp:=x.den_pos
  have:x.den*(x.num.natAbs*k)=x.den*n.natAbs:=by rw[Nat.mul_comm x.den n.natAbs,←this];ac_rfl
  exact Nat.eq_of_mul_eq_mul_left hp this
 have a:0<k:=by
  rcases Nat.eq_zero_or_pos k with rfl|h
  ·omega
  ·exact h
 have:x.num.natAbs*1≤x.num.natAbs*k:=bX _ a
 omega
theorem QB.sm{D N:Nat}{x:Rat}(h:QB D N x)(a:0<D∧D<500000000∧N<500000000):Sm x:=by
 have:=h.num a.1
 exact⟨by omega,by omega⟩
theorem QB.int{n:Int}{N:Nat}(h:n.natAbs≤N):QB 1 N (n:Rat):=⟨n,by grind,h⟩
theorem QB.add{D N M:Nat}{x y:Rat}(h:QB D N x)(g:QB D M y):QB D (N+M) (x+y):=by
 obtain⟨n,hn,hN⟩:=h
 obtain⟨m,a,hM⟩:=g
 exact⟨n+m,by rw[Rat.add_mul,hn,a];push_cast;rfl,by omega⟩
theorem QB.neg{D N:Nat}{x:Rat}(h:QB D N x):QB D N (-x):=by
 obtain⟨n,hn,hN⟩:=h
 exact⟨-n,by rw[Rat.neg_mul,hn];push_cast;rfl,by omega⟩
theorem QB.sub{D N M:Nat}{x y:Rat}(h:QB D N x)(g:QB D M y):QB D (N+M) (x-y):=by
 rw[Rat.sub_eq_add_neg];exact h.add g.neg
theorem QB.mul{D E N M:Nat}{x y:Rat}(h:QB D N x)(g:QB E M y):QB (D*E) (N*M) (x*y):=by
 obtain⟨n,hn,b⟩:=h
 obtain⟨m,c,a⟩:=g
 refine⟨n*m,?_,by rw[eW];exact eE b a⟩
 push_cast
 rw[←hn,←c]
 grind
theorem QB.up{D N k:Nat}{x:Rat}(h:QB D N x):QB (D*k) (N*k) x:=by
 obtain⟨n,hn,a⟩:=h
 refine⟨n*k,?_,by rw[eW,Int.natAbs_natCast];exact bN _ a⟩
 push_cast
 rw[←hn]
 grind
theorem QB.le{D N M:Nat}{x:Rat}(h:QB D N x)(g:N≤M):QB D M x:=by
 obtain⟨n,hn,hN⟩:=h
 exact⟨n,hn,by omega⟩
theorem xr{a b:Rat}(ha:Sm a)(hb:Sm b):qJ a b=some (a+b):=aF (ha.s2 hb)
theorem vv{a b:Rat}(ha:Sm a)(hb:Sm b):wO a b=some (a-b):=aF (ha.s2 hb)
theorem qM{a b:Rat}(ha:Sm a)(hb:Sm b):qT a b=some (a*b):=aF ⟨ha,hb⟩
theorem zhk{a b:Rat}(ha:Sg a)(hb:Sg b):qJ a b=some (a+b):=aF (ha.s2 hb)
theorem subW_ok{a b:Rat}(ha:Sg a)(hb:Sg b):wO a b=some (a-b):=aF (ha.s2 hb)
theorem zaN{a b:Rat}(ha:Sg a)(hb:Sg b):yw a b=some (wd a b):=aF (ha.s2 hb)
theorem QB.sg{D N:Nat}{x:Rat}(h:QB D N x)(a:0<D∧D<1000000∧N<250000000000):Sg x:=by
 have:=h.num a.1
 exact⟨by omega,by omega⟩
theorem kL{a:Rat}(ha:Sm a):j7 a=some (-a):=aF ha.s1
theorem q8{a b:Rat}(ha:Sm a)(hb:Sm b):yw a b=some (wd a b):=aF (ha.s2 hb)
theorem uX{a b:Rat}(ha:Sm a)(hb:Sm b):wy a b=some (decide (a=b)):=aF (ha.s2 hb)
theorem gP{a:Rat}(ha:Sm a):qz a=some true:=aF ha.s1
theorem Kt{a:Rat}(ha:Sm a):qP a=some (yC a.num 0):=aF ha.s1
abbrev SmI(n:Int):Prop:=n.natAbs<500000000
theorem sm_int{n:Int}(h:SmI n):Sm (n:Rat):=⟨by show(n:Rat).num.natAbs<_;rw[Rat.num_intCast];exact h,by show(n:Rat).den<_;rw[Rat.den_intCast];omega⟩
def qI(n:Int):Rat:=(n:Rat)
theorem jw{n:Int}(h:SmI n):Sm (qI n):=sm_int h
theorem zaZ{m n:Int}(e:SmI m)(hn:SmI n):qJ (qI m) (qI n)=some (qI (m+n)):=by rw[xr (jw e) (jw hn)];unfold qI;push_cast;rfl
theorem subI{m n:Int}(e:SmI m)(hn:SmI n):wO (qI m) (qI n)=some (qI (m-n)):=by rw[vv (jw e) (jw hn)];unfold qI;push_cast;rfl
theorem zah{m n:Int}(e:SmI m)(hn:SmI n):qT (qI m) (qI n)=some (qI (m*n)):=by rw[qM (jw e) (jw hn)];unfold qI;push_cast;rfl
theorem negI{m:Int}(e:SmI m):j7 (qI m)=some (qI (-m)):=by rw[kL (jw e)];unfold qI;push_cast;rfl
theorem signI{m:Int}(e:SmI m):qP (qI m)=some (yC m 0):=by rw[Kt (jw e)];unfold qI;rw[Rat.num_intCast]
theorem JH{m:Int}(e:SmI m):qz (qI m)=some true:=gP (jw e)
theorem cmpQ_int(m n:Int):wd (qI m) (qI n)=yC m n:=by unfold qI;rw[←zaO,Rat.num_intCast,Rat.num_intCast,Rat.den_intCast,Rat.den_intCast];simp
theorem zgX{m n:Int}(e:SmI m)(hn:SmI n):yw (qI m) (qI n)=some (yC m n):=by rw[q8 (jw e) (jw hn),cmpQ_int]
theorem ofI{n:Int}(h:n.natAbs<1000000000):ofG n 1=some (qI n):=by
 unfold ofG qI
 rw[aF ⟨h,by decide,by decide⟩,Rat.divInt_eq_div]
 congr 1
 rw[show((1:Int):Rat)=1 from rfl,Rat.div_def]
 grind
theorem q0:(0:Rat)=qI 0:=rfl
def ptQ(p:Int×Int):Rat×Rat:=(qI p.1,qI p.2)
theorem pt1{p:Int×Int}:(ptQ p).1=qI p.1:=rfl
theorem pt2{p:Int×Int}:(ptQ p).2=qI p.2:=rfl
def Nr(N:Nat)(p:Int×Int):Prop:=p.1.natAbs≤N∧p.2.natAbs≤N
def xe(a b:Int×Int):Int×Int:=(a.1-b.1,a.2-b.2)
def yI(a b:Int×Int):Int:=a.1*b.2-a.2*b.1
def yM(a b:Int×Int):Int:=a.1*b.1+a.2*b.2
def zl(a b c:Int×Int):Int:=yI (xe b a) (xe c a)
theorem Nr.sub{N M:Nat}{a b:Int×Int}(h:Nr N a)(g:Nr M b):Nr (N+M) (xe a b):=by
 unfold Nr xe at *
 simp only
 omega
theorem vj{N M:Nat}{m n:Int}(h:m.natAbs≤N)(g:n.natAbs≤M):(m*n).natAbs≤N*M:=by rw[eW];exact eE h g
theorem Nr.cross{N M:Nat}{a b:Int×Int}(h:Nr N a)(g:Nr M b):(yI a b).natAbs≤2*(N*M):=by
 have h1:=vj h.1 g.2
 have h2:=vj h.2 g.1
 unfold yI
 omega
theorem Nr.dot{N M:Nat}{a b:Int×Int}(h:Nr N a)(g:Nr M b):(yM a b).natAbs≤2*(N*M):=by
 have h1:=vj h.1 g.1
 have h2:=vj h.2 g.2
 unfold yM
 omega
theorem Nr.le{N M:Nat}{a:Int×Int}(h:Nr N a)(g:N≤M):Nr M a:=⟨bH h.1 g,bH h.2 g⟩
theorem Nr.s1{a:Int×Int}(h:Nr 10000 a):SmI a.1:=by have:=h.1;unfold SmI;omega
theorem Nr.s2{a:Int×Int}(h:Nr 10000 a):SmI a.2:=by have:=h.2;unfold SmI;omega
section
variable{a b c d:Int×Int}
theorem Yf(ha:Nr 10000 a)(hb:Nr 10000 b):z39 (ptQ a) (ptQ b)=some (ptQ (xe a b)):=by
 unfold z39
 simp only[pt1,pt2,subI ha.s1 hb.s1,subI ha.s2 hb.s2,aA]
 rfl
theorem Ym(ha:Nr 10000 a)(hb:Nr 10000 b):Q4 (ptQ a) (ptQ b)=some (ptQ (xe a b)):=by
 unfold Q4
 simp only[pt1,pt2,subI ha.s1 hb.s1,subI ha.s2 hb.s2,aA]
 rfl
theorem z226_int(ha:Nr 10000 a)(hb:Nr 10000 b):z226 (ptQ a) (ptQ b)=some (qI (yI a b)):=by
 unfold z226
 have h1:=vj ha.1 hb.2
 have h2:=vj ha.2 hb.1
 simp only[pt1,pt2,zah ha.s1 hb.s2,zah ha.s2 hb.s1,aA]
 rw[subI (by unfold SmI;omega) (by unfold SmI;omega)]
 rfl
theorem Yh(ha:Nr 10000 a)(hb:Nr 10000 b):zdG (ptQ a) (ptQ b)=some (qI (yM a b)):=by
 unfold zdG
 have h1:=vj ha.1 hb.1
 have h2:=vj ha.2 hb.2
 simp only[pt1,pt2,zah ha.s1 hb.s1,zah ha.s2 hb.s2,aA]
 rw[zaZ (by unfold SmI;omega) (by unfold SmI;omega)]
 rfl
theorem Yl(ha:Nr 1000 a)(hb:Nr 1000 b)(hc:Nr 1000 c):z164 (ptQ a) (ptQ b) (ptQ c)=some (yC (zl a b c) 0):=by
 unfold z164
 have h1:=(hb.sub ha)
 have h2:=(hc.sub ha)
 have h3:=h1.cross h2
 rw[Yf (hb.le Uz) (ha.le Uz),aA,Yf (hc.le Uz) (ha.le Uz),aA,z226_int (h1.le Uz) (h2.le Uz),aA,signI (by unfold SmI;omega),aA]
 rfl
end
attribute [local irreducible] zj
theorem zN:(i64 0=some 0∧i64 1=some 1∧i64 2=some 2∧i64 3=some 3∧i64 4=some 4)∧i64 5=some 5∧i64 6=some 6∧i64 7=some 7∧i64 8=some 8:=by
 refine⟨⟨?_,?_,?_,?_,?_⟩,?_,?_,?_,?_⟩<;>exact xh Uz
theorem kJ{n:Int}:yC n 0=0↔n=0:=by unfold yC;split<;>(try split)<;>omega
theorem kI{m n:Int}:yC m n<0↔m<n:=by unfold yC;split<;>(try split)<;>omega
theorem VF{m n:Int}:0<yC m n↔n<m:=by unfold yC;split<;>(try split)<;>omega
theorem cmpI_le{m n:Int}:yC m n≤0↔m≤n:=by unfold yC;split<;>(try split)<;>omega
theorem uz(m n:Int):yC m n = -1∧m<n∨yC m n=0∧m=n∨yC m n=1∧n<m:=by unfold yC;split<;>(try split)<;>omega
section
variable{a b c d:Int×Int}
theorem zbk{m n:Int}(hm:m.natAbs<100000000)(hn:n.natAbs<100000000):Qm [qI m,qI n]=some (qI (m+n)):=by
 unfold Qm
 have h0:qJ (qI 0) (qI m)=some (qI m):=by
  have:=zaZ (m:=0) (n:=m) Uz (by unfold SmI;omega)
  rw[Int.zero_add]at this
  exact this
 have h1:=zaZ (m:=m) (n:=n) (by unfold SmI;omega) (by unfold SmI;omega)
 rw[zC,ze,q0]
 simp[idx,zN,h0]
 rw[ze]
 simp[zN,h1]
 rw[ze]
 simp
theorem uP(ha:Nr 5000 a)(hb:Nr 5000 b):z259 (ptQ a) (ptQ b)=some (qI (yI a b)):=by
 unfold z259
 have h1:=vj ha.1 hb.2
 have h2:=vj ha.2 hb.1
 have e:=ha.le (M:=10000) Uz
 have f:=hb.le (M:=10000) Uz
 simp only[pt1,pt2,zah e.s1 f.s2,zah e.s2 f.s1,aA]
 rw[negI (by unfold SmI;omega),aA,zbk Oz Oz]
 rfl
theorem z257_int(ha:Nr 5000 a)(hb:Nr 5000 b):Jz (ptQ a) (ptQ b)=some (qI (yM a b)):=by
 unfold Jz
 have h1:=vj ha.1 hb.1
 have h2:=vj ha.2 hb.2
 have e:=ha.le (M:=10000) Uz
 have f:=hb.le (M:=10000) Uz
 simp only[pt1,pt2,zah e.s1 f.s1,zah e.s2 f.s2,aA]
 rw[zbk Oz Oz]
 rfl
theorem y5(ha:Nr 1000 a)(hb:Nr 1000 b)(hc:Nr 1000 c):jP (ptQ a) (ptQ b) (ptQ c)=some (yC (zl a b c) 0):=by
 unfold jP
 have h1:=(hb.sub ha)
 have h2:=(hc.sub ha)
 have h3:=h1.cross h2
 rw[Ym (hb.le Uz) (ha.le Uz),aA,Ym (hc.le Uz) (ha.le Uz),aA,uP (h1.le Uz) (h2.le Uz),aA,signI (by unfold SmI;omega),aA]
 rfl
def onI(a b p:Int×Int):Bool:=decide (zl a b p=0)&&decide (yM (xe a p) (xe b p)≤0)
theorem Yg(ha:Nr 1000 a)(hb:Nr 1000 b)(hc:Nr 1000 c):QX (ptQ a) (ptQ b) (ptQ c)=some (onI a b c):=by
 unfold QX onI
 have h1:=(ha.sub hc)
 have h2:=(hb.sub hc)
 have h3:=h1.dot h2
 rw[y5 ha hb hc,aA]
 by_cases h:zl a b c=0
 ·rw[aF (by simp[kJ,h]),Ym (ha.le Uz) (hc.le Uz),aA,Ym (hb.le Uz) (hc.le Uz),aA,z257_int (h1.le Uz) (h2.le Uz),aA,signI (by unfold SmI;omega),aA]
  simp[h,cmpI_le]
 ·rw[aD (by simp[kJ,h])]
  simp[h]
def vy(a b c d:Int×Int):Bool:=(decide (yC (zl a b c) 0*yC (zl a b d) 0<0)&&decide (yC (zl c d a) 0*yC (zl c d b) 0<0))||onI a b c||onI a b d||onI c d a||onI c d b
theorem YX(m n:Int):(yC m n).natAbs≤1:=by rcases uz m n with h|h|h<;>rw[h.1]<;>decide
theorem Yi(ha:Nr 1000 a)(hb:Nr 1000 b)(hc:Nr 1000 c)(hd:Nr 1000 d):z242 (ptQ a) (ptQ b) (ptQ c) (ptQ d)=some (vy a b c d):=by
 unfold z242 vy
 have e1:=vj (YX (zl a b c) 0) (YX (zl a b d) 0)
 have e2:=vj (YX (zl c d a) 0) (YX (zl c d b) 0)
 simp only[y5 ha hb hc,y5 ha hb hd,y5 hc hd ha,y5 hc hd hb,Yg ha hb hc,Yg ha hb hd,Yg hc hd ha,Yg hc hd hb,aA]
 rw[xh Oz,xh Oz]
 simp only[aA]
 generalize yC (zl a b c) 0*yC (zl a b d) 0=u
 generalize yC (zl c d a) 0*yC (zl c d b) 0=v
 by_cases hu:u<0<;>by_cases hv:v<0<;>cases onI a b c<;>cases onI a b d<;>cases onI c d a<;>simp[hu,hv]
def vH(n a b c d:Int×Int):Bool:=(decide (yM n a<yM n c)&&decide (yM n a<yM n d)&&decide (yM n b<yM n c)&&decide (yM n b<yM n d))||(decide (yM n c<yM n a)&&decide (yM n d<yM n a)&&decide (yM n c<yM n b)&&decide (yM n d<yM n b))
theorem uQ{n:Int×Int}(hn:Nr 2000 n)(ha:Nr 1000 a)(hb:Nr 1000 b)(hc:Nr 1000 c)(hd:Nr 1000 d):z228 (ptQ n) (ptQ a) (ptQ b) (ptQ c) (ptQ d)=some (vH n a b c d):=by
 unfold z228 vH
 have ga:=hn.dot ha
 have gb:=hn.dot hb
 have gc:=hn.dot hc
 have gd:=hn.dot hd
 rw[Yh (hn.le Uz) (ha.le Uz),Yh (hn.le Uz) (hb.le Uz),Yh (hn.le Uz) (hc.le Uz),Yh (hn.le Uz) (hd.le Uz)]
 simp only[aA]
 generalize yM n a=p at *
 generalize yM n b=q at *
 generalize yM n c=r at *
 generalize yM n d=s at *
 have s1:SmI p:=by unfold SmI;omega
 have s2:SmI q:=by unfold SmI;omega
 have e:SmI r:=by unfold SmI;omega
 have f:SmI s:=by unfold SmI;omega
 simp only[zgX s1 e,zgX s1 f,zgX s2 e,zgX s2 f,aA,kI,VF]
 by_cases h1:p<r<;>by_cases h2:p<s<;>by_cases g:q<r<;>simp only[h1,h2,g,decide_true,dU,dP,cK,aX,Bool.true_and,eZ,Bool.and_true,Bool.and_false,Bool.false_or,Bool.true_or]<;>by_cases i:r<p<;>by_cases j:s<p<;>by_cases k:r<q<;>by_cases h:q<s<;>simp[h,i,j,k]
def yX(a:Int×Int):Int×Int:=(-a.2,a.1)
theorem zbf(ha:Nr 10000 a):z227 (ptQ a)=some (ptQ (yX a)):=by
 unfold z227
 rw[pt2,negI ha.s2]
 rfl
def kR(a b c d:Int×Int):Bool:= !(vH (yX (xe b a)) a b c d) && !(vH (yX (xe d c)) a b c d) && !(vH (xe b a) a b c d) && !(vH (xe d c) a b c d) && !(vH (xe c a) a b c d)
theorem Yk(ha:Nr 1000 a)(hb:Nr 1000 b)(hc:Nr 1000 c)(hd:Nr 1000 d):z166 (ptQ a) (ptQ b) (ptQ c) (ptQ d)=some (kR a b c d):=by
 unfold z166 kR
 have g1:=hb.sub ha
 have g2:=hd.sub hc
 have l:=hc.sub ha
 have e:∀{x:Int×Int},Nr 2000 x→Nr 2000 (yX x):=fun h=>by
  obtain⟨h1,h2⟩:=h
  exact⟨by show(-_:Int).natAbs≤_;omega,h1⟩
 have t1:=e g1
 have t2:=e g2
 rw[Yf (hb.le Uz) (ha.le Uz),Yf (hd.le Uz) (hc.le Uz),Yf (hc.le Uz) (ha.le Uz)]
 simp only[aA]
 rw[zbf (g1.le Uz),zbf (g2.le Uz)]
 simp only[aA]
 rw[zC]
 generalize hx1:yX (xe b a)=m at *
 generalize hx2:yX (xe d c)=x2 at *
 generalize xe b a=n at *
 generalize xe d c=o at *
 generalize xe c a=p at *
 have f:=uQ t1 ha hb hc hd
 have g:=uQ t2 ha hb hc hd
 have i:=uQ g1 ha hb hc hd
 have j:=uQ g2 ha hb hc hd
 have k:=uQ l ha hb hc hd
 rw[ze]
 simp[idx,zN,f]
 cases vH m a b c d
 case true=>simp
 simp
 rw[ze]
 simp[idx,zN,g]
 cases vH x2 a b c d
 case true=>simp
 simp
 rw[ze]
 simp[idx,zN,i]
 cases vH n a b c d
 case true=>simp
 simp
 rw[ze]
 simp[idx,zN,j]
 cases vH o a b c d
 case true=>simp
 simp
 rw[ze]
 simp[idx,zN,k]
 cases vH p a b c d
 case true=>simp
 simp
 rw[ze]
 simp
end
end Go.Proofs.YtocnbjjmmgolfaaGreat
namespace Go.Proofs.YtocnbjjmmgolfaaGreat
open Go Go.M Go.Proofs.C14
theorem sep_no{A B C D e f i j:Int}(hA:A<0)(k:0<B)(hC:0<C)(hD:D<0)(hs:B-A=C-D)(hn:B*i-A*j=C*f-D*e) :
 ¬(e<i∧e<j∧f<i∧f<j)∧¬(i<e∧j<e∧i<f∧j<f):=by
 have pos:∀{u v:Int},0<u→0<v→0<u*v:=fun h g=>Int.mul_pos h g
 constructor
 ·rintro⟨h1,h2,m,n⟩
  by_cases h:e≤f
  ·have e1:=pos k (show 0<i-f by omega)
   have e2:=pos (show 0 < -A by omega) (show 0<j-f by omega)
   have l:=Int.mul_nonneg (show 0 ≤ -D by omega) (show 0≤f-e by omega)
   have:B*(i-f) + -A*(j-f) + -D*(f-e)=(B*i-A*j-(C*f-D*e))-(B-A-(C-D))*f:=by grind
   rw[hn,hs]at this
   simp only[Int.sub_self,Int.zero_mul]at this
   omega
  ·have e1:=pos k (show 0<i-e by omega)
   have e2:=pos (show 0 < -A by omega) (show 0<j-e by omega)
   have l:=Int.mul_nonneg (show 0≤C by omega) (show 0≤e-f by omega)
   have:B*(i-e) + -A*(j-e)+C*(e-f)=(B*i-A*j-(C*f-D*e))-(B-A-(C-D))*e:=by grind
   rw[hn,hs]at this
   simp only[Int.sub_self,Int.zero_mul]at this
   omega
 ·rintro⟨h1,h2,m,n⟩
  by_cases h:e≤f
  ·have e1:=pos k (show 0<e-i by omega)
   have e2:=pos (show 0 < -A by omega) (show 0<e-j by omega)
   have l:=Int.mul_nonneg (show 0≤C by omega) (show 0≤f-e by omega)
   have:B*(e-i) + -A*(e-j)+C*(f-e) = -(B*i-A*j-(C*f-D*e))+(B-A-(C-D))*e:=by grind
   rw[hn,hs]at this
   simp only[Int.sub_self,Int.zero_mul,Int.neg_zero,Int.add_zero]at this
   omega
  ·have e1:=pos k (show 0<f-i by omega)
   have e2:=pos (show 0 < -A by omega) (show 0<f-j by omega)
   have l:=Int.mul_nonneg (show 0 ≤ -D by omega) (show 0≤e-f by omega)
   have:B*(f-i) + -A*(f-j) + -D*(e-f) = -(B*i-A*j-(C*f-D*e))+(B-A-(C-D))*f:=by grind
   rw[hn,hs]at this
   simp only[Int.sub_self,Int.zero_mul,Int.neg_zero,Int.add_zero]at this
   omega
theorem XY{m n:Int}(hm:m≠0)(hn:n≠0):yC m 0*yC n 0<0↔(m<0∧0<n)∨(0<m∧n<0):=by
 rcases uz m 0 with h|h|h<;>rcases uz n 0 with g|g|g<;>rw[h.1,g.1]<;>omega
section
variable{a b c d:Int×Int}
theorem QN(e:zl a b c≠0)(f:zl a b d≠0)(g:zl c d a≠0)(i:zl c d b≠0):vy a b c d=kR a b c d:=by
 have hs:zl a b d-zl a b c=zl c d a-zl c d b:=by unfold zl yI xe;grind
 have hn:∀n:Int×Int,zl a b d*yM n c-zl a b c*yM n d=zl c d a*yM n b-zl c d b*yM n a:=fun n=>by unfold zl yI xe yM;grind
 have k:yM (yX (xe b a)) b=yM (yX (xe b a)) a:=by unfold yX xe yM;grind
 have x2:yM (yX (xe b a)) c=yM (yX (xe b a)) a+zl a b c:=by unfold yX xe yM zl yI xe;grind
 have l:yM (yX (xe b a)) d=yM (yX (xe b a)) a+zl a b d:=by unfold yX xe yM zl yI xe;grind
 have m:yM (yX (xe d c)) d=yM (yX (xe d c)) c:=by unfold yX xe yM;grind
 have o:yM (yX (xe d c)) a=yM (yX (xe d c)) c+zl c d a:=by unfold yX xe yM zl yI xe;grind
 have p:yM (yX (xe d c)) b=yM (yX (xe d c)) c+zl c d b:=by unfold yX xe yM zl yI xe;grind
 have j:vy a b c d=(decide (yC (zl a b c) 0*yC (zl a b d) 0<0)&&decide (yC (zl c d a) 0*yC (zl c d b) 0<0)):=by
  unfold vy onI
  simp[e,f,g,i]
 rw[j]
 simp only[XY e f,XY g i]
 by_cases g1:(zl a b c<0∧0<zl a b d)∨(0<zl a b c∧zl a b d<0)
 ·by_cases g2:(zl c d a<0∧0<zl c d b)∨(0<zl c d a∧zl c d b<0)
  ·have hb:∀n,vH n a b c d=false:=fun n=>by
    have:¬(yM n a<yM n c∧yM n a<yM n d∧yM n b<yM n c∧yM n b<yM n d)∧¬(yM n c<yM n a∧yM n d<yM n a∧yM n c<yM n b∧yM n d<yM n b):=by
     rcases g1 with g1|g1
     ·exact sep_no g1.1 g1.2 Oz Oz hs (hn n)
     ·exact sep_no (A:= -zl a b c) (B:= -zl a b d) (C:= -zl c d a) (D:= -zl c d b) Oz Oz Oz Oz Oz (by have:=hn n;grind)
    unfold vH
    rw[←Bool.not_eq_true]
    simp only[dA,aG,aB,not_or]
    exact⟨fun h=>this.1 ⟨h.1.1.1,h.1.1.2,h.1.2,h.2⟩,fun h=>this.2 ⟨h.1.1.1,h.1.1.2,h.1.2,h.2⟩⟩
   unfold kR
   simp[hb,g1,g2]
  ·have:vH (yX (xe d c)) a b c d=true:=by
    unfold vH
    rw[m,o,p]
    simp only[dA,aG,aB]
    omega
   unfold kR
   simp[this,g2]
 ·have:vH (yX (xe b a)) a b c d=true:=by
   unfold vH
   rw[k,x2,l]
   simp only[dA,aG,aB]
   omega
  unfold kR
  simp[this,g1]
end
attribute [local irreducible] zj
section
variable{a b c d:Int×Int}
theorem z163_int(ha:Nr 1000 a)(hb:Nr 1000 b)(hc:Nr 1000 c)(hd:Nr 1000 d):z163 [ptQ a,ptQ b,ptQ c,ptQ d]=some true:=by
 have v:∀{p:Int×Int},Nr 1000 p→qz (qI p.1)=some true∧qz (qI p.2)=some true:=fun h=>⟨JH (h.le (M:=10000) Uz).s1,JH (h.le (M:=10000) Uz).s2⟩
 have va:=v ha
 have e:=v hb
 have f:=v hc
 have g:=v hd
 unfold z163
 rw[zC,ze]
 simp[idx,zN,pt1,pt2,va]
 rw[ze]
 simp[zN,pt1,pt2,e]
 rw[ze]
 simp[zN,pt1,pt2,f]
 rw[ze]
 simp[zN,pt1,pt2,g]
 rw[ze]
 simp
def k7(a b c d:Int×Int):Int:=yI a b+yI b c+yI c d+yI d a
def jz(a b c d:Int×Int):Bool:= !decide (zl a b c=0) && !kR a b c d && !decide (zl b c d=0) && !kR b c d a && !decide (zl c d a=0) && !kR c d a b && !decide (zl d a b=0) && !kR d a b c&&decide (0<k7 a b c d)
theorem W5{n:Int}(h:n.natAbs<100000000):(qT (qI n) (Rat.divInt 1 2)).bind qP=some (yC n 0):=by
 have hs:Sm (Rat.divInt 1 2):=by decide
 rw[qM (jw (by unfold SmI;omega)) hs,aA]
 unfold qI
 have f:QB 2 n.natAbs ((n:Rat)*Rat.divInt 1 2):=⟨n,by rw[Rat.divInt_eq_div];show(n:Rat)*(1 / 2)*2=n;grind,aO _⟩
 rw[Kt (f.sm ⟨by decide,by decide,by omega⟩)]
 congr 1
 have e:((n:Rat)*Rat.divInt 1 2).num*2=n*((n:Rat)*Rat.divInt 1 2).den:=by
  exact WI (D:=2) (by rw[Rat.divInt_eq_div];show(n:Rat)*(1 / 2)*2=n;grind)
 have hp:=((n:Rat)*Rat.divInt 1 2).den_pos
 generalize ((n:Rat)*Rat.divInt 1 2).num=m at *
 generalize ((n:Rat)*Rat.divInt 1 2).den=k at *
 have hk:(0:Int)<k:=by omega
 rcases uz n 0 with g|g|g
 ·have:=Int.mul_neg_of_neg_of_pos g.2 hk
  rw[g.1];unfold yC;rw[aF Oz]
 ·rw[g.1];rw[g.2,Int.zero_mul]at e;unfold yC;rw[aD Oz,aD Oz]
 ·have:=Int.mul_pos g.2 hk
  rw[g.1];unfold yC;rw[aD Oz,aF Oz]
theorem zep:ofG 1 2=some (Rat.divInt 1 2):=aF ⟨by decide,by decide,by decide⟩
theorem JB{w x y z:Rat×Rat}:zdH [w,x,y,z] 0=some x∧zdH [w,x,y,z] 1=some y∧zdH [w,x,y,z] 2=some z∧zdH [w,x,y,z] 3=some w:=by
 unfold zdH
 simp[idx,zN]
def ke(a b:Int×Int):Int:=(a.1-b.1)*(a.2+b.2)
theorem Yq(ha:Nr 1000 a)(hb:Nr 1000 b):(ke a b).natAbs≤4000000:=by
 obtain⟨h1,h2⟩:=ha
 obtain⟨h3,h4⟩:=hb
 exact vj (N:=2000) (M:=2000) Oz Oz
theorem trap_sum:ke a b+ke b c+ke c d+ke d a=k7 a b c d:=by unfold ke k7 yI;grind
theorem z167_int(ha:Nr 1000 a)(hb:Nr 1000 b)(hc:Nr 1000 c)(hd:Nr 1000 d):z167 [ptQ a,ptQ b,ptQ c,ptQ d]=qT (qI (k7 a b c d)) (Rat.divInt 1 2):=by
 have st:∀{p q:Int×Int} {s:Int},Nr 1000 p→Nr 1000 q→s.natAbs≤20000000→wO (qI p.1) (qI q.1)=some (qI (p.1-q.1))∧qJ (qI p.2) (qI q.2)=some (qI (p.2+q.2))∧qT (qI (p.1-q.1)) (qI (p.2+q.2))=some (qI (ke p q))∧qJ (qI s) (qI (ke p q))=some (qI (s+ke p q)):=fun{p q s} h g hs=>by
  have ht:=Yq h g
  obtain⟨h1,h2⟩:=h
  obtain⟨e,f⟩:=g
  exact⟨subI (by unfold SmI;omega) (by unfold SmI;omega),zaZ (by unfold SmI;omega) (by unfold SmI;omega),zah (by unfold SmI;omega) (by unfold SmI;omega),zaZ (by unfold SmI;omega) (by unfold SmI;omega)⟩
 have t1:=Yq ha hb
 have t2:=Yq hb hc
 have t3:=Yq hc hd
 have t4:=Yq hd ha
 obtain⟨i,j,k,l⟩:=st (s:=0) ha hb Oz
 obtain⟨g1,g2,m,n⟩:=st (s:=0+ke a b) hb hc Oz
 obtain⟨h1,h2,e,f⟩:=st (s:=0+ke a b+ke b c) hc hd Oz
 obtain⟨o,r,t,u⟩:=st (s:=0+ke a b+ke b c+ke c d) hd ha Oz
 rw[show k7 a b c d=0+ke a b+ke b c+ke c d+ke d a by rw[←trap_sum,Int.zero_add]]
 generalize hz:(0:Int)+ke a b=s1 at *
 generalize s1+ke b c=s2 at *
 generalize s2+ke c d=v at *
 generalize v+ke d a=s4 at *
 unfold z167
 rw[zC,ze,q0]
 simp[idx,zN,pt1,pt2,JB,i,j,k,l]
 rw[ze]
 simp[zN,pt1,pt2,JB,g1,g2,m,n]
 rw[ze]
 simp[zN,pt1,pt2,JB,h1,h2,e,f]
 rw[ze]
 simp[zN,pt1,pt2,JB,o,r,t,u]
 rw[ze]
 simp[zep]
end
end Go.Proofs.YtocnbjjmmgolfaaGreat
namespace Go.Proofs.YtocnbjjmmgolfaaGreat
open Go Go.M Go.Proofs.C14
attribute [local irreducible] zj
section
variable{a b c d:Int×Int}
theorem yh:i64 (-1)=some (-1)∧i64 (-2)=some (-2)∧i64 (-3)=some (-3)∧i64 (-4)=some (-4):=by
 refine⟨?_,?_,?_,?_⟩<;>exact xh Uz
theorem zhh(ha:Nr 1000 a)(hb:Nr 1000 b)(hc:Nr 1000 c)(hd:Nr 1000 d):(k7 a b c d).natAbs<100000000:=by
 have h1:=ha.cross hb
 have h2:=hb.cross hc
 have h3:=hc.cross hd
 have h4:=hd.cross ha
 unfold k7
 omega
theorem area_sum:0+yI a b+yI b c+yI c d+yI d a=k7 a b c d:=by unfold k7;omega
theorem z243_int(ha:Nr 1000 a)(hb:Nr 1000 b)(hc:Nr 1000 c)(hd:Nr 1000 d):z243 [ptQ a,ptQ b,ptQ c,ptQ d]=qT (qI (k7 a b c d)) (Rat.divInt 1 2):=by
 have h1:=ha.cross hb
 have h2:=hb.cross hc
 have h3:=hc.cross hd
 have h4:=hd.cross ha
 have e:=uP (ha.le (M:=5000) Uz) (hb.le (M:=5000) Uz)
 have f:=uP (hb.le (M:=5000) Uz) (hc.le (M:=5000) Uz)
 have g:=uP (hc.le (M:=5000) Uz) (hd.le (M:=5000) Uz)
 have h:=uP (hd.le (M:=5000) Uz) (ha.le (M:=5000) Uz)
 have g1:=zaZ (m:=0) (n:=yI a b) (by unfold SmI;omega) (by unfold SmI;omega)
 have g2:=zaZ (m:=0+yI a b) (n:=yI b c) (by unfold SmI;omega) (by unfold SmI;omega)
 have i:=zaZ (m:=0+yI a b+yI b c) (n:=yI c d) (by unfold SmI;omega) (by unfold SmI;omega)
 have j:=zaZ (m:=0+yI a b+yI b c+yI c d) (n:=yI d a) (by unfold SmI;omega) (by unfold SmI;omega)
 rw[←area_sum]
 generalize hz:(0:Int)+yI a b=s1 at *
 generalize s1+yI b c=s2 at *
 generalize s2+yI c d=k at *
 generalize k+yI d a=s4 at *
 unfold z243
 rw[zC,ze,q0]
 simp[idx,zN,yh,e,g1]
 rw[ze]
 simp[zN,yh,f,g2]
 rw[ze]
 simp[zN,yh,g,i]
 rw[ze]
 simp[zN,yh,h,j]
 rw[ze]
 simp[zep]
noncomputable def inR(a0:List (Rat×Rat))(x2:Int)(g2:Int→Option Bool):Option Bool:=(zj (fun g (e:Int)=>(if (decide (e<(a0.length:Int)))=true then((i64 (e-x2)).bind fun h=>((i64 (h+(a0.length:Int))).bind fun f=>(if (a0.length:Int)=0 then none else(if (decide (1<(Int.tmod f (a0.length:Int))))=true then((i64 ((a0.length:Int)-1)).bind fun i=>(if (decide ((Int.tmod f (a0.length:Int))<i))=true then((idx a0 x2).bind fun s=>((i64 (x2+1)).bind fun j=>((idx a0 e).bind fun t=>((i64 (e+1)).bind fun k=>((vu a0 j).bind fun p=>((vu a0 k).bind fun q=>((z166 s p t q).bind fun r=>(if r=true then some false else((i64 (e+1)).bind fun l=>g l)))))))))else((i64 (e+1)).bind fun m=>g m)))else((i64 (e+1)).bind fun n=>g n)))))else((i64 (x2+1)).bind fun o=>g2 o))) (zi 12) 0)
theorem z92_eq(a0:List (Rat×Rat)):z92 a0 =  (if (decide ((a0.length:Int)<3))=true then some false else(if (decide (12<(a0.length:Int)))=true then some false else((z163 a0).bind fun r1=>(if (!r1)=true then some false else(zj (fun g2 (x2:Int)=>(if (decide (x2<(a0.length:Int)))=true then((idx a0 x2).bind fun k=>((i64 (x2+1)).bind fun n4=>((i64 (x2+2)).bind fun g=>((vu a0 n4).bind fun h=>((vu a0 g).bind fun i=>((z164 k h i).bind fun j=>(if (decide (j=0))=true then some false else(inR a0 x2 g2))))))))else((z167 a0).bind fun e=>((qP e).bind fun f=>some (decide (0<f)))))) (zi 12) 0))))):=rfl
theorem inR_0(ha:Nr 1000 a)(hb:Nr 1000 b)(hc:Nr 1000 c)(hd:Nr 1000 d)(g:Int→Option Bool):inR [ptQ a,ptQ b,ptQ c,ptQ d] 0 g=if kR a b c d=true then some false else g 1:=by
 have m:=Yk ha hb hc hd
 unfold inR
 rw[zC]
 rw[ze]
 generalize e:zj _ 11=G
 simp[idx,zN,yh,vu]
 rw[←e]
 rw[ze]
 generalize f:zj _ 10=G
 simp[idx,zN,yh,vu]
 rw[←f]
 rw[ze]
 generalize h:zj _ 9=G
 simp[idx,zN,yh,vu,m]
 cases kR a b c d
 case true=>simp
 simp
 rw[←h]
 rw[ze]
 generalize i:zj _ 8=G
 simp[idx,zN,yh,vu]
 rw[←i]
 rw[ze]
 simp[zN,yh]
theorem inR_1(ha:Nr 1000 a)(hb:Nr 1000 b)(hc:Nr 1000 c)(hd:Nr 1000 d)(g:Int→Option Bool):inR [ptQ a,ptQ b,ptQ c,ptQ d] 1 g=if kR b c d a=true then some false else g 2:=by
 have m:=Yk hb hc hd ha
 unfold inR
 rw[zC]
 rw[ze]
 generalize e:zj _ 11=G
 simp[idx,zN,yh,vu]
 rw[←e]
 rw[ze]
 generalize f:zj _ 10=G
 simp[idx,zN,yh,vu]
 rw[←f]
 rw[ze]
 generalize h:zj _ 9=G
 simp[idx,zN,yh,vu]
 rw[←h]
 rw[ze]
 generalize i:zj _ 8=G
 simp[idx,zN,yh,vu,m]
 cases kR b c d a
 case true=>simp
 simp
 rw[←i]
 rw[ze]
 simp[zN,yh]
theorem inR_2(ha:Nr 1000 a)(hb:Nr 1000 b)(hc:Nr 1000 c)(hd:Nr 1000 d)(g:Int→Option Bool):inR [ptQ a,ptQ b,ptQ c,ptQ d] 2 g=if kR c d a b=true then some false else g 3:=by
 have m:=Yk hc hd ha hb
 unfold inR
 rw[zC]
 rw[ze]
 generalize e:zj _ 11=G
 simp[idx,zN,yh,vu,m]
 cases kR c d a b
 case true=>simp
 simp
 rw[←e]
 rw[ze]
 generalize f:zj _ 10=G
 simp[idx,zN,yh,vu]
 rw[←f]
 rw[ze]
 generalize h:zj _ 9=G
 simp[idx,zN,yh,vu]
 rw[←h]
 rw[ze]
 generalize i:zj _ 8=G
 simp[idx,zN,yh,vu]
 rw[←i]
 rw[ze]
 simp[zN,yh]
theorem inR_3(ha:Nr 1000 a)(hb:Nr 1000 b)(hc:Nr 1000 c)(hd:Nr 1000 d)(g:Int→Option Bool):inR [ptQ a,ptQ b,ptQ c,ptQ d] 3 g=if kR d a b c=true then some false else g 4:=by
 have m:=Yk hd ha hb hc
 unfold inR
 rw[zC]
 rw[ze]
 generalize e:zj _ 11=G
 simp[idx,zN,yh,vu]
 rw[←e]
 rw[ze]
 generalize f:zj _ 10=G
 simp[idx,zN,yh,vu,m]
 cases kR d a b c
 case true=>simp
 simp
 rw[←f]
 rw[ze]
 generalize h:zj _ 9=G
 simp[idx,zN,yh,vu]
 rw[←h]
 rw[ze]
 generalize i:zj _ 8=G
 simp[idx,zN,yh,vu]
 rw[←i]
 rw[ze]
 simp[zN,yh]
theorem zfM(ha:Nr 1000 a)(hb:Nr 1000 b)(hc:Nr 1000 c)(hd:Nr 1000 d):z92 [ptQ a,ptQ b,ptQ c,ptQ d]=some (jz a b c d):=by
 have h:=Yl ha hb hc
 have i:=Yl hb hc hd
 have j:=Yl hc hd ha
 have k:=Yl hd ha hb
 have l:=W5 (zhh ha hb hc hd)
 have e:=z167_int ha hb hc hd
 obtain⟨y,m,f⟩:=zP l
 rw[m]at e
 unfold jz
 rw[z92_eq,z163_int ha hb hc hd]
 simp only[zC]
 simp
 rw[ze]
 simp[idx,zN,yh,vu,h,kJ,inR_0 ha hb hc hd]
 by_cases s0:zl a b c=0
 ·simp[s0]
 simp[s0]
 cases kR a b c d
 case true=>simp
 simp
 rw[ze]
 simp[idx,zN,yh,vu,i,kJ,inR_1 ha hb hc hd]
 by_cases s1:zl b c d=0
 ·simp[s1]
 simp[s1]
 cases kR b c d a
 case true=>simp
 simp
 rw[ze]
 simp[idx,zN,yh,vu,j,kJ,inR_2 ha hb hc hd]
 by_cases s2:zl c d a=0
 ·simp[s2]
 simp[s2]
 cases kR c d a b
 case true=>simp
 simp
 rw[ze]
 simp[idx,zN,yh,vu,k,kJ,inR_3 ha hb hc hd]
 by_cases g:zl d a b=0
 ·simp[g]
 simp[g]
 cases kR d a b c
 case true=>simp
 simp
 rw[ze]
 simp[e,f,VF]
def KD(a b c d:Int×Int):Bool:= !decide (zl a b c=0) && !vy a b c d && !decide (zl b c d=0) && !vy b c d a && !decide (zl c d a=0) && !decide (zl d a b=0)&&decide (0<k7 a b c d)
noncomputable def inP(a0:List (Rat×Rat))(g:Int)(h:Int)(t:Int→Option Bool):Option Bool:=(zj (fun f (e:Int)=>(if (decide (e<(a0.length:Int)))=true then((i64 (e+1)).bind fun i=>(if (a0.length:Int)=0 then none else(if (decide ((Int.tmod i (a0.length:Int))≠g))=true then(if (a0.length:Int)=0 then none else((idx a0 (Int.tmod g (a0.length:Int))).bind fun p=>((i64 (g+1)).bind fun j=>(if (a0.length:Int)=0 then none else((idx a0 (Int.tmod j (a0.length:Int))).bind fun q=>(if (a0.length:Int)=0 then none else((idx a0 (Int.tmod e (a0.length:Int))).bind fun r=>((i64 (e+1)).bind fun k=>(if (a0.length:Int)=0 then none else((idx a0 (Int.tmod k (a0.length:Int))).bind fun s=>((z242 p q r s).bind fun o=>(if o=true then some false else((i64 (e+1)).bind fun l=>f l)))))))))))))else((i64 (e+1)).bind fun m=>f m))))else((i64 (g+1)).bind fun n=>t n))) (zi 12) h)
theorem z194_eq(a0:List (Rat×Rat)):z194 a0 =  (if (decide ((a0.length:Int)<3))=true then some false else(if (decide (12<(a0.length:Int)))=true then some false else(zj (fun g1 (k:Int)=>(if (decide (k<(a0.length:Int)))=true then((idx a0 k).bind fun x2=>((qz x2.1).bind fun p=>(if (!p)=true then some false else((qz x2.2).bind fun q=>(if (!q)=true then some false else((i64 (k+1)).bind fun n=>g1 n))))))else(zj (fun m (e:Int)=>(if (decide (e<(a0.length:Int)))=true then(if (a0.length:Int)=0 then none else((idx a0 (Int.tmod e (a0.length:Int))).bind fun r=>((i64 (e+1)).bind fun o=>(if (a0.length:Int)=0 then none else((idx a0 (Int.tmod o (a0.length:Int))).bind fun s=>((i64 (e+2)).bind fun f=>(if (a0.length:Int)=0 then none else((idx a0 (Int.tmod f (a0.length:Int))).bind fun l=>((jP r s l).bind fun h=>(if (decide (h=0))=true then some false else((i64 (e+2)).bind fun g=>(inP a0 e g m))))))))))))else((z243 a0).bind fun i=>((qP i).bind fun j=>some (decide (0<j)))))) (zi 12) 0))) (zi 12) 0))):=rfl
theorem inP_0(ha:Nr 1000 a)(hb:Nr 1000 b)(hc:Nr 1000 c)(hd:Nr 1000 d)(g:Int→Option Bool):inP [ptQ a,ptQ b,ptQ c,ptQ d] 0 2 g=if vy a b c d=true then some false else g 1:=by
 have m:=Yi ha hb hc hd
 unfold inP
 rw[zC]
 rw[ze]
 simp[idx,zN,yh,m]
 cases vy a b c d
 case true=>simp
 simp
 rw[ze]
 simp[idx,zN,yh]
 rw[ze]
 simp[zN,yh]
theorem inP_1(ha:Nr 1000 a)(hb:Nr 1000 b)(hc:Nr 1000 c)(hd:Nr 1000 d)(g:Int→Option Bool):inP [ptQ a,ptQ b,ptQ c,ptQ d] 1 3 g=if vy b c d a=true then some false else g 2:=by
 have m:=Yi hb hc hd ha
 unfold inP
 rw[zC]
 rw[ze]
 simp[idx,zN,yh,m]
 cases vy b c d a
 case true=>simp
 simp
 rw[ze]
 simp[zN,yh]
theorem inP_2(ha:Nr 1000 a)(hb:Nr 1000 b)(hc:Nr 1000 c)(hd:Nr 1000 d)(g:Int→Option Bool):inP [ptQ a,ptQ b,ptQ c,ptQ d] 2 4 g=g 3:=by
 have m:=Yi hc hd ha hb
 unfold inP
 rw[zC]
 rw[ze]
 simp[zN,yh]
theorem inP_3(ha:Nr 1000 a)(hb:Nr 1000 b)(hc:Nr 1000 c)(hd:Nr 1000 d)(g:Int→Option Bool):inP [ptQ a,ptQ b,ptQ c,ptQ d] 3 5 g=g 4:=by
 have m:=Yi hd ha hb hc
 unfold inP
 rw[zC]
 rw[ze]
 simp[zN,yh]
theorem zbg(ha:Nr 1000 a)(hb:Nr 1000 b)(hc:Nr 1000 c)(hd:Nr 1000 d):z194 [ptQ a,ptQ b,ptQ c,ptQ d]=some (KD a b c d):=by
 have v:∀{p:Int×Int},Nr 1000 p→qz (qI p.1)=some true∧qz (qI p.2)=some true:=fun h=>⟨JH (h.le (M:=10000) Uz).s1,JH (h.le (M:=10000) Uz).s2⟩
 have o:=v ha
 have i:=y5 ha hb hc
 have v1:=v hb
 have j:=y5 hb hc hd
 have v2:=v hc
 have k:=y5 hc hd ha
 have q:=v hd
 have l:=y5 hd ha hb
 have m:=W5 (zhh ha hb hc hd)
 have e:=z243_int ha hb hc hd
 obtain⟨y,n,f⟩:=zP m
 rw[n]at e
 unfold KD
 rw[z194_eq]
 simp only[zC]
 simp
 rw[ze]
 simp[idx,zN,yh,pt1,pt2,o]
 rw[ze]
 simp[idx,zN,yh,pt1,pt2,v1]
 rw[ze]
 simp[idx,zN,yh,pt1,pt2,v2]
 rw[ze]
 simp[idx,zN,yh,pt1,pt2,q]
 rw[ze]
 simp[zN,yh]
 rw[ze]
 simp[idx,zN,yh,i,kJ,inP_0 ha hb hc hd]
 by_cases s0:zl a b c=0
 ·simp[s0]
 simp[s0]
 cases vy a b c d
 case true=>simp
 simp
 rw[ze]
 simp[idx,zN,yh,j,kJ,inP_1 ha hb hc hd]
 by_cases s1:zl b c d=0
 ·simp[s1]
 simp[s1]
 cases vy b c d a
 case true=>simp
 simp
 rw[ze]
 simp[idx,zN,yh,k,kJ,inP_2 ha hb hc hd]
 by_cases s2:zl c d a=0
 ·simp[s2]
 simp[s2]
 rw[ze]
 simp[idx,zN,yh,l,kJ,inP_3 ha hb hc hd]
 by_cases g:zl d a b=0
 ·simp[g]
 simp[g]
 rw[ze]
 simp[e,f,VF]
end
end Go.Proofs.YtocnbjjmmgolfaaGreat
namespace Go.Proofs.YtocnbjjmmgolfaaGreat
open Go Go.M Go.Proofs.C14
attribute [local irreducible] zj
section
variable{a b c d:Int×Int}
theorem Yv:zl a b c=zl c a b:=by unfold zl yI xe;grind
theorem K5:vy c d a b=vy a b c d:=by
 unfold vy
 generalize decide (yC (zl a b c) 0*yC (zl a b d) 0<0)=x
 generalize decide (yC (zl c d a) 0*yC (zl c d b) 0<0)=y
 generalize onI a b c=p
 generalize onI a b d=q
 generalize onI c d a=r
 generalize onI c d b=s
 cases x<;>cases y<;>cases p<;>cases q<;>cases r<;>cases s<;>rfl
theorem quad_eq:KD a b c d=jz a b c d:=by
 unfold KD jz
 by_cases h0:zl a b c=0
 ·simp[h0]
 by_cases h1:zl b c d=0
 ·simp[h1]
 by_cases h2:zl c d a=0
 ·simp[h2]
 by_cases e:zl d a b=0
 ·simp[e]
 have e1:zl a b d≠0:=by rw[Yv];exact e
 have e2:zl c d b≠0:=by rw[Yv];exact h1
 have f:zl b c a≠0:=by rw[Yv];exact h0
 have g:zl d a c≠0:=by rw[Yv];exact h2
 have h:=QN h0 e1 h2 e2
 have m1:=QN h1 f e g
 have m2:=QN h2 e2 h0 e1
 have m3:=QN e g h1 f
 rw[←h,←m1,←m2,←m3,K5,K5 (a:=b) (b:=c) (c:=d) (d:=a)]
 cases vy a b c d<;>cases vy b c d a<;>simp[h0,h1,h2,e]
end
end Go.Proofs.YtocnbjjmmgolfaaGreat
namespace Go.Proofs.YtocnbjjmmgolfaaGreat
open Go Go.M Go.Proofs.C14
attribute [local irreducible] zj
section
variable{a b c d:Int×Int}
theorem wP(h:Nr 10000 a):z41 a.1 a.2=some (ptQ a):=by
 obtain⟨h1,h2⟩:=h
 unfold z41
 rw[ofI Oz,ofI Oz]
 rfl
theorem jo(h:Nr 10000 a):Ql a.1 a.2=some (ptQ a):=by
 obtain⟨h1,h2⟩:=h
 unfold Ql
 rw[ofI Oz,ofI Oz]
 rfl
theorem zfL{p:Pc}(hp:p.2.2.1=[a,b,c,d])(ha:Nr 1000 a)(hb:Nr 1000 b)(hc:Nr 1000 c)(hd:Nr 1000 d):z93 p=some [ptQ a,ptQ b,ptQ c,ptQ d]:=by
 have f:=wP (ha.le (M:=10000) Uz)
 have g:=wP (hb.le (M:=10000) Uz)
 have h:=wP (hc.le (M:=10000) Uz)
 have i:=wP (hd.le (M:=10000) Uz)
 unfold z93
 rw[hp,zC,ze]
 generalize e:zj _ 11=G
 simp[idx,zN,f,app]
 rw[←e,ze];clear e
 generalize e:zj _ 10=G
 simp[idx,zN,g,app]
 rw[←e,ze];clear e
 generalize e:zj _ 9=G
 simp[idx,zN,h,app]
 rw[←e,ze];clear e
 generalize e:zj _ 8=G
 simp[idx,zN,i,app]
 rw[←e,ze]
 simp
theorem zbi{p:Pc}(hp:p.2.2.1=[a,b,c,d])(ha:Nr 1000 a)(hb:Nr 1000 b)(hc:Nr 1000 c)(hd:Nr 1000 d):zdO p=some [ptQ a,ptQ b,ptQ c,ptQ d]:=by
 have f:=jo (ha.le (M:=10000) Uz)
 have g:=jo (hb.le (M:=10000) Uz)
 have h:=jo (hc.le (M:=10000) Uz)
 have i:=jo (hd.le (M:=10000) Uz)
 unfold zdO
 rw[hp,zC,ze]
 generalize e:zj _ 11=G
 simp[idx,zN,f,app]
 rw[←e,ze];clear e
 generalize e:zj _ 10=G
 simp[idx,zN,g,app]
 rw[←e,ze];clear e
 generalize e:zj _ 9=G
 simp[idx,zN,h,app]
 rw[←e,ze];clear e
 generalize e:zj _ 8=G
 simp[idx,zN,i,app]
 rw[←e,ze]
 simp
end
end Go.Proofs.YtocnbjjmmgolfaaGreat
