/- Slices of digits, and what is known of them; the base of the walks through the program. -/
/- Small functions of the reference: picks out of lists, digits. -/
/- The reference of integers: sums and differences of digits. -/
/- The reference of integers: made of numbers, products, sums. -/
import Derived.Test.YtocnbjjmmgolfaaGreatProg
import Derived.KernelRfl
import Derived.Test.YtocnbjjmmgolfaaGreatA10
import Derived.Test.YtocnbjjmmgolfaaGreatA11
namespace Go.Proofs.YtocnbjjmmgolfaaGreat
open Go Go.M Go.Proofs.C14
abbrev tI:TypeId:=3
def wU(a n:Int):Int:=(if a<0 then -(a+1)else a).tmod n
def atZ(l:List Int)(i n:Int):Int:=if i<0∨(l.length:Int)≤i then 0 else wU (l.getD i.toNat 0) n
def qm(l:List Int):List Value:=l.map (Value.int .i64)
variable{l o:List Int}{α:Type}{len:Nat}{A B C D' L:Hp'}{p0 p1 p2 p3 p4 p5 p6 p7:Nat×MObj}
theorem lget_ints{k:Nat}(h:k<l.length):qG (qm l) k=some (.int .i64 (l.getD k 0)):=by
 rw[qR];simp[qm,List.getElem?_map,List.getD_eq_getElem?_getD,List.getElem?_eq_getElem h]
inductive SlI(s:St)(v:Value)(l:List Int):Prop
 |nil (c:Nat) (hv:v=.slice none 0 c) (hl:l=[]):SlI s v l
 |block (b off cap:Nat) (c:List Value) (e:TypeId) (hv:v=.slice (some ⟨b,off,none⟩) l.length cap) (hg:s.get b=some (.cells c e)) (hb:b<s.next) (hc:∀k,k<l.length→qG c (off+k)=some (.int .i64 (l.getD k 0))):SlI s v l
inductive Sl(s:St)(e:TypeId)(sz:Nat)(v:Value)(es:List (List Value)):Prop
 |nil (c:Nat) (hv:v=.slice none 0 c) (hl:es=[]):Sl s e sz v es
 |block (b off cap:Nat) (c:List Value) (hv:v=.slice (some ⟨b,off,none⟩) es.length cap) (hg:s.get b=some (.cells c e)) (hb:b<s.next) (hcap:es.length≤cap / 2) (hc:∀k,k<es.length→qX sz (kw (off+k*sz) c)=some (es.getD k [])):Sl s e sz v es
theorem Sl.isSlice{s:St}{e:TypeId}{sz:Nat}{v:Value}{es:List (List Value)}(h:Sl s e sz v es):∃a len cap,v=.slice a len cap∧len=es.length:=by
 cases h with
 |nil c hv hl=>exact⟨_,_,_,hv,by rw[hl];rfl⟩
 |block b off cap c hv=>exact⟨_,_,_,hv,rfl⟩
theorem Sl.kept{s s':St}{e:TypeId}{sz:Nat}{v:Value}{es:List (List Value)}{L:Hp'}{n:Nat}(h:Sl s e sz v es)(H:HL [] s s' L n):Sl s' e sz v es:=by
 cases h with
 |nil c hv hl=>exact .nil c hv hl
 |block b off cap c hv hg hb hcap hc=>exact .block b off cap c hv (H.old hb hg) (by have:=H.le;omega) hcap hc
theorem Sl.cap{s:St}{e:TypeId}{sz:Nat}{a:Option Addr}{len cap:Nat}{es:List (List Value)}(h:Sl s e sz (.slice a len cap) es):len≤cap / 2:=by
 cases h with
 |nil c hv hl=>cases hv;omega
 |block b off cap c hv hg hb hcap hc=>cases hv;exact hcap
theorem Sl.at{s:St}{e:TypeId}{sz:Nat}{a:Option Addr}{len cap:Nat}{es:List (List Value)}(h:Sl s e sz (.slice a len cap) es){i:Int}{k:Nat}(hi:i=(k:Int))(hk:k<es.length):∃b off c,a=some ⟨b,off,none⟩∧s.get b=some (.cells c e)∧b<s.next∧qX sz (kw (off+i.toNat*sz) c)=some (es.getD k []):=by
 subst hi
 cases h with
 |nil c hv hl=>rw[hl]at hk;simp at hk
 |block b off cap c hv hg hb hcap hc=>
  cases hv
  exact⟨b,off,c,J,hg,hb,by simpa using hc k hk⟩
theorem jg{β:Type}{f:α→β}{l:List α}{k:Nat}{x:β}{y:α}(h:k<l.length):(l.map f).getD k x=f (l.getD k y):=by
 simp[List.getD_eq_getElem?_getD,List.getElem?_map,List.getElem?_eq_getElem h]
theorem wM{l:List α}{k:Nat}{y:α}(h:k<l.length):l.getD k y∈l:=by
 simp[List.getD_eq_getElem?_getD,List.getElem?_eq_getElem h]
theorem drop_getD{l:List α}{k:Nat}(y:α)(h:k<l.length):l.drop k=l.getD k y::l.drop (k+1):=by
 rw[List.drop_eq_getElem_cons h];simp[List.getD_eq_getElem?_getD,List.getElem?_eq_getElem h]
def dc(x:Int):List Value:=[.int .i64 x]
abbrev SlD(s:St)(v:Value)(l:List Int):Prop:=Sl s tI 1 v (l.map dc)
theorem Sl.atD{s:St}{e:TypeId}{a:Option Addr}{cap:Nat}(h:Sl s e 1 (.slice a len cap) (l.map dc)){i:Int}{k:Nat}(hi:i=(k:Int))(hk:k<l.length):∃b off c,a=some ⟨b,off,none⟩∧s.get b=some (.cells c e)∧b<s.next∧qG c (off+i.toNat*1)=some (.int .i64 (l.getD k 0)):=by
 obtain⟨b,off,c,h1,h2,h3,h4⟩:=h.at hi (k:=k) (by simpa using hk)
 refine⟨b,off,c,h1,h2,h3,?_⟩
 rw[jg (y:=(0:Int)) hk,vE,vN]at h4
 split at h4
 ·next hle=>
  rw[Option.some.injEq]at h4
  rw[List.length_drop]at hle
  have:((c.drop (off+i.toNat*1)).take 1)[0]? = (dc (l.getD k 0))[0]? :=by rw[h4]
  rw[List.getElem?_take,if_pos O,List.getElem?_drop]at this
  rw[qR]
  simpa[dc]using this
 ·cases h4
theorem Sl.take{s:St}{e:TypeId}{sz:Nat}{a:Option Addr}{len cap:Nat}{es:List (List Value)}(h:Sl s e sz (.slice a len cap) es){m:Nat}(hm:m≤es.length):Sl s e sz (.slice a m cap) (es.take m):=by
 cases h with
 |nil c hv hl=>
  subst hl
  cases hv
  simp only[List.length_nil,Nat.le_zero]at hm
  subst hm
  exact .nil _ J Y8
 |block b off cap c hv hg hb hcap hc=>
  cases hv
  have hlen:(es.take m).length=m:=by simp;omega
  refine .block b off cap c (by rw[hlen]) hg hb O fun k hk=>?_
  rw[hlen]at hk
  rw[hc k O]
  simp[List.getD_eq_getElem?_getD,List.getElem?_take,hk]
theorem Sl.prot{s:St}{e:TypeId}{sz:Nat}{v:Value}{es:List (List Value)}(h:Sl s e sz v es){X:List Nat}:Sl {s with prot:=X++s.prot} e sz v es:=by
 cases h with
 |nil c hv hl=>exact .nil c hv hl
 |block b off cap c hv hg hb hcap hc=>exact .block b off cap c hv hg hb hcap hc
def nv(a:Option Addr)(n cap:Nat):Value:=if n=0 then .slice none 0 0 else .slice a n cap
inductive SlIn(D:Hp')(v:Value)(l:List Int):Prop
 |nil (c:Nat) (hv:v=.slice none 0 c) (hl:l=[]):SlIn D v l
 |block (b off cap:Nat) (c:List Value) (hv:v=.slice (some ⟨b,off,none⟩) l.length cap) (hg:(b,.cells c tI)∈D) (hcap:l.length≤cap / 2) (hc:∀k,k<l.length→qX 1 (kw (off+k*1) c)=some (dc (l.getD k 0))):SlIn D v l
theorem SlIn.sl{D:Hp'}{v:Value}{l:List Int}(h:SlIn D v l){W:List Nat}{s0 s:St}{L:Hp'}{n:Nat}(H:HL W s0 s L n)(hs:D⊆L):SlD s v l:=by
 cases h with
 |nil c hv hl=>exact .nil c hv (by simp[hl])
 |block b off cap c hv hg hcap hc=>
  have ho:=H.own _ (hs hg)
  exact .block b off cap c (by simpa using hv) ho.1 ho.2.1 (by simpa using hcap) fun k hk=>by
   rw[List.length_map]at hk
   rw[hc k hk,jg hk]
theorem SlIn.mono{D D':Hp'}{v:Value}{l:List Int}(h:SlIn D v l)(hs:D⊆D'):SlIn D' v l:=by
 cases h with
 |nil c hv hl=>exact .nil c hv hl
 |block b off cap c hv hg hcap hc=>exact .block b off cap c hv (hs hg) hcap hc
theorem SlIn.take{D:Hp'}{a:Option Addr}{len cap:Nat}{l:List Int}(h:SlIn D (.slice a len cap) l){m:Nat}(hm:m≤l.length):SlIn D (nv a m cap) (l.take m):=by
 unfold nv
 by_cases hz:m=0
 ·rw[if_pos hz];subst hz;exact .nil 0 rfl Y8
 ·rw[if_neg hz]
  cases h with
  |nil c hv hl=>rw[hl]at hm;simp at hm;omega
  |block b off cap c hv hg hcap hc=>
   cases hv
   have hlen:(l.take m).length=m:=by simp;omega
   refine .block b off cap c (by rw[hlen]) hg O fun k hk=>?_
   rw[hlen]at hk
   rw[hc k O]
   simp[List.getD_eq_getElem?_getD,List.getElem?_take,hk]
theorem dc_flat{k:Nat}(h:k<l.length):qX 1 (kw (0+k*1) (qm l))=some (dc (l.getD k 0)):=by
 rw[vE,vN,Nat.zero_add,Nat.mul_one]
 have hl:(qm l).length=l.length:=by simp[qm]
 rw[if_pos (by rw[List.length_drop];omega)]
 rw[List.drop_eq_getElem_cons O,List.take_succ_cons,List.take_zero]
 simp[qm,dc,List.getD_eq_getElem?_getD,List.getElem?_eq_getElem h]
theorem Own.slIn{D:Hp'}{v:Value}(h:Own tI 1 D v (qm l) len):len=l.length∧SlIn D v l:=by
 have hi:(qm l).length=l.length:=by simp[qm]
 generalize hc:qm l=c at h
 cases h with
 |nil=>
  have:l=[]:=by simpa[qm]using hc
  subst this
  exact⟨J,.nil 0 J J⟩
 |block b cap c len hl hcap=>
  subst hc
  have e:len=l.length:=by omega
  subst e
  exact⟨J,.block b 0 cap _ J Y8 O fun k hk=>dc_flat hk⟩
theorem SlIn.isSlice{D:Hp'}{v:Value}{l:List Int}(h:SlIn D v l):∃a n c,v=.slice a n c∧n=l.length:=by
 cases h with
 |nil c hv hl=>exact⟨_,_,_,hv,by rw[hl];rfl⟩
 |block b off cap c hv=>exact⟨_,_,_,hv,rfl⟩
theorem repL_ints:∀n,repL [.int .i64 0] n=qm (List.replicate n 0)
 |0=>rfl
 |n+1=>by rw[repL,repL_ints n,List.replicate_succ];rfl
theorem lput_ints{x:Int}:∀{o:List Int} {k:Nat},k<o.length→ky k [.int .i64 x] (qm o)=some (qm (o.set k x))
 | [],_,h=>by simp at h
 |y::o,0,_=>rfl
 |y::o,k+1,h=>by
  have:=lput_ints (x:=x) (o:=o) (k:=k) (by simpa using h)
  simp only[qm,List.map_cons,ky]at this ⊢
  rw[this]
  rfl
theorem wK{k m:Nat}(hk:k<o.length)(hm:m=k):qG (qm o) m=some (.int .i64 (o.getD k 0)):=by
 subst hm
 rw[qR]
 simp[qm,List.getElem?_map,List.getD_eq_getElem?_getD,List.getElem?_eq_getElem hk]
theorem qE{x:Int}{k m:Nat}(hk:k<o.length)(hm:m=k):ky m [.int .i64 x] (qm o)=some (qm (o.set k x)):=by
 subst hm;exact lput_ints hk
inductive SlG(D:Hp')(e:TypeId)(sz:Nat)(v:Value)(es:List (List Value)):Prop
 |nil (c:Nat) (hv:v=.slice none 0 c) (hl:es=[]):SlG D e sz v es
 |block (b off cap:Nat) (c:List Value) (hv:v=.slice (some ⟨b,off,none⟩) es.length cap) (hg:(b,.cells c e)∈D) (hcap:es.length≤cap / 2) (hc:∀k,k<es.length→qX sz (kw (off+k*sz) c)=some (es.getD k [])):SlG D e sz v es
theorem SlG.sl{D:Hp'}{e:TypeId}{sz:Nat}{v:Value}{es:List (List Value)}(h:SlG D e sz v es){W:List Nat}{s0 s:St}{L:Hp'}{n:Nat}(H:HL W s0 s L n)(hs:D⊆L):Sl s e sz v es:=by
 cases h with
 |nil c hv hl=>exact .nil c hv hl
 |block b off cap c hv hg hcap hc=>
  have ho:=H.own _ (hs hg)
  exact .block b off cap c hv ho.1 ho.2.1 hcap hc
theorem SlG.mono{D D':Hp'}{e:TypeId}{sz:Nat}{v:Value}{es:List (List Value)}(h:SlG D e sz v es)(hs:D⊆D'):SlG D' e sz v es:=by
 cases h with
 |nil c hv hl=>exact .nil c hv hl
 |block b off cap c hv hg hcap hc=>exact .block b off cap c hv (hs hg) hcap hc
theorem flat_len{sz:Nat}:∀{es:List (List Value)},(∀x∈es,x.length=sz)→es.flatten.length=es.length*sz
 | [],_=>by simp
 |x::es,h=>by
  rw[List.flatten_cons,List.length_append,h x Y8,flat_len fun y hy=>h y (by simp[hy]),List.length_cons,Nat.add_mul]
  omega
theorem flat_drop{sz:Nat}:∀{es:List (List Value)} (k:Nat),(∀x∈es,x.length=sz)→es.flatten.drop (k*sz)=(es.drop k).flatten
 | [],k,_=>by simp
 |x::es,0,_=>by simp
 |x::es,k+1,h=>by
  have hx:=h x Y8
  rw[List.flatten_cons,List.drop_succ_cons,←flat_drop k fun y hy=>h y (by simp[hy]),Nat.add_mul,Nat.one_mul,Nat.add_comm,←List.drop_drop,←hx,List.drop_left]
theorem flat_get{sz:Nat}{es:List (List Value)}(h:∀x∈es,x.length=sz){k:Nat}(hk:k<es.length):qX sz (kw (0+k*sz) es.flatten)=some (es.getD k []):=by
 rw[vE,vN,Nat.zero_add,flat_drop k h,drop_getD [] hk,List.flatten_cons]
 have hx:(es.getD k []).length=sz:=h _ (wM hk)
 rw[if_pos (by rw[List.length_append];omega),←hx,List.take_left]
theorem Own.slG{D:Hp'}{e:TypeId}{sz:Nat}{v:Value}{es:List (List Value)}(hz:∀x∈es,x.length=sz)(h:Own e sz D v es.flatten es.length):SlG D e sz v es:=by
 generalize hc:es.flatten=c at h
 generalize hl:es.length=n at h
 cases h with
 |nil=>exact .nil 0 rfl (List.length_eq_zero_iff.mp hl)
 |block b cap c len hlen hcap=>
  subst hc
  refine .block b 0 cap _ (by rw[hl]) Y8 O fun k hk=>flat_get hz hk
theorem _root_.Go.M.HL.perm{W:List Nat}{s0 s:St}{L':Hp'}{n:Nat}(H:HL W s0 s L n)(h:L.Perm L'):HL W s0 s L' n:=
 {H with own:=fun p hp=>H.own p (h.mem_iff.mpr hp),dist:=(h.pairwise_iff (fun h=>Ne.symm h)).mp H.dist}
theorem _root_.Go.M.HL.mid{W:List Nat}{s0 s:St}{n:Nat}(H:HL W s0 s (A++(B++C)) n):HL W s0 s (B++(A++C)) n:=H.perm (List.perm_append_comm_assoc A B C)
theorem _root_.Go.M.HL.mid2{W:List Nat}{s0 s:St}{E:Hp'}{n:Nat}(H:HL W s0 s (A++(B++(C++E))) n):HL W s0 s (C++(A++(B++E))) n:=
 Go.M.HL.mid (Go.M.HL.perm H ((List.perm_append_comm_assoc B C E).append_left A))
theorem jh{a n:Int}(hn:0<n):0≤wU a n∧wU a n<n:=by
 unfold wU
 generalize hx:(if a<0 then -(a+1)else a)=x
 have h0:0≤x:=by rw[←hx];split<;>omega
 rw[Int.tmod_eq_emod_of_nonneg h0]
 exact⟨Int.emod_nonneg _ O,Int.emod_lt_of_pos _ hn⟩
theorem SlI.kept{s s':St}{v:Value}{l:List Int}{L:Hp'}{n:Nat}(h:SlI s v l)(H:HL [] s s' L n):SlI s' v l:=by
 cases h with
 |nil c hv hl=>exact .nil c hv hl
 |block b off cap c e hv hg hb hc=>exact .block b off cap c e hv (H.old hb hg) (by have:=H.le;omega) hc
theorem ints_flat(l:List Int):qm l=(l.map dc).flatten:=by
 induction l with
 |nil=>rfl
 |cons x l ih=>simp only[qm,List.map_cons,List.flatten_cons]at ih ⊢;rw[ih];rfl
theorem elems_take{c:List Value}{off sz:Nat}{es:List (List Value)}(hs:0<sz)(hz:∀x∈es,x.length=sz)(hc:∀k,k<es.length→qX sz (kw (off+k*sz) c)=some (es.getD k [])):∀n,n≤es.length→(c.drop off).take (n*sz)=(es.take n).flatten∧(n=0∨off+n*sz≤c.length)
 |0,_=>by simp
 |n+1,h=>by
  obtain⟨ih,_⟩:=elems_take hs hz hc n O
  have h1:=hc n O
  rw[vE,vN]at h1
  split at h1
  ·next hle=>
   rw[Option.some.injEq]at h1
   rw[List.length_drop]at hle
   have hx:(es.getD n []).length=sz:=hz _ (wM O)
   refine⟨?_,?_⟩
   ·rw[Nat.add_mul,Nat.one_mul,List.take_add,ih,List.drop_drop,h1,List.take_succ_eq_append_getElem O,List.flatten_append]
    simp[List.getD_eq_getElem?_getD,List.getElem?_eq_getElem (show n<es.length by omega)]
   ·right
    rw[Nat.add_mul,Nat.one_mul]
    omega
  ·cases h1
theorem Sl.elems{s:St}{e:TypeId}{sz:Nat}{v:Value}{es:List (List Value)}(h:Sl s e sz v es)(hz:∀x∈es,x.length=sz)(hs:0<sz):jC s sz v es.length es.flatten:=by
 cases h with
 |nil c hv hl=>subst hl;subst hv;exact elems_nil
 |block b off cap c hv hg hb hcap hc=>
  subst hv
  by_cases hn:es.length=0
  ·have:es=[]:=List.length_eq_zero_iff.mp hn
   subst this
   refine⟨⟨_,_,J⟩,?_⟩
   simp only[vX,hg,List.length_nil,Nat.zero_mul,qX,List.flatten_nil]
  ·obtain⟨h1,h2⟩:=elems_take hs hz hc es.length Z3
   rw[List.take_length]at h1
   exact elems_block hg h1 O
theorem Sl.heap{s s':St}{e:TypeId}{sz:Nat}{v:Value}{es:List (List Value)}(h:Sl s e sz v es)(hh:s'.heap=s.heap)(hn:s.next≤s'.next):Sl s' e sz v es:=by
 cases h with
 |nil c hv hl=>exact .nil c hv hl
 |block b off cap c hv hg hb hcap hc=>exact .block b off cap c hv (by simp only[St.get,hh]at hg ⊢;exact hg) O hcap hc
abbrev Kw:=Value→List Int→Prop
def KLe(K K':Kw):Prop:=∀v l,K v l→K' v l
structure Kn(s:St)(K:Kw):Prop where
 sl:∀v l,K v l→SlD s v l
 cap:∀a m c c' l,K (.slice a m c) l→m≤c' / 2→K (.slice a m c') l
instance {s:St}{K:Kw}:CoeFun (Kn s K) (fun _=>∀v l,K v l→SlD s v l):=⟨Kn.sl⟩
theorem SlIn.cap{D:Hp'}{a:Option Addr}{m c c':Nat}{l:List Int}(h:SlIn D (.slice a m c) l)(hc:m≤c' / 2):SlIn D (.slice a m c') l:=by
 cases h with
 |nil c hv hl=>cases hv;exact .nil c' rfl hl
 |block b off cap c hv hg hcap hc2=>cases hv;exact .block b off c' c rfl hg hc hc2
def KX(K:Kw)(D:Hp'):Kw:=fun v l=>K v l∨SlIn D v l
theorem zZ{K:Kw}{D:Hp'}:KLe K (KX K D):=fun _ _ h=>.inl h
theorem wW{K:Kw}{D:Hp'}(h:D⊆D'):KLe (KX K D) (KX K D'):=fun _ _ x=>x.imp_right fun y=>y.mono h
theorem kx_in{K:Kw}{D:Hp'}(h:A⊆D')(h2:D⊆D'):KLe (KX (KX K A) D) (KX K D'):=fun _ _ x=>x.elim (wW h _ _) fun y=>.inr (y.mono h2)
theorem Kn.heap{s s':St}{K:Kw}(h:Kn s K)(hh:s'.heap=s.heap)(hn:s.next≤s'.next):Kn s' K:=⟨fun v l x=>(h.sl v l x).heap hh hn,h.cap⟩
theorem Kn.x{s0 s:St}{K:Kw}{D:Hp'}{n:Nat}(h:Kn s0 K)(H:HL [] s0 s L n)(hs:D⊆L):Kn s (KX K D):=
 ⟨fun v l x=>x.elim (fun y=>(h.sl v l y).kept H) fun y=>y.sl H hs,fun a m c c' l x hc=>x.imp (fun y=>h.cap a m c c' l y hc) fun y=>y.cap hc⟩
def NumK(K:Kw)(n:Bool)(a:Option Addr)(m c:Nat)(z:Int):Prop:=n=decide (z<0)∧m=(dg z.natAbs).length∧K (.slice a m c) (dg z.natAbs)
def dd(q:Rat):List Int:=if q.den=1 then []else dg q.den
def RatK(K:Kw)(n1:Bool)(a1:Option Addr)(m1 c1:Nat)(n2:Bool)(a2:Option Addr)(m2 c2:Nat)(q:Rat)(N M:Nat):Prop:=
 NumK K n1 a1 m1 c1 q.num∧(n2=false∧m2=(dd q).length∧K (.slice a2 m2 c2) (dd q))∧Bd q N M
section
variable{K K':Kw}{n n1 n2:Bool}{a a1 a2:Option Addr}{m c m1 c1 m2 c2:Nat}{q q':Rat}{z z':Int}{N M N' M':Nat}
theorem NumK.mono(h:NumK K n a m c z)(hs:KLe K K'):NumK K' n a m c z:=⟨h.1,h.2.1,hs _ _ h.2.2⟩
theorem RatK.mono(h:RatK K n1 a1 m1 c1 n2 a2 m2 c2 q N M)(hs:KLe K K'):RatK K' n1 a1 m1 c1 n2 a2 m2 c2 q N M:=⟨h.1.mono hs,⟨h.2.1.1,h.2.1.2.1,hs _ _ h.2.1.2.2⟩,h.2.2⟩
theorem RatK.le(h:RatK K n1 a1 m1 c1 n2 a2 m2 c2 q N M)(h1:N≤N')(h2:M≤M'):RatK K n1 a1 m1 c1 n2 a2 m2 c2 q N' M':=⟨h.1,h.2.1,h.2.2.le h1 h2⟩
theorem RatK.eq(h:RatK K n1 a1 m1 c1 n2 a2 m2 c2 q N M)(he:q=q'):RatK K n1 a1 m1 c1 n2 a2 m2 c2 q' N M:=he▸h
theorem NumK.eq(h:NumK K n a m c z)(he:z=z'):NumK K n a m c z':=he▸h
theorem NumK.zero(h:NumK K n a m c z):m=0↔z=0:=by rw[h.2.1,dg_len0];omega
theorem NumK.nil{D:Hp'}:NumK (KX K D) false none 0 c 0:=⟨rfl,by rw[Int.natAbs_zero,kY];rfl,.inr (.nil c rfl kY)⟩
end
def wR(K:Kw)(s:St)(k:Nat)(z:Int)(v:Value)(s':St):Prop:=∃D n a m c,v=.agg ⟨[.bool n,.slice a m c]⟩∧HL [] s s' D k∧NumK (KX K D) n a m c z
def PostNN(K:Kw)(s:St)(k:Nat)(z y:Int)(v:Value)(s':St):Prop:=∃D n a m c n2 a2 m2 c2,v=.tuple ⟨[.agg ⟨[.bool n,.slice a m c]⟩,.agg ⟨[.bool n2,.slice a2 m2 c2]⟩]⟩∧HL [] s s' D k∧NumK (KX K D) n a m c z∧NumK (KX K D) n2 a2 m2 c2 y
def PostQ(K:Kw)(s:St)(k:Nat)(q:Rat)(N M:Nat)(v:Value)(s':St):Prop:=∃D n a m c n2 a2 m2 c2,v=.agg ⟨[.bool n,.slice a m c,.bool n2,.slice a2 m2 c2]⟩∧HL [] s s' D k∧RatK (KX K D) n a m c n2 a2 m2 c2 q N M
def PostV(K:Kw)(s:St)(k:Nat)(q r:Rat)(N M:Nat)(v:Value)(s':St):Prop:=∃D n a m c n2 a2 m2 c2 n3 a3 m3 c3 n4 a4 m4 c4,v=.agg ⟨[.bool n,.slice a m c,.bool n2,.slice a2 m2 c2,.bool n3,.slice a3 m3 c3,.bool n4,.slice a4 m4 c4]⟩∧HL [] s s' D k∧RatK (KX K D) n a m c n2 a2 m2 c2 q N M∧RatK (KX K D) n3 a3 m3 c3 n4 a4 m4 c4 r N M
def qQ(s:St)(k:Nat)(z:Value)(v:Value)(s':St):Prop:=v=z∧HL [] s s' [] k
section
variable{P:Program}{I:xP}{f:FuncId}{args:Array Value}{s:St}{Q:Value→St→Prop}{K:Kw}{k:Nat}
theorem qy{z:Int}(h:∃v s',xN P I f args s v s'∧wR K s k z v s')(c:∀s' D n a m c,HL [] s s' D k→NumK (KX K D) n a m c z→Q (.agg ⟨[.bool n,.slice a m c]⟩) s'):∃v s',xN P I f args s v s'∧Q v s':=by
 obtain⟨v,s',hr,D,n,a,m,c',rfl,H,hn⟩:=h
 exact⟨_,_,hr,c s' D n a m c' H hn⟩
theorem callNN{z y:Int}(h:∃v s',xN P I f args s v s'∧PostNN K s k z y v s')(c:∀s' D n a m c n2 a2 m2 c2,HL [] s s' D k→NumK (KX K D) n a m c z→NumK (KX K D) n2 a2 m2 c2 y→Q (.tuple ⟨[.agg ⟨[.bool n,.slice a m c]⟩,.agg ⟨[.bool n2,.slice a2 m2 c2]⟩]⟩) s'):∃v s',xN P I f args s v s'∧Q v s':=by
 obtain⟨v,s',hr,D,n,a,m,c',n2,a2,m2,c2,rfl,H,hn,hm⟩:=h
 exact⟨_,_,hr,c s' D _ _ _ _ _ _ _ _ H hn hm⟩
theorem qe{q:Rat}{N M:Nat}(h:∃v s',xN P I f args s v s'∧PostQ K s k q N M v s')(c:∀s' D n a m c n2 a2 m2 c2,HL [] s s' D k→RatK (KX K D) n a m c n2 a2 m2 c2 q N M→Q (.agg ⟨[.bool n,.slice a m c,.bool n2,.slice a2 m2 c2]⟩) s'):∃v s',xN P I f args s v s'∧Q v s':=by
 obtain⟨v,s',hr,D,n,a,m,c',n2,a2,m2,c2,rfl,H,hn⟩:=h
 exact⟨_,_,hr,c s' D _ _ _ _ _ _ _ _ H hn⟩
theorem kn{q r:Rat}{N M:Nat}(h:∃v s',xN P I f args s v s'∧PostV K s k q r N M v s')(c:∀s' D n a m c n2 a2 m2 c2 n3 a3 m3 c3 n4 a4 m4 c4,HL [] s s' D k→RatK (KX K D) n a m c n2 a2 m2 c2 q N M→RatK (KX K D) n3 a3 m3 c3 n4 a4 m4 c4 r N M→Q (.agg ⟨[.bool n,.slice a m c,.bool n2,.slice a2 m2 c2,.bool n3,.slice a3 m3 c3,.bool n4,.slice a4 m4 c4]⟩) s'):∃v s',xN P I f args s v s'∧Q v s':=by
 obtain⟨v,s',hr,D,n,a,m,c',n2,a2,m2,c2,n3,a3,m3,c3,n4,a4,m4,c4,rfl,H,hn,hm⟩:=h
 exact⟨_,_,hr,c s' D _ _ _ _ _ _ _ _ _ _ _ _ _ _ _ _ H hn hm⟩
theorem callE{z:Value}(h:∃v s',xN P I f args s v s'∧qQ s k z v s')(c:∀s',HL [] s s' [] k→Q z s'):∃v s',xN P I f args s v s'∧Q v s':=by
 obtain⟨v,s',hr,rfl,H⟩:=h
 exact⟨_,_,hr,c s' H⟩
theorem callS{z:Value}(h:∃v s',xN P I f args s v s'∧(v=z∧s'=s))(c:Q z s):∃v s',xN P I f args s v s'∧Q v s':=by
 obtain⟨v,s',hr,rfl,rfl⟩:=h
 exact⟨_,_,hr,c⟩
theorem callB{b:Bool}(h:∃v s',xN P I f args s v s'∧qQ s k (.bool b) v s')(c0:b=false→∀s',HL [] s s' [] k→Q (.bool false) s')(c1:b=true→∀s',HL [] s s' [] k→Q (.bool true) s'):∃v s',xN P I f args s v s'∧Q v s':=by
 obtain⟨v,s',hr,rfl,H⟩:=h
 cases b
 ·exact⟨_,_,hr,c0 J s' H⟩
 ·exact⟨_,_,hr,c1 J s' H⟩
end
theorem qO{n:Nat}:∀p,p∈([]:List Nat)→p<n:=fun _ h=>by cases h
theorem xW{a n:Nat}{l:List Nat}(h:a<n)(t:∀p,p∈l→p<n):∀p,p∈a::l→p<n:=fun p hp=>(List.mem_cons.mp hp).elim (fun e=>e▸h) (t p)
theorem _root_.Go.M.Fine.pr{s:St}(h:Fine s){X:List Nat}(hX:∀p,p∈X→p<s.next):Fine {s with prot:=X++s.prot}:=⟨h.wfb,fun p hp=>(List.mem_append.mp hp).elim (hX p) (h.wfp p)⟩
theorem _root_.Go.M.Fine.fresh{s:St}(h:Fine s):Fine {s with bar:=s.next}:=⟨Nat.le_refl _,h.wfp⟩
section
variable{W:List Nat}{s0 s s':St}{Φ D:Hp'}{K:Kw}{n k:Nat}
theorem merge(A:Hp')(H:HL W s0 s (A++Φ) n)(Hc:HL [] s s' D k):∃Φ',KLe (KX K Φ) (KX K Φ')∧KLe (KX (KX K Φ) D) (KX K Φ')∧HL W s0 s' (A++Φ') (n+k):=
 ⟨Φ++D,wW W1,kx_in W1 W2,by rw[←List.append_assoc];exact H.callE Hc⟩
theorem merge0(H:HL W s0 s (Φ) n)(Hc:HL [] s s' D k):∃Φ',KLe (KX K Φ) (KX K Φ')∧KLe (KX (KX K Φ) D) (KX K Φ')∧HL W s0 s' (Φ') (n+k):=merge [] H Hc
theorem kn0(hK:Kn s0 K)(H:HL [] s0 s (Φ) n):Kn s (KX K Φ):=hK.x H Z8
theorem ko(H:HL W s0 s (p0::Φ) n)(Hc:HL [] s s' D k):∃Φ',KLe (KX K Φ) (KX K Φ')∧KLe (KX (KX K Φ) D) (KX K Φ')∧HL W s0 s' (p0::Φ') (n+k):=merge [p0] H Hc
theorem kn1(hK:Kn s0 K)(H:HL [] s0 s (p0::Φ) n):Kn s (KX K Φ):=hK.x H Z8
theorem frz1(H:HL W s0 s (p0::Φ) n):HL W s0 s Φ n:=H.sub (by repeat (first|exact List.Sublist.refl _|refine List.Sublist.cons _ ?_))
theorem k8(H:HL W s0 s (p0::p1::Φ) n)(Hc:HL [] s s' D k):∃Φ',KLe (KX K Φ) (KX K Φ')∧KLe (KX (KX K Φ) D) (KX K Φ')∧HL W s0 s' (p0::p1::Φ') (n+k):=merge [p0,p1] H Hc
theorem kn2(hK:Kn s0 K)(H:HL [] s0 s (p0::p1::Φ) n):Kn s (KX K Φ):=hK.x H Z8
theorem frz2(H:HL W s0 s (p0::p1::Φ) n):HL W s0 s Φ n:=H.sub (by repeat (first|exact List.Sublist.refl _|refine List.Sublist.cons _ ?_))
theorem qk(H:HL W s0 s (p0::p1::p2::Φ) n)(Hc:HL [] s s' D k):∃Φ',KLe (KX K Φ) (KX K Φ')∧KLe (KX (KX K Φ) D) (KX K Φ')∧HL W s0 s' (p0::p1::p2::Φ') (n+k):=merge [p0,p1,p2] H Hc
theorem kn3(hK:Kn s0 K)(H:HL [] s0 s (p0::p1::p2::Φ) n):Kn s (KX K Φ):=hK.x H Z8
theorem frz3(H:HL W s0 s (p0::p1::p2::Φ) n):HL W s0 s Φ n:=H.sub (by repeat (first|exact List.Sublist.refl _|refine List.Sublist.cons _ ?_))
theorem kj(H:HL W s0 s (p0::p1::p2::p3::Φ) n)(Hc:HL [] s s' D k):∃Φ',KLe (KX K Φ) (KX K Φ')∧KLe (KX (KX K Φ) D) (KX K Φ')∧HL W s0 s' (p0::p1::p2::p3::Φ') (n+k):=merge [p0,p1,p2,p3] H Hc
theorem kn4(hK:Kn s0 K)(H:HL [] s0 s (p0::p1::p2::p3::Φ) n):Kn s (KX K Φ):=hK.x H Z8
theorem frz4(H:HL W s0 s (p0::p1::p2::p3::Φ) n):HL W s0 s Φ n:=H.sub (by repeat (first|exact List.Sublist.refl _|refine List.Sublist.cons _ ?_))
theorem ka(H:HL W s0 s (p0::p1::p2::p3::p4::Φ) n)(Hc:HL [] s s' D k):∃Φ',KLe (KX K Φ) (KX K Φ')∧KLe (KX (KX K Φ) D) (KX K Φ')∧HL W s0 s' (p0::p1::p2::p3::p4::Φ') (n+k):=merge [p0,p1,p2,p3,p4] H Hc
theorem kn5(hK:Kn s0 K)(H:HL [] s0 s (p0::p1::p2::p3::p4::Φ) n):Kn s (KX K Φ):=hK.x H Z8
theorem frz5(H:HL W s0 s (p0::p1::p2::p3::p4::Φ) n):HL W s0 s Φ n:=H.sub (by repeat (first|exact List.Sublist.refl _|refine List.Sublist.cons _ ?_))
theorem merge6(H:HL W s0 s (p0::p1::p2::p3::p4::p5::Φ) n)(Hc:HL [] s s' D k):∃Φ',KLe (KX K Φ) (KX K Φ')∧KLe (KX (KX K Φ) D) (KX K Φ')∧HL W s0 s' (p0::p1::p2::p3::p4::p5::Φ') (n+k):=merge [p0,p1,p2,p3,p4,p5] H Hc
theorem kn6(hK:Kn s0 K)(H:HL [] s0 s (p0::p1::p2::p3::p4::p5::Φ) n):Kn s (KX K Φ):=hK.x H Z8
theorem frz6(H:HL W s0 s (p0::p1::p2::p3::p4::p5::Φ) n):HL W s0 s Φ n:=H.sub (by repeat (first|exact List.Sublist.refl _|refine List.Sublist.cons _ ?_))
theorem merge7(H:HL W s0 s (p0::p1::p2::p3::p4::p5::p6::Φ) n)(Hc:HL [] s s' D k):∃Φ',KLe (KX K Φ) (KX K Φ')∧KLe (KX (KX K Φ) D) (KX K Φ')∧HL W s0 s' (p0::p1::p2::p3::p4::p5::p6::Φ') (n+k):=merge [p0,p1,p2,p3,p4,p5,p6] H Hc
theorem kn7(hK:Kn s0 K)(H:HL [] s0 s (p0::p1::p2::p3::p4::p5::p6::Φ) n):Kn s (KX K Φ):=hK.x H Z8
theorem merge8(H:HL W s0 s (p0::p1::p2::p3::p4::p5::p6::p7::Φ) n)(Hc:HL [] s s' D k):∃Φ',KLe (KX K Φ) (KX K Φ')∧KLe (KX (KX K Φ) D) (KX K Φ')∧HL W s0 s' (p0::p1::p2::p3::p4::p5::p6::p7::Φ') (n+k):=merge [p0,p1,p2,p3,p4,p5,p6,p7] H Hc
theorem kn8(hK:Kn s0 K)(H:HL [] s0 s (p0::p1::p2::p3::p4::p5::p6::p7::Φ) n):Kn s (KX K Φ):=hK.x H Z8
theorem frz8(H:HL W s0 s (p0::p1::p2::p3::p4::p5::p6::p7::Φ) n):HL W s0 s Φ n:=H.sub (by repeat (first|exact List.Sublist.refl _|refine List.Sublist.cons _ ?_))
end
end Go.Proofs.YtocnbjjmmgolfaaGreat
namespace Go.Proofs.YtocnbjjmmgolfaaGreat
open Go Go.M Go.Proofs.C14
theorem fb10:xK Tryz.f10 (Tryz.f10.body.getD .skip) 2=true:=by kernel_rfl
theorem qn:elemF Tryz.prog 22=some (true,0,1):=by kernel_rfl
theorem fb21:xK Tryz.f21 (Tryz.f21.body.getD .skip) 3=true:=by kernel_rfl
theorem fc10:xJ Tryz.prog 10=true:=by kernel_rfl
theorem sh3:qw Tryz.prog 3=some (none):=by kernel_rfl
theorem xV:Tryz.prog.underlying 22=some (.slice 3):=by kernel_rfl
theorem fb230:xK Tryz.f230 (Tryz.f230.body.getD .skip) 2=true:=by kernel_rfl
theorem bf32:buildF Tryz.prog 32=some ([.bool false,.slice none 0 0],[(0,1),(1,1)]):=by kernel_rfl
theorem fb115:xK Tryz.f115 (Tryz.f115.body.getD .skip) 2=true:=by kernel_rfl
theorem xO:qw Tryz.prog 32=some (some 2):=by kernel_rfl
theorem kg:q6 Tryz.prog 22=some (3,1,8,[.int .i64 0]):=by kernel_rfl
theorem qI:kD Tryz.prog 32=some 2:=by kernel_rfl
theorem qU:zeroF Tryz.prog 32=some [.bool false,.slice none 0 0]:=by kernel_rfl
theorem fb169:xK Tryz.f169 (Tryz.f169.body.getD .skip) 2=true:=by kernel_rfl
def xA(I:xP):Prop:=∀f,f≠18→f≠1000000→I f=none
variable{I:xP}{s:St}{a:Option Addr}{i n:Int}{v va vb:Value}{l:List Int}{cap:Nat}{neg:Bool}
set_option maxHeartbeats 4000000 in
set_option maxRecDepth 10000 in
theorem around_ok(hI:xA I){a:Int}(ha:qp a)(hn:n≠0):∃v s',xN Tryz.prog I 10 #[.int .i64 a,.int .i64 n] s v s'∧(v=.int .i64 (wU a n)∧s'=s):=by
 obtain⟨ha1,ha2⟩:=ha
 refine zX 2 (hI 10 U U) Tryz.func10 J fb10 J ?_
 refine zG (zC J (xB J J (fun h=>?_) (fun h=>?_)))
 ·refine zC J (yH J J Y (op_neg J (zL J (zC J (zC J (kE J J O (zL J (en ?_))))))))
  refine yV (⟨congrArg (Value.int .i64) ?_,J⟩)
  unfold wU
  (rw[if_pos h,wrap_in ⟨by omega,by omega⟩];congr 1;omega)
 refine zC J (zC J (kE J J O (zL J (en ?_))))
 refine yV (⟨congrArg (Value.int .i64) ?_,J⟩)
 unfold wU
 rw[if_neg h]
set_option maxHeartbeats 4000000 in
set_option maxRecDepth 10000 in
theorem at_ok(hI:xA I)(hl:SlI s v l)(hin:∀x∈l,qp x)(hn:n≠0):∃v' s',xN Tryz.prog I 21 #[v,.int .i64 i,.int .i64 n] s v' s'∧(v'=.int .i64 (atZ l i n)∧s'=s):=by
 obtain⟨a,len,cap,rfl,hlen⟩:∃a len cap,v=.slice a len cap∧len=l.length:=by
  cases hl with
  |nil c hv hl=>exact⟨_,_,_,hv,by rw[hl];rfl⟩
  |block b off cap c e hv=>exact⟨_,_,_,hv,rfl⟩
 refine zX 3 (hI 21 U U) Tryz.func21 J fb21 J ?_
 refine zG (zC J (xB J J (fun h=>?_) (fun h=>?_)))
 ·refine zI J (xS J (zG (en ?_)))
  refine yV (⟨congrArg (Value.int .i64) ?_,J⟩)
  unfold atZ
  rw[if_pos O]
 refine zI J (zC J (zH J (yF xV J J J (k7 J J (fun h=>?_) (fun h=>?_)))))
 ·refine yG J J (zG (en ?_))
  refine yV (⟨congrArg (Value.int .i64) ?_,J⟩)
  unfold atZ
  rw[if_pos O]
 refine yG J J (zH J (zC J ?_))
 cases hl with
 |nil c hv hl2=>simp only[hl2,List.length_nil]at hlen;omega
 |block b off cap2 c e hv hg hb hc=>
 cases hv
 refine zP qn J J O O (zJ sh3 J hg (by rw[Nat.mul_one];exact hc _ O) (zC J (zF J fc10 J ?_)))
 obtain⟨_,_,hr,rfl,rfl⟩:=around_ok (n:=n) hI (hin (l.getD i.toNat 0) (by rw[List.getD_eq_getElem?_getD,List.getElem?_eq_getElem O];simp)) hn
 refine⟨_,_,hr,?_⟩
 clear hr
 refine zL J (en ?_)
 refine yV (⟨congrArg (Value.int .i64) ?_,J⟩)
 unfold atZ
 rw[if_neg O]
set_option maxHeartbeats 4000000 in
set_option maxRecDepth 10000 in
theorem digit_ok(hI:xA I)(hl:SlD s v l)(hi:0≤i):∃v' s',xN Tryz.prog I 230 #[v,.int .i64 i] s v' s'∧(v'=.int .i64 (l.getD i.toNat 0)∧s'=s):=by
 obtain⟨a,len,cap,rfl,hn⟩:=hl.isSlice
 rw[List.length_map]at hn
 subst hn
 refine zX 2 (hI 230 U U) Tryz.func230 J fb230 J ?_
 refine zG (zC J (zH J (yF xV J J J (xB J J (fun h=>?_) (fun h=>?_)))))
 ·refine zH J (zC J ?_)
  obtain⟨b,off,c,rfl,hg,hb,hc⟩:=hl.atD (i:=i) (k:=i.toNat) O O
  refine zP qn J J O O (zJ sh3 J hg hc (zL J (en ?_)))
  refine yV ?_
  exact⟨J,J⟩
 refine zG (en ?_)
 refine yV (⟨congrArg (Value.int .i64) ?_,J⟩)
 rw[List.getD_eq_getElem?_getD,List.getElem?_eq_none O]
 rfl
set_option maxHeartbeats 4000000 in
set_option maxRecDepth 10000 in
theorem normal_ok(hI:xA I)(hf:Fine s)(hl:SlD s (.slice a l.length cap) l)(hlen:l.length≤10000)(hroom:s.next+1≤yC) :
  ∃v' s',xN Tryz.prog I 115 #[.bool neg,.slice a l.length cap] s v' s'∧(v'=.agg ⟨[.bool (if vI l l.length=0 then false else neg),nv a (vI l l.length) cap]⟩∧HL [] s s' [] 1):=by
 have H:=hf.hl
 have hcap:=hl.cap
 have hle:=nlen_le l l.length
 refine zX 2 (hI 115 U U) Tryz.func115 J fb115 J ?_
 refine zS H qU O (fun b4 s1 H=>?_)
 refine zH J (yF xV J J J (zL J (xR (fun k F s1=>∃(G:FF) (m:Nat),F=lay G [(0,.bool neg),(1,.slice a l.length cap),(4,.pointer (some ⟨b4,0,none⟩)),(5,.int .i64 (m:Int))]∧HL [] s s1 [(b4,.cells [.bool false,.slice none 0 0] 32)] 1∧m≤l.length∧k=m∧vI l l.length=vI l m) ?_ l.length _ _ ?_)))
 rotate_left
 ·exact⟨_,l.length,yZ ⟨J,J,J,J,trivial⟩,H,by omega,J,J⟩
 rintro k F s1 ⟨G,m,rfl,H,hm,rfl,hn⟩
 refine zC J (qv J J (fun h=>?_) (fun h=>?_))
 ·refine zI J (zH J (zC J (qC J J Y (op_max J J J ?_))))
  obtain⟨b,off,c,rfl,hg,hb,hc⟩:=(hl.kept H).atD (i:=max ((k:Int)-1) 0) (k:=k-1) O O
  refine zP qn J J O O (zJ sh3 J hg hc (qh J J (fun h=>?_) (fun h=>?_)))
  ·refine yD J J (zC J (qC J J Y (zL J (en ?_))))
   obtain⟨m,rfl⟩:∃j,k=j+1:=⟨k-1,by omega⟩
   simp only[Nat.add_sub_cancel]at h
   refine⟨m,by omega,_,m,yZ ⟨J,J,J,by show Value.int .i64 (((m+1:Nat):Int)-1)=_;congr 1;omega,trivial⟩,H,by omega,J,?_⟩
   rw[hn,vI,if_pos h]
  refine yD J J (zC J (qh J J (fun h=>?_) (fun h=>?_)))
  ·exfalso
   omega
  refine zI J (zH J (zC J (op_sliceHi kg J J J hg O (xE (c:=[.bool _,.slice _ _ _]) bf32 J (zT (vs:=[.bool _,.slice _ _ _]) H qI J J J J J O (fun s2 H=>?_))))))
  refine en ?_
  refine yP xO J H.own0 J (⟨?_,H.drop0⟩)
  have hk:vI l k=k:=by
   obtain⟨m,rfl⟩:∃j,k=j+1:=⟨k-1,by omega⟩
   rw[vI,if_neg Z1]
  rw[hn,hk,if_neg O,nv,if_neg O]
 refine zI J (yY J (zC J (qh J J (fun h=>?_) (fun h=>?_))))
 ·refine xE (c:=[.bool _,.slice _ _ _]) bf32 J (zT (vs:=[.bool _,.slice _ _ _]) H qI J J J J J O (fun s3 H=>?_))
  refine en ?_
  refine yP xO J H.own0 J (⟨?_,H.drop0⟩)
  have hz:k=0:=by omega
  rw[hn,hz]
  rfl
 exfalso
 omega
theorem normal_n(hI:xA I)(hf:Fine s){K:Kw}{z:Int}(hl:SlD s (.slice a l.length cap) l)(hd:Dig l)(hz:z=if neg then -(kK l:Int)else(kK l:Int))
  (hres:∀m,0<m→m≤l.length→K (.slice a m cap) (l.take m)) (hlen:l.length≤10000) (hroom:s.next+1≤yC) :
  ∃v' s',xN Tryz.prog I 115 #[.bool neg,.slice a l.length cap] s v' s'∧wR K s 1 z v' s':=by
 obtain⟨v',s',hr,rfl,H⟩:=normal_ok (neg:=neg) hI hf hl hlen hroom
 have hv:∃a' c',nv a (vI l l.length) cap=.slice a' (vI l l.length) c'∧KX K [] (.slice a' (vI l l.length) c') (l.take (vI l l.length)):=by
  unfold nv
  split
  ·next h=>rw[h];exact⟨none,0,rfl,.inr (.nil 0 rfl Y8)⟩
  ·next h=>exact⟨a,cap,rfl,.inl (hres _ O (nlen_le _ _))⟩
 obtain⟨a',c',hv1,hv2⟩:=hv
 have e:dg z.natAbs=l.take (vI l l.length):=by
  rw[take_nlen hd,hz]
  cases neg<;>simp
 refine⟨_,_,hr,[],_,a',_,c',by rw[hv1],H,?_,?_,by rw[e];exact hv2⟩
 ·have h0:=nlen0 hd
  by_cases h:vI l l.length=0
  ·rw[if_pos h]
   have:=h0.mp h
   subst hz
   cases neg<;>simp[this]
  ·rw[if_neg h]
   have:kK l≠0:=fun e=>h (h0.mpr e)
   subst hz
   cases neg<;>simp<;>omega
 ·rw[e,List.length_take]
  have:=nlen_le l l.length
  omega
set_option maxHeartbeats 4000000 in
set_option maxRecDepth 10000 in
theorem compared_ok(hI:xA I){la lb:List Int}(ha:SlD s va la)(hb:SlD s vb lb)(hlen:la.length≤10000)(hroom:s.next≤yC):∃v' s',xN Tryz.prog I 169 #[va,vb] s v' s'∧(v'=.int .i64 (cmpZ la lb)∧s'=s):=by
 obtain⟨a,len,cap,rfl,hn⟩:=ha.isSlice
 rw[List.length_map]at hn
 subst hn
 obtain⟨a2,len2,cap2,rfl,hn2⟩:=hb.isSlice
 rw[List.length_map]at hn2
 subst hn2
 refine zX 2 (hI 169 U U) Tryz.func169 J fb169 J ?_
 refine zG (zH J (yF xV J J J (zH J (yF xV J J J (xB J J (fun h=>?_) (fun h=>?_))))))
 ·refine zG (en ?_)
  refine yV (⟨congrArg (Value.int .i64) ?_,J⟩)
  unfold cmpZ
  rw[if_pos O]
 refine zH J (yF xV J J J (zH J (yF xV J J J (qv J J (fun h=>?_) (fun h=>?_)))))
 ·refine zG (en ?_)
  refine yV (⟨congrArg (Value.int .i64) ?_,J⟩)
  unfold cmpZ
  rw[if_neg O,if_pos O]
 refine zH J (yF xV J J J (qC J J Y (zL J (xR (fun k F s1=>∃(G:FF) (m:Nat),F=lay G [(0,.slice a la.length cap),(1,.slice a2 lb.length cap2),(5,.int .i64 ((m:Int)-1))]∧s1=s∧m≤la.length∧k=m∧cmpD la lb la.length=cmpD la lb m) ?_ la.length _ _ ?_))))
 rotate_left
 ·exact⟨_,la.length,yZ ⟨J,J,J,trivial⟩,J,by omega,J,J⟩
 rintro k F s1 ⟨G,m,rfl,rfl,hm,rfl,hn⟩
 refine zC J (k7 J J (fun h=>?_) (fun h=>?_))
 ·obtain⟨m,rfl⟩:∃j,k=j+1:=⟨k-1,by omega⟩
  obtain⟨b1,off1,c1,rfl,hg1,hb1,hc1⟩:=ha.atD (i:=((m+1:Nat):Int)-1) (k:=m) O O
  obtain⟨b2,off2,c2,rfl,hg2,hb2,hc2⟩:=hb.atD (i:=((m+1:Nat):Int)-1) (k:=m) O O
  have hl1:b1<yC:=by omega
  have hl2:b2<yC:=by omega
  refine yT [⟨0,0,.light,[7]⟩,⟨1,0,.light,[7]⟩,⟨2,3,.light,[7]⟩,⟨3,7,.light,[7]⟩,⟨4,0,.light,[3]⟩,⟨5,0,.light,[3]⟩,⟨6,48,.light,[3]⟩,⟨7,112,.light,[3]⟩,⟨8,255,.light,[]⟩] Z0 Z0 (zA J J (zH J ⟨J,(zA J J (zC J ⟨J,(zA J J (zP qn J J O O ⟨J,(zV J J sh3 J hg1 hl1 hc1 (zA J J (zH J ⟨J,(zA J J (zC J ⟨J,(zA J J (zP qn J J O O ⟨J,(zV J J sh3 J hg2 hl2 hc2 (zA J J (xB J J (fun h=>⟨J,?_⟩) (fun h=>⟨J,?_⟩))))⟩))⟩))⟩)))⟩))⟩))⟩))
  ·refine zU (zG (en ?_))
   refine yV (⟨congrArg (Value.int .i64) ?_,J⟩)
   unfold cmpZ
   rw[if_neg O,if_neg O,hn,cmpD,if_pos Z1]
  refine zU (yT [⟨0,0,.light,[7]⟩,⟨1,0,.light,[7]⟩,⟨2,3,.light,[7]⟩,⟨3,7,.light,[7]⟩,⟨4,0,.light,[3]⟩,⟨5,0,.light,[3]⟩,⟨6,48,.light,[3]⟩,⟨7,112,.light,[3]⟩,⟨8,255,.light,[]⟩] Z0 Z0 (zA J J (zH J ⟨J,(zA J J (zC J ⟨J,(zA J J (zP qn J J O O ⟨J,(zV J J sh3 J hg1 hl1 hc1 (zA J J (zH J ⟨J,(zA J J (zC J ⟨J,(zA J J (zP qn J J O O ⟨J,(zV J J sh3 J hg2 hl2 hc2 (zA J J (qv J J (fun h=>⟨J,?_⟩) (fun h=>⟨J,?_⟩))))⟩))⟩))⟩)))⟩))⟩))⟩)))
  ·refine zU (zG (en ?_))
   refine yV (⟨congrArg (Value.int .i64) ?_,J⟩)
   unfold cmpZ
   rw[if_neg O,if_neg O,hn,cmpD,if_neg Z1,if_pos Z1]
  refine zU (zC J (qC J J Y (zL J (en ?_))))
  refine⟨m,by omega,_,m,yZ ⟨J,J,by show Value.int .i64 (((m+1:Nat):Int)-1-1)=_;congr 1;omega,trivial⟩,J,by omega,J,?_⟩
  rw[hn,cmpD,if_neg Z1,if_neg Z1]
 refine zG (en ?_)
 refine yV (⟨congrArg (Value.int .i64) ?_,J⟩)
 unfold cmpZ
 rw[if_neg O,if_neg O,hn,show k=0 by omega]
 rfl
theorem compared_n(hI:xA I){x y:Nat}(ha:SlD s va (dg x))(hb:SlD s vb (dg y))(hlen:(dg x).length≤10000)(hroom:s.next≤yC):∃v' s',xN Tryz.prog I 169 #[va,vb] s v' s'∧(v'=.int .i64 (cmpN x y)∧s'=s):=by
 have:=compared_ok hI ha hb hlen hroom
 rwa[cmpZ_dg]at this
end Go.Proofs.YtocnbjjmmgolfaaGreat
namespace Go.Proofs.YtocnbjjmmgolfaaGreat
open Go Go.M Go.Proofs.C14
theorem fb168:xK Tryz.f168 (Tryz.f168.body.getD .skip) 2=true:=by kernel_rfl
theorem fc230:xJ Tryz.prog 230=true:=by kernel_rfl
theorem fb170:xK Tryz.f170 (Tryz.f170.body.getD .skip) 2=true:=by kernel_rfl
variable{I:xP}{s:St}{l la lb:List Int}{k:Nat}{c w:Int}{va vb:Value}
theorem digit_n(hI:xA I){v:Value}(hl:SlD s v l):∃v' s',xN Tryz.prog I 230 #[v,.int .i64 (k:Int)] s v' s'∧(v'=.int .i64 (l.getD k 0)∧s'=s):=by
 have:=digit_ok hI (i:=(k:Int)) hl O
 rwa[Int.toNat_natCast]at this
theorem vZ(h:l.length≤k):l.getD k 0=0:=by
 rw[List.getD_eq_getElem?_getD,List.getElem?_eq_none h];rfl
theorem wL(l r:List Int):qm (l++r)=qm l++qm r:=by simp[qm]
theorem tdm(h:0≤w):w.tdiv 1000000000=w / 1000000000∧w.tmod 1000000000=w % 1000000000:=⟨Int.tdiv_eq_ediv_of_nonneg h,Int.tmod_eq_emod_of_nonneg h⟩
theorem plus_step(h:dv l+1000000000 ^ l.length*c=dv (la.take l.length)+dv (lb.take l.length))(hw:w=la.getD l.length 0+lb.getD l.length 0+c) :
  dv (l++[w % 1000000000])+1000000000 ^ (l.length+1)*(w / 1000000000)=dv (la.take (l.length+1))+dv (lb.take (l.length+1)):=by
 have:=step_sum (P:=1000000000 ^ l.length) (x:=la.getD l.length 0+lb.getD l.length 0) h hw
 rw[dv_snoc,qg,qg,Int.pow_succ,this,Int.mul_add]
 omega
theorem minus_step{q:Int}(h:dv l+dv (lb.take l.length)=dv (la.take l.length)+1000000000 ^ l.length*c)(hw:w=la.getD l.length 0-lb.getD l.length 0-c+1000000000*q) :
  dv (l++[w])+dv (lb.take (l.length+1))=dv (la.take (l.length+1))+1000000000 ^ (l.length+1)*q:=by
 rw[dv_snoc,qg,qg,Int.pow_succ,hw,Int.mul_add,Int.mul_sub,Int.mul_sub]
 have:(1000000000:Int) ^ l.length*1000000000*q=1000000000 ^ l.length*(1000000000*q):=by rw[Int.mul_assoc]
 omega
set_option maxHeartbeats 4000000 in
set_option maxRecDepth 10000 in
theorem plus_ok(hI:xA I)(hf:Fine s)(ha:SlD s va la)(hb:SlD s vb lb)(hda:Dig la)(hdb:Dig lb)(hlen:la.length≤1000)(hlen2:lb.length≤1000)(hroom:s.next+3000≤yC) :
  ∃v' s',xN Tryz.prog I 168 #[va,vb] s v' s'∧(∃D out,HL [] s s' D 3000∧SlIn D v' out∧Dig out∧dv out=dv la+dv lb∧out.length≤1002):=by
 have H:=hf.hl
 obtain⟨a,len,cap,rfl,hn⟩:=ha.isSlice
 rw[List.length_map]at hn
 subst hn
 obtain⟨a2,len,cap2,rfl,hn⟩:=hb.isSlice
 rw[List.length_map]at hn
 subst hn
 refine zX 2 (hI 168 U U) Tryz.func168 J fb168 J ?_
 refine zG (zG (zG (zG (xR (fun k F s1=>∃(G:FF) (D:Hp') (v:Value) (l:List Int) (c:Int),F=lay G [(0,.slice a la.length cap),(1,.slice a2 lb.length cap2),(5,v),(6,.int .i64 c),(7,.int .i64 (l.length:Int))]∧HL [] s s1 D (2*l.length)∧Own 3 1 D v (qm l) l.length∧Dig l∧0≤c∧c≤1∧dv l+1000000000 ^ l.length*c=dv (la.take l.length)+dv (lb.take l.length)∧(l.length≤max la.length lb.length∨(l.length=max la.length lb.length+1∧c=0))∧k=max la.length lb.length+1-l.length) ?_ (max la.length lb.length+1) _ _ ?_))))
 rotate_left
 ·exact⟨_,[],_,[],0,yZ ⟨J,J,J,J,J,trivial⟩,H,.nil,Dig.nil,by decide,by decide,by simp[dv],by simp,by simp⟩
 rintro k F s1 ⟨G,D,v,l,c,rfl,H,ho,hdl,hc0,hc1,hval,hi,rfl⟩
 have d1:=hda.at l.length
 have d2:=hdb.at l.length
 refine zC J (zH J (yF xV J J J (xB J J (fun h=>?_) (fun h=>?_))))
 ·refine zI J (xS J (zI J (xS J (zH J (zC J (zF J fc230 J ?_))))))
  obtain⟨_,_,hr,rfl,rfl⟩:=digit_n (k:=l.length) hI (ha.kept H)
  refine⟨_,_,hr,?_⟩
  clear hr
  refine zH J (zC J (zF J fc230 J ?_))
  obtain⟨_,_,hr,rfl,rfl⟩:=digit_n (k:=l.length) hI (hb.kept H)
  refine⟨_,_,hr,?_⟩
  clear hr
  refine yH J J Y (zC J (yH J J Y (zL J (xL (zC J (kE J J O (yS (c:=[.int _ _]) H kg J J O (fun b37 s1 H=>?_))))))))
  have hgt:=H.own0
  have H:=H.drop0
  refine qi (L:=[]) (D:=D) V8 ho kg xV J J J W0 U J J O O (fun b38 s38 H ho=>?_)
  refine yU J (zC J (wY J J U (by rw[(tdm (w:=(la.getD l.length 0+lb.getD l.length 0+c)) O).1];unfold qp;omega) (zL J (zC J (yH J J Y (zL J (en ?_)))))))
  have htd:=tdm (w:=(la.getD l.length 0+lb.getD l.length 0+c)) O
  have hz:max la.length lb.length≤l.length→(la.getD l.length 0+lb.getD l.length 0+c) / 1000000000=0:=by
   intro hm
   rw[vZ (l:=la) O,vZ (l:=lb) O]
   omega
  refine⟨max la.length lb.length+1-(l.length+1),by omega,_,_,.slice (some ⟨b38,0,none⟩) (l.length+1) (2*(l.length+1)+1),l++[(la.getD l.length 0+lb.getD l.length 0+c) % 1000000000],(la.getD l.length 0+lb.getD l.length 0+c) / 1000000000,yZ ⟨J,J,J,by show Value.int .i64 ((la.getD l.length 0+lb.getD l.length 0+c).tdiv 1000000000)=_;rw[htd.1],by show Value.int .i64 ((l.length:Int)+1)=_;rw[List.length_append,List.length_singleton];rfl,trivial⟩,H.up W9,?_,hdl.app (Dig.one O O),by omega,by omega,?_,?_,by rw[List.length_append,List.length_singleton]⟩
  ·rw[wL,List.length_append,List.length_singleton]
   rw[htd.2]at ho
   rw[htd.2]
   exact ho
  ·rw[List.length_append,List.length_singleton]
   exact plus_step hval J
  ·rw[List.length_append,List.length_singleton]
   by_cases hm:max la.length lb.length≤l.length
   ·exact .inr ⟨by omega,hz hm⟩
   ·exact .inl O
 refine zI J (zC J (zH J (yF xV J J J (xB J J (fun h=>?_) (fun h=>?_)))))
 ·refine yG J J (zI J (xS J (zH J (zC J (zF J fc230 J ?_)))))
  obtain⟨_,_,hr,rfl,rfl⟩:=digit_n (k:=l.length) hI (ha.kept H)
  refine⟨_,_,hr,?_⟩
  clear hr
  refine zH J (zC J (zF J fc230 J ?_))
  obtain⟨_,_,hr,rfl,rfl⟩:=digit_n (k:=l.length) hI (hb.kept H)
  refine⟨_,_,hr,?_⟩
  clear hr
  refine yH J J Y (zC J (yH J J Y (zL J (xL (zC J (kE J J O (yS (c:=[.int _ _]) H kg J J O (fun b37 s2 H=>?_))))))))
  have hgt:=H.own0
  have H:=H.drop0
  refine qi (L:=[]) (D:=D) V8 ho kg xV J J J W0 U J J O O (fun b38 s38 H ho=>?_)
  refine yU J (zC J (wY J J U (by rw[(tdm (w:=(la.getD l.length 0+lb.getD l.length 0+c)) O).1];unfold qp;omega) (zL J (zC J (yH J J Y (zL J (en ?_)))))))
  have htd:=tdm (w:=(la.getD l.length 0+lb.getD l.length 0+c)) O
  have hz:max la.length lb.length≤l.length→(la.getD l.length 0+lb.getD l.length 0+c) / 1000000000=0:=by
   intro hm
   rw[vZ (l:=la) O,vZ (l:=lb) O]
   omega
  refine⟨max la.length lb.length+1-(l.length+1),by omega,_,_,.slice (some ⟨b38,0,none⟩) (l.length+1) (2*(l.length+1)+1),l++[(la.getD l.length 0+lb.getD l.length 0+c) % 1000000000],(la.getD l.length 0+lb.getD l.length 0+c) / 1000000000,yZ ⟨J,J,J,by show Value.int .i64 ((la.getD l.length 0+lb.getD l.length 0+c).tdiv 1000000000)=_;rw[htd.1],by show Value.int .i64 ((l.length:Int)+1)=_;rw[List.length_append,List.length_singleton];rfl,trivial⟩,H.up W9,?_,hdl.app (Dig.one O O),by omega,by omega,?_,?_,by rw[List.length_append,List.length_singleton]⟩
  ·rw[wL,List.length_append,List.length_singleton]
   rw[htd.2]at ho
   rw[htd.2]
   exact ho
  ·rw[List.length_append,List.length_singleton]
   exact plus_step hval J
  ·rw[List.length_append,List.length_singleton]
   by_cases hm:max la.length lb.length≤l.length
   ·exact .inr ⟨by omega,hz hm⟩
   ·exact .inl O
 refine yG J J (zI J (zC J (qv J J (fun h=>?_) (fun h=>?_))))
 ·refine yG J J (zH J (zC J (zF J fc230 J ?_)))
  obtain⟨_,_,hr,rfl,rfl⟩:=digit_n (k:=l.length) hI (ha.kept H)
  refine⟨_,_,hr,?_⟩
  clear hr
  refine zH J (zC J (zF J fc230 J ?_))
  obtain⟨_,_,hr,rfl,rfl⟩:=digit_n (k:=l.length) hI (hb.kept H)
  refine⟨_,_,hr,?_⟩
  clear hr
  refine yH J J Y (zC J (yH J J Y (zL J (xL (zC J (kE J J O (yS (c:=[.int _ _]) H kg J J O (fun b37 s3 H=>?_))))))))
  have hgt:=H.own0
  have H:=H.drop0
  refine qi (L:=[]) (D:=D) V8 ho kg xV J J J W0 U J J O O (fun b38 s38 H ho=>?_)
  refine yU J (zC J (wY J J U (by rw[(tdm (w:=(la.getD l.length 0+lb.getD l.length 0+c)) O).1];unfold qp;omega) (zL J (zC J (yH J J Y (zL J (en ?_)))))))
  have htd:=tdm (w:=(la.getD l.length 0+lb.getD l.length 0+c)) O
  have hz:max la.length lb.length≤l.length→(la.getD l.length 0+lb.getD l.length 0+c) / 1000000000=0:=by
   intro hm
   rw[vZ (l:=la) O,vZ (l:=lb) O]
   omega
  refine⟨max la.length lb.length+1-(l.length+1),by omega,_,_,.slice (some ⟨b38,0,none⟩) (l.length+1) (2*(l.length+1)+1),l++[(la.getD l.length 0+lb.getD l.length 0+c) % 1000000000],(la.getD l.length 0+lb.getD l.length 0+c) / 1000000000,yZ ⟨J,J,J,by show Value.int .i64 ((la.getD l.length 0+lb.getD l.length 0+c).tdiv 1000000000)=_;rw[htd.1],by show Value.int .i64 ((l.length:Int)+1)=_;rw[List.length_append,List.length_singleton];rfl,trivial⟩,H.up W9,?_,hdl.app (Dig.one O O),by omega,by omega,?_,?_,by rw[List.length_append,List.length_singleton]⟩
  ·rw[wL,List.length_append,List.length_singleton]
   rw[htd.2]at ho
   rw[htd.2]
   exact ho
  ·rw[List.length_append,List.length_singleton]
   exact plus_step hval J
  ·rw[List.length_append,List.length_singleton]
   by_cases hm:max la.length lb.length≤l.length
   ·exact .inr ⟨by omega,hz hm⟩
   ·exact .inl O
 refine yG J J (xL (xT (en ?_)))
 refine yV ?_
 obtain⟨_,hsl⟩:=Own.slIn ho
 refine⟨D,l,H.up O,hsl,hdl,?_,by omega⟩
 have hc:c=0:=by omega
 rw[jz (l:=la) O,jz (l:=lb) O,hc]at hval
 omega
set_option maxHeartbeats 4000000 in
set_option maxRecDepth 10000 in
theorem minus_ok(hI:xA I)(hf:Fine s)(ha:SlD s va la)(hb:SlD s vb lb)(hda:Dig la)(hdb:Dig lb)(hlen:la.length≤1000)(hll:lb.length≤la.length)(hle:dv lb≤dv la)(hroom:s.next+3000≤yC) :
  ∃v' s',xN Tryz.prog I 170 #[va,vb] s v' s'∧(∃D out,HL [] s s' D 3000∧SlIn D v' out∧Dig out∧dv out=dv la-dv lb∧out.length≤1002):=by
 have H:=hf.hl
 obtain⟨a,len,cap,rfl,hn⟩:=ha.isSlice
 rw[List.length_map]at hn
 subst hn
 obtain⟨a2,len,cap2,rfl,hn⟩:=hb.isSlice
 rw[List.length_map]at hn
 subst hn
 refine zX 2 (hI 170 U U) Tryz.func170 J fb170 J ?_
 refine zG (zG (zG (zG (xR (fun k F s1=>∃(G:FF) (D:Hp') (v:Value) (l:List Int) (c:Int),F=lay G [(0,.slice a la.length cap),(1,.slice a2 lb.length cap2),(5,v),(6,.int .i64 c),(7,.int .i64 (l.length:Int))]∧HL [] s s1 D (2*l.length)∧Own 3 1 D v (qm l) l.length∧Dig l∧0≤c∧c≤1∧dv l+dv (lb.take l.length)=dv (la.take l.length)+1000000000 ^ l.length*c∧l.length≤la.length∧k=la.length-l.length) ?_ la.length _ _ ?_))))
 rotate_left
 ·exact⟨_,[],_,[],0,yZ ⟨J,J,J,J,J,trivial⟩,H,.nil,Dig.nil,by decide,by decide,by simp[dv],by simp,by simp⟩
 rintro k F s1 ⟨G,D,v,l,c,rfl,H,ho,hdl,hc0,hc1,hval,hi,rfl⟩
 have d1:=hda.at l.length
 have d2:=hdb.at l.length
 refine zC J (zH J (yF xV J J J (xB J J (fun h=>?_) (fun h=>?_))))
 ·obtain⟨b1,off1,c1,rfl,hg1,hb1,hc1⟩:=(ha.kept H).atD (i:=(l.length:Int)) (k:=l.length) rfl O
  have hl1:b1<yC:=by have:=H.most;omega
  refine yT [⟨0,0,.light,[]⟩,⟨1,0,.light,[]⟩,⟨2,3,.light,[]⟩,⟨3,7,.light,[]⟩,⟨4,0,.light,[3]⟩,⟨5,0,.light,[3]⟩,⟨8,0,.light,[3]⟩,⟨6,48,.whole,[3]⟩,⟨7,127,.light,[]⟩,⟨9,511,.light,[]⟩,⟨10,1023,.light,[]⟩] Z0 Z0 (zA J J (zH J ⟨J,(zA J J (zC J ⟨J,(zA J J (zP qn J J O O ⟨J,(zV J J sh3 J hg1 hl1 hc1 (zA J J (zH J ⟨J,(zA J J (zC J ⟨J,(zA J J (zC J ⟨J,(zM J J (zF J fc230 J ?_))⟩))⟩))⟩)))⟩))⟩))⟩))
  obtain⟨_,_,hr,rfl,rfl⟩:=digit_n (s:=_) (k:=l.length) hI ((hb.kept H).prot (X:=[b1]))
  refine⟨_,_,hr,?_⟩
  clear hr
  refine zA J J (qC J J (by show qp (la.getD l.length 0-lb.getD l.length 0);unfold qp;omega) ⟨J,(zA J J (qC J J (by show qp (la.getD l.length 0-lb.getD l.length 0-c);unfold qp;omega) ⟨J,(zA J J (zL J ⟨J,(zU (zG (zC J (xB J J (fun h=>?_) (fun h=>?_)))))⟩))⟩))⟩)
  ·refine zC J (yH J J Y (zL J (zG (xL (zC J (yS (c:=[.int _ _]) H kg J J O (fun b31 s1 H=>?_)))))))
   have hgt:=H.own0
   have H:=H.drop0
   refine qi (L:=[]) (D:=D) V8 ho kg xV J J J W0 U J J O O (fun b32 s32 H ho=>?_)
   refine yU J (zC J (yH J J Y (zL J (en ?_))))
   refine⟨la.length-(l.length+1),by omega,_,_,.slice (some ⟨b32,0,none⟩) (l.length+1) (2*(l.length+1)+1),l++[(la.getD l.length 0-lb.getD l.length 0-c+1000000000)],1,yZ ⟨J,J,J,J,by show Value.int .i64 ((l.length:Int)+1)=_;rw[List.length_append,List.length_singleton];rfl,trivial⟩,H.up W9,?_,hdl.app (Dig.one O O),by omega,by omega,?_,by rw[List.length_append,List.length_singleton];omega,by rw[List.length_append,List.length_singleton]⟩
   ·rw[wL,List.length_append,List.length_singleton]
    exact ho
   ·rw[List.length_append,List.length_singleton]
    exact minus_step hval O
  refine xL (zC J (yS (c:=[.int _ _]) H kg J J O (fun b31 s2 H=>?_)))
  have hgt:=H.own0
  have H:=H.drop0
  refine qi (L:=[]) (D:=D) V8 ho kg xV J J J W0 U J J O O (fun b32 s32 H ho=>?_)
  refine yU J (zC J (yH J J Y (zL J (en ?_))))
  refine⟨la.length-(l.length+1),by omega,_,_,.slice (some ⟨b32,0,none⟩) (l.length+1) (2*(l.length+1)+1),l++[(la.getD l.length 0-lb.getD l.length 0-c)],0,yZ ⟨J,J,J,J,by show Value.int .i64 ((l.length:Int)+1)=_;rw[List.length_append,List.length_singleton];rfl,trivial⟩,H.up W9,?_,hdl.app (Dig.one O O),by omega,by omega,?_,by rw[List.length_append,List.length_singleton];omega,by rw[List.length_append,List.length_singleton]⟩
  ·rw[wL,List.length_append,List.length_singleton]
   exact ho
  ·rw[List.length_append,List.length_singleton]
   exact minus_step hval O
 refine xL (xT (en ?_))
 refine yV ?_
 have hi2:l.length=la.length:=by omega
 obtain⟨_,hsl⟩:=Own.slIn ho
 refine⟨D,l,H.up O,hsl,hdl,?_,by omega⟩
 rw[jz (l:=la) O,jz (l:=lb) O]at hval
 have h1:=dv_lt hdl
 have h2:=dv_nonneg hdb
 have h3:=powB l.length
 have hc:c=0:=by
  by_cases h:c=0
  ·exact h
  ·have:c=1:=by omega
   rw[this,Int.mul_one]at hval
   omega
 rw[hc,Int.mul_zero]at hval
 omega
end Go.Proofs.YtocnbjjmmgolfaaGreat
namespace Go.Proofs.YtocnbjjmmgolfaaGreat
open Go Go.M Go.Proofs.C14
theorem fb59:xK Tryz.f59 (Tryz.f59.body.getD .skip) 1=true:=by kernel_rfl
theorem fc115:xJ Tryz.prog 115=true:=by kernel_rfl
theorem fb189:xK Tryz.f189 (Tryz.f189.body.getD .skip) 1=true:=by kernel_rfl
theorem SlIn.cut{D:Hp'}{a:Option Addr}{len cap:Nat}{l:List Int}(h:SlIn D (.slice a len cap) l){m:Nat}(h0:0<m)(hm:m≤l.length):SlIn D (.slice a m cap) (l.take m):=by
 have:=h.take hm
 rwa[nv,if_neg O]at this
theorem of_step{x:Int}(hx:qp x)(h:x≠0):(0≤x.tmod 1000000000→x.tmod 1000000000=((x.natAbs % 1000000000:Nat):Int))∧(x.tmod 1000000000<0→IntKind.i64.wrap (0-x.tmod 1000000000)=((x.natAbs % 1000000000:Nat):Int))∧(x.tdiv 1000000000).natAbs=x.natAbs / 1000000000∧qp (x.tdiv 1000000000):=by
 have h1:(x.tmod 1000000000).natAbs=x.natAbs % 1000000000:=by rw[Int.natAbs_tmod];rfl
 have h2:(x.tdiv 1000000000).natAbs=x.natAbs / 1000000000:=by rw[Int.natAbs_tdiv];rfl
 obtain⟨hx1,hx2⟩:=hx
 refine⟨fun h0=>by omega,fun h0=>by rw[wrap_in ⟨by omega,by omega⟩];omega,h2,?_⟩
 unfold qp
 omega
variable{n:Int}{I:xP}{s:St}
theorem len64(h:qp n):(dg n.natAbs).length≤3:=dg_len 3 _ (by unfold qp at h;omega)
set_option maxHeartbeats 4000000 in
set_option maxRecDepth 10000 in
theorem of03_ok(hI:xA I)(hf:Fine s){K:Kw}(hn:qp n)(hroom:s.next+10≤yC) :
  ∃v' s',xN Tryz.prog I 59 #[.int .i64 n] s v' s'∧wR K s 10 n v' s':=by
 have H:=hf.hl
 have hn0:=hn
 have hlen:=len64 hn
 obtain⟨hn1,hn2⟩:=hn
 refine zX 1 (hI 59 U U) Tryz.func59 J fb59 J ?_
 refine zS H qU O (fun b2 s1 H=>?_)
 refine zG (zC J (op_lss' J J (zK J (xR (fun k F s1=>∃(G:FF) (x:Int) (D:Hp') (v:Value) (l:List Int),F=lay G [(0,.int .i64 x),(2,.pointer (some ⟨b2,0,none⟩)),(3,v),(4,.bool (decide (n<0)))]∧HL [] s s1 (D++[(b2,.cells [.bool false,.slice none 0 0] 32)]) (1+2*l.length)∧Own 3 1 D v (qm l) l.length∧k=x.natAbs∧qp x∧dg n.natAbs=l++dg x.natAbs) ?_ n.natAbs _ _ ?_))))
 rotate_left
 ·exact⟨_,n,[],_,[],yZ ⟨J,J,J,J,trivial⟩,H,.nil,J,hn0,J⟩
 rintro k F s1 ⟨G,x,D,v,l,rfl,H,ho,rfl,hx,hdg⟩
 have hll:l.length≤3:=by have:=congrArg List.length hdg;rw[List.length_append]at this;omega
 refine zC J (k6 J J (fun h=>?_) (fun h=>?_))
 ·refine zC J (kE J J O (zL J (zC J (xB J J (fun h=>?_) (fun h=>?_)))))
  ·refine zC J (op_neg J (zL J (xL (zC J (yS (c:=[.int _ _]) H kg J J O (fun b18 s2 H=>?_))))))
   have hgt:=H.own0
   have H:=H.drop0
   refine qi H ho kg xV J J J W0 U J J O O (fun b19 s19 H ho=>?_)
   refine yU J (zC J (wY J J U (of_step hx O).2.2.2 (zL J (en ?_))))
   have hne:x≠0:=by omega
   have hst:=of_step hx hne
   have hl3:l.length+1≤3:=by have:=congrArg List.length hdg;rw[List.length_append,dg_pos (by omega:x.natAbs≠0),List.length_cons]at this;omega
   have hdv:IntKind.i64.wrap (0-x.tmod 1000000000)=((x.natAbs % 1000000000:Nat):Int):=hst.2.1 O
   refine⟨(x.tdiv 1000000000).natAbs,by omega,_,x.tdiv 1000000000,[(b19,.cells (qm l++[Value.int IntKind.i64 (IntKind.i64.wrap (0-x.tmod 1000000000))]) 3)],.slice (some ⟨b19,0,none⟩) (l.length+1) (2*(l.length+1)+1),l++[((x.natAbs % 1000000000:Nat):Int)],yZ ⟨J,J,J,J,trivial⟩,H.up W9,?_,J,hst.2.2.2,?_⟩
   ·rw[wL,List.length_append,←hdv]
    exact ho
   ·rw[hdg,dg_pos (by omega:x.natAbs≠0),hst.2.2.1]
    simp
  refine xL (zC J (yS (c:=[.int _ _]) H kg J J O (fun b18 s3 H=>?_)))
  have hgt:=H.own0
  have H:=H.drop0
  refine qi H ho kg xV J J J W0 U J J O O (fun b19 s19 H ho=>?_)
  refine yU J (zC J (wY J J U (of_step hx O).2.2.2 (zL J (en ?_))))
  have hne:x≠0:=by omega
  have hst:=of_step hx hne
  have hl3:l.length+1≤3:=by have:=congrArg List.length hdg;rw[List.length_append,dg_pos (by omega:x.natAbs≠0),List.length_cons]at this;omega
  have hdv:x.tmod 1000000000=((x.natAbs % 1000000000:Nat):Int):=hst.1 O
  refine⟨(x.tdiv 1000000000).natAbs,by omega,_,x.tdiv 1000000000,[(b19,.cells (qm l++[Value.int IntKind.i64 (x.tmod 1000000000)]) 3)],.slice (some ⟨b19,0,none⟩) (l.length+1) (2*(l.length+1)+1),l++[((x.natAbs % 1000000000:Nat):Int)],yZ ⟨J,J,J,J,trivial⟩,H.up W9,?_,J,hst.2.2.2,?_⟩
  ·rw[wL,List.length_append,←hdv]
   exact ho
  ·rw[hdg,dg_pos (by omega:x.natAbs≠0),hst.2.2.1]
   simp
 refine zI J (xL ?_)
 obtain⟨_,hsl⟩:=Own.slIn ho
 have hx0:x=0:=by omega
 subst hx0
 have hlq:l=dg n.natAbs:=by rw[hdg];simp[kY]
 obtain⟨a,len,cap,rfl,hle⟩:=(hsl.sl H Y8).isSlice
 rw[List.length_map]at hle
 subst hle
 refine zF J fc115 J ?_
 obtain⟨_,s9,hr,Dn,n9,a9,m9,c9,rfl,Hc,hz9⟩:=normal_n (K:=KX K D) (neg:=decide (n<0)) (z:=n) hI H.fine (hsl.sl H Y8) (by rw[hlq];exact kq _) (by rw[hlq,dval_dg];by_cases h:n<0<;>simp[h]<;>omega) (fun m h0 hm=>.inr (hsl.cut h0 hm)) (by rw[hlq];omega) Y7
 refine⟨_,_,hr,?_⟩
 clear hr
 have H:=H.callE Hc
 clear Hc
 simp only[List.append_assoc,List.cons_append,List.nil_append]at H
 refine op_storeA (A:=D) H qI J J J J J O (fun s20 H=>?_)
 refine en ?_
 refine yP xO J H.ownA J (⟨_,_,_,_,_,J,(H.perm List.perm_middle).drop0.up O,hz9.mono X0⟩)
set_option maxHeartbeats 4000000 in
set_option maxRecDepth 10000 in
theorem tiny_ok(hI:xA I){v:Value}{n:Nat}(hl:SlD s v (dg n))(hn:n<1000000000000000000):∃v' s',xN Tryz.prog I 189 #[v] s v' s'∧(v'=.int .i64 (n:Int)∧s'=s):=by
 have h0:=(kq n).at 0
 have h1:=(kq n).at 1
 have hv:(dg n).getD 1 0*1000000000+(dg n).getD 0 0=(n:Int):=by
  have h2:=qg (dg n) 0
  have h3:=qg (dg n) 1
  rw[jz (jl hn),dv_dg]at h3
  simp only[List.take_zero,dv,Int.pow_zero,Int.pow_one,Nat.zero_add]at h2 h3
  omega
 refine zX 1 (hI 189 U U) Tryz.func189 J fb189 J ?_
 refine zG (xL (zF J fc230 J ?_))
 obtain⟨_,_,hr,rfl,rfl⟩:=digit_ok (i:=1) hI hl U
 refine⟨_,_,hr,?_⟩
 clear hr
 refine op_mul J J (by show qp ((dg n).getD 1 0*1000000000);unfold qp;omega) (xL (zF J fc230 J ?_))
 obtain⟨_,_,hr,rfl,rfl⟩:=digit_ok (i:=0) hI hl U
 refine⟨_,_,hr,?_⟩
 clear hr
 refine yH J J (by show qp ((dg n).getD 1 0*1000000000+(dg n).getD 0 0);unfold qp;omega) (zL J (en ?_))
 refine yV ?_
 exact⟨congrArg (Value.int .i64) hv,J⟩
end Go.Proofs.YtocnbjjmmgolfaaGreat
