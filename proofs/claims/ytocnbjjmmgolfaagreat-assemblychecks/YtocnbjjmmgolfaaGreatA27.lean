/- Slices and what is known of them; rules for single operations: the base of the evaluator. -/
/- Values of the program as plain data: what a value stands for, calls with plain results. -/
/- Rules for walks over plain data: lists, calls, loops. -/
/- An evaluator over plain data: it runs the program's code on numbers, fractions and lists. -/
import Derived.Test.YtocnbjjmmgolfaaGreatA00
import Derived.Test.YtocnbjjmmgolfaaGreatProg
import Derived.KernelRfl
import Derived.Test.YtocnbjjmmgolfaaGreatA12
import Derived.Test.YtocnbjjmmgolfaaGreatA13
namespace Go.Proofs.YtocnbjjmmgolfaaGreat
open Go Go.M Go.Proofs.C14
def ints(l:List Int):List Value:=l.map (Value.int .i64)
theorem lget_ints{l:List Int}{k:Nat}(h:k<l.length):zM (ints l) k=some (.int .i64 (l.getD k 0)):=by
 rw[zC];simp[ints,List.getElem?_map,List.getD_eq_getElem?_getD,List.getElem?_eq_getElem h]
inductive Sl(s:St)(e:TypeId)(sz:Nat)(v:Value)(es:List (List Value)):Prop
 |nil (c:Nat) (hv:v=.slice none 0 c) (hl:es=[]):Sl s e sz v es
 |block (b off cap:Nat) (c:List Value) (hv:v=.slice (some ⟨b,off,none⟩) es.length cap) (hg:s.get b=some (.cells c e)) (hb:b<s.next) (hcap:es.length≤cap / 2) (hc:∀k,k<es.length→xd sz (xx (off+k*sz) c)=some (es.getD k [])):Sl s e sz v es
theorem Sl.kept{s s':St}{e:TypeId}{sz:Nat}{v:Value}{es:List (List Value)}{L:Hp'}{n:Nat}(h:Sl s e sz v es)(H:HL [] s s' L n):Sl s' e sz v es:=by
 cases h with
 |nil c hv hl=>exact .nil c hv hl
 |block b off cap c hv hg hb hcap hc=>exact .block b off cap c hv (H.old hb hg) (by have:=H.le;omega) hcap hc
theorem Sl.at{s:St}{e:TypeId}{sz:Nat}{a:Option Addr}{len cap:Nat}{es:List (List Value)}(h:Sl s e sz (.slice a len cap) es){i:Int}{k:Nat}(hi:i=(k:Int))(hk:k<es.length):∃b off c,a=some ⟨b,off,none⟩∧s.get b=some (.cells c e)∧b<s.next∧xd sz (xx (off+i.toNat*sz) c)=some (es.getD k []):=by
 subst hi
 cases h with
 |nil c hv hl=>rw[hl]at hk;simp at hk
 |block b off cap c hv hg hb hcap hc=>
  cases hv
  exact⟨b,off,c,rfl,hg,hb,by simpa using hc k hk⟩
theorem getD_mem{α:Type}{l:List α}{k:Nat}{y:α}(h:k<l.length):l.getD k y∈l:=by
 simp[List.getD_eq_getElem?_getD,List.getElem?_eq_getElem h]
theorem drop_getD{α:Type}{l:List α}{k:Nat}(y:α)(h:k<l.length):l.drop k=l.getD k y::l.drop (k+1):=by
 rw[List.drop_eq_getElem_cons h];simp[List.getD_eq_getElem?_getD,List.getElem?_eq_getElem h]
inductive SlG(D:Hp')(e:TypeId)(sz:Nat)(v:Value)(es:List (List Value)):Prop
 |nil (c:Nat) (hv:v=.slice none 0 c) (hl:es=[]):SlG D e sz v es
 |block (b off cap:Nat) (c:List Value) (hv:v=.slice (some ⟨b,off,none⟩) es.length cap) (hg:(b,.cells c e)∈D) (hcap:es.length≤cap / 2) (hc:∀k,k<es.length→xd sz (xx (off+k*sz) c)=some (es.getD k [])):SlG D e sz v es
theorem SlG.sl{D:Hp'}{e:TypeId}{sz:Nat}{v:Value}{es:List (List Value)}(h:SlG D e sz v es){W:List Nat}{s0 s:St}{L:Hp'}{n:Nat}(H:HL W s0 s L n)(hs:D⊆L):Sl s e sz v es:=by
 cases h with
 |nil c hv hl=>exact .nil c hv hl
 |block b off cap c hv hg hcap hc=>
  have ho:=H.own _ (hs hg)
  exact .block b off cap c hv ho.1 ho.2.1 hcap hc
theorem SlG.mono{D D':Hp'}{e:TypeId}{sz:Nat}{v:Value}{es:List (List Value)}(h:SlG D e sz v es)(hs:D⊆D'):SlG D' e sz v es:=by
 cases h with
 |nil c hv hl=>exact .nil c hv hl
 |block b off cap c hv hg hcap hc=>exact .block b off cap c hv (hs hg) hcap hc
theorem xy{sz:Nat}:∀{es:List (List Value)},(∀x∈es,x.length=sz)→es.flatten.length=es.length*sz
 | [],_=>by simp
 |x::es,h=>by
  rw[List.flatten_cons,List.length_append,h x Y8,xy fun y hy=>h y (by simp[hy]),List.length_cons,Nat.add_mul]
  omega
theorem flat_drop{sz:Nat}:∀{es:List (List Value)} (k:Nat),(∀x∈es,x.length=sz)→es.flatten.drop (k*sz)=(es.drop k).flatten
 | [],k,_=>by simp
 |x::es,0,_=>by simp
 |x::es,k+1,h=>by
  have hx:=h x Y8
  rw[List.flatten_cons,List.drop_succ_cons,←flat_drop k fun y hy=>h y (by simp[hy]),Nat.add_mul,Nat.one_mul,Nat.add_comm,←List.drop_drop,←hx,List.drop_left]
theorem flat_get{sz:Nat}{es:List (List Value)}(h:∀x∈es,x.length=sz){k:Nat}(hk:k<es.length):xd sz (xx (0+k*sz) es.flatten)=some (es.getD k []):=by
 rw[y5,y6,Nat.zero_add,flat_drop k h,drop_getD [] hk,List.flatten_cons]
 have hx:(es.getD k []).length=sz:=h _ (getD_mem hk)
 rw[if_pos (by rw[List.length_append];omega),←hx,List.take_left]
theorem Own.slG{D:Hp'}{e:TypeId}{sz:Nat}{v:Value}{es:List (List Value)}(hz:∀x∈es,x.length=sz)(h:Own e sz D v es.flatten es.length):SlG D e sz v es:=by
 generalize hc:es.flatten=c at h
 generalize hl:es.length=n at h
 cases h with
 |nil=>exact .nil 0 rfl (List.length_eq_zero_iff.mp hl)
 |block b cap c len hlen hcap=>
  subst hc
  refine .block b 0 cap _ (by rw[hl]) Y8 Oz fun k hk=>flat_get hz hk
theorem _root_.Go.M.HL.perm{W:List Nat}{s0 s:St}{L L':Hp'}{n:Nat}(H:HL W s0 s L n)(h:L.Perm L'):HL W s0 s L' n:=
 {H with own:=fun p hp=>H.own p (h.mem_iff.mpr hp),dist:=(h.pairwise_iff (fun h=>Ne.symm h)).mp H.dist}
theorem elems_take{c:List Value}{off sz:Nat}{es:List (List Value)}(hs:0<sz)(hz:∀x∈es,x.length=sz)(hc:∀k,k<es.length→xd sz (xx (off+k*sz) c)=some (es.getD k [])):∀n,n≤es.length→(c.drop off).take (n*sz)=(es.take n).flatten∧(n=0∨off+n*sz≤c.length)
 |0,_=>by simp
 |n+1,h=>by
  obtain⟨ih,_⟩:=elems_take hs hz hc n Oz
  have h1:=hc n Oz
  rw[y5,y6]at h1
  split at h1
  ·next hle=>
   rw[Option.some.injEq]at h1
   rw[List.length_drop]at hle
   have hx:(es.getD n []).length=sz:=hz _ (getD_mem Oz)
   refine⟨?_,?_⟩
   ·rw[Nat.add_mul,Nat.one_mul,List.take_add,ih,List.drop_drop,h1,List.take_succ_eq_append_getElem Oz,List.flatten_append]
    simp[List.getD_eq_getElem?_getD,List.getElem?_eq_getElem (show n<es.length by omega)]
   ·right
    rw[Nat.add_mul,Nat.one_mul]
    omega
  ·cases h1
theorem Sl.elems{s:St}{e:TypeId}{sz:Nat}{v:Value}{es:List (List Value)}(h:Sl s e sz v es)(hz:∀x∈es,x.length=sz)(hs:0<sz):qr s sz v es.length es.flatten:=by
 cases h with
 |nil c hv hl=>subst hl;subst hv;exact elems_nil
 |block b off cap c hv hg hb hcap hc=>
  subst hv
  by_cases hn:es.length=0
  ·have:es=[]:=List.length_eq_zero_iff.mp hn
   subst this
   refine⟨⟨_,_,rfl⟩,?_⟩
   simp only[yD,hg,List.length_nil,Nat.zero_mul,xd,List.flatten_nil]
  ·obtain⟨h1,h2⟩:=elems_take hs hz hc es.length (Nat.le_refl _)
   rw[List.take_length]at h1
   exact elems_block hg h1 Oz
theorem Sl.heap{s s':St}{e:TypeId}{sz:Nat}{v:Value}{es:List (List Value)}(h:Sl s e sz v es)(hh:s'.heap=s.heap)(hn:s.next≤s'.next):Sl s' e sz v es:=by
 cases h with
 |nil c hv hl=>exact .nil c hv hl
 |block b off cap c hv hg hb hcap hc=>exact .block b off cap c hv (by simp only[St.get,hh]at hg ⊢;exact hg) Oz hcap hc
theorem _root_.Go.M.Fine.pr{s:St}(h:Fine s){X:List Nat}(hX:∀p,p∈X→p<s.next):Fine {s with prot:=X++s.prot}:=⟨h.wfb,fun p hp=>(List.mem_append.mp hp).elim (hX p) (h.wfp p)⟩
theorem _root_.Go.M.Fine.fresh{s:St}(h:Fine s):Fine {s with bar:=s.next}:=⟨Nat.le_refl _,h.wfp⟩
def zQ(I:zT):Prop:=∀f,f≠18→f≠1000000→I f=none
theorem sl22:qw Tryz.prog 22=some (3,1,8,[.int .i64 0]):=by kernel_rfl
theorem un183:Tryz.prog.underlying 183=some (.int .u64):=by kernel_rfl
theorem un3:Tryz.prog.underlying 3=some (.int .i64):=by kernel_rfl
theorem _root_.Go.M.HL.same{W:List Nat}{s0 s s':St}{L L':Hp'}{n n':Nat}(H:HL W s0 s L n)(H':HL W s0 s' L' n'):HL W s0 {next:=s'.next,bar:=s.bar,prot:=s.prot,heap:=s'.heap} L' n':=by
 have e:({next:=s'.next,bar:=s.bar,prot:=s.prot,heap:=s'.heap}:St)=s':=by
  have h1:=H.bar.trans H'.bar.symm
  have h2:=H.prot.trans H'.prot.symm
  cases s'
  simp only at h1 h2
  rw[h1,h2]
 rw[e]
 exact H'
end Go.Proofs.YtocnbjjmmgolfaaGreat
namespace Go.M
section
variable{P:Program}{I:zT}{F:FF}{s:St}{Q:FF→St→Prop}{d:Option Tmp}{ty:TypeId}{pos:String}{af:Array Edge}{g:Option (Nat×Bool)}{W:List Nat}{s0:St}{L:Hp'}{n:Nat}
def InU(n:Int):Prop:=0≤n∧n<18446744073709551616
theorem wrapU_in{n:Int}(h:InU n):IntKind.u64.wrap n=n:=by
 obtain⟨h1,h2⟩:=h
 have:IntKind.u64.wrap n=n % 18446744073709551616:=by
  unfold IntKind.wrap
  rfl
 rw[this]
 omega
theorem wrapU(x:Int):IntKind.u64.wrap x=x % 18446744073709551616:=by unfold IntKind.wrap;rfl
theorem op_convertI{src dst:TypeId}{x:Operand}{kd kd':IntKind}{a:Int}{u:TypeDesc}(hu:P.underlying src=some u)(hd:P.underlying dst=some (.int kd'))(hx:ze F x=.int kd a)(k:Q (upd F d (.int kd' (kd'.wrap a))) s):OpW P I ⟨d,.convert src dst x,ty,pos,af,g⟩ F s Q:=by
 refine zU (v:=.int kd' (kd'.wrap a)) (s':=s) ?_ k
 simp only[zh,qE,hu,hd,hx]
 cases u<;>rfl
end
end Go.M
namespace Go.Proofs.YtocnbjjmmgolfaaGreat
open Go Go.M Go.Proofs.C14
section
variable{P:Program}{I:zT}{F:FF}{s:St}{Q:FF→St→Prop}{d:Option Tmp}{ty:TypeId}{pos:String}{af:Array Edge}{g:Option (Nat×Bool)}
variable{W:List Nat}{s0:St}{L:Hp'}{n:Nat}
theorem op_appendRoom{A:Hp'}{args:Array Operand}{ts:Array TypeId}{t t2 e e2:TypeId}{tr:List TypeId}{x y:Operand}{sz by_ b cap len m:Nat}{z c c' l:List Value}(H:HL W s0 s (A++(b,.cells c e)::L) n)(hs:qw P t=some (e,sz,by_,z))(hu2:P.underlying t2=some (.slice e2))
  (ht:ts.toList=t::t2::tr) (ha:args.toList=[x,y]) (hx:ze F x=.slice (some ⟨b,0,none⟩) len cap) (he:qr s sz (ze F y) m l) (hcap:len+m≤cap / 2) (hp:l.all Go.M.plainCell=true) (hput:xh (len*sz) l c=some c') (hr:s0.next+n≤z3)
  (k:∀s',HL W s0 s' (A++(b,.cells c' e)::L) n→Q (upd F d (.slice (some ⟨b,0,none⟩) (len+m) cap)) s'):OpW P I ⟨d,.call ⟨.builtin .append,args,ts⟩,ty,pos,af,g⟩ F s Q:=by
 obtain⟨hu,inf,z',hi,rfl,rfl,hz,hz1,hz2⟩:=yL hs
 refine zU (v:=.slice (some ⟨b,0,none⟩) (len+m) cap) (s':=s.put b (some (.cells c' e))) ?_ (k _ (H.putAt A _ hr))
 have hf:Nat.ble (len+m) (cap / 2)=true:=Nat.ble_eq_true_of_le hcap
 have hmay:=(H.own (b,.cells c e) Y8).2.2.1
 simp only at hmay
 simp only[zh,yy,yi,ht,ha,yw,hx,hu,hi,newL_ok hu2 he,yX,hf,yB,Nat.zero_add,H.ownA,hp,Bool.true_and,hmay,hput]
 rfl
end
end Go.Proofs.YtocnbjjmmgolfaaGreat
namespace Go.Proofs.YtocnbjjmmgolfaaGreat
open Go Go.M Go.Proofs.C14
inductive Ty|int(k:IntKind)|bool|rat|sl(t w:Nat)(e:Ty)|one(a:Ty)|pair(a b:Ty)|tup(a b:Ty)|tup3(a b c:Ty)
@[reducible] def Ty.T:Ty→Type
 | .int _=>Int
 | .bool=>Bool
 | .rat=>Rat
 | .sl _ _ e=>List e.T
 | .one a=>a.T
 | .pair a b=>a.T×b.T
 | .tup a b=>a.T×b.T
 | .tup3 a b c=>a.T×b.T×c.T
abbrev Sw:=Nat→Nat→Value→List (List Value)→Prop
structure Wd where
 S:Sw
def Wd.x(W:Wd)(D:Hp'):Wd:=⟨fun t w v l=>W.S t w v l∨SlG D t w v l⟩
structure WLe(W W':Wd):Prop where
 s:∀t w v l,W.S t w v l→W'.S t w v l
structure Knw(s:St)(W:Wd):Prop where
 s:∀t w v l,W.S t w v l→Sl s t w v l
 cut:∀t w b off n cap L,W.S t w (.slice (some ⟨b,off,none⟩) n cap) L→∀lo hi cap' off',lo≤hi→hi≤L.length→hi-lo≤cap' / 2→(off'=off+lo*w∨lo=hi)→W.S t w (.slice (some ⟨b,off',none⟩) (hi-lo) cap') ((L.drop lo).take (hi-lo))
theorem SlG.cut{D:Hp'}{t w b off n cap:Nat}{L:List (List Value)}(h:SlG D t w (.slice (some ⟨b,off,none⟩) n cap) L){lo hi cap' off':Nat}(h1:lo≤hi)(h2:hi≤L.length)(h3:hi-lo≤cap' / 2)(h4:off'=off+lo*w∨lo=hi):SlG D t w (.slice (some ⟨b,off',none⟩) (hi-lo) cap') ((L.drop lo).take (hi-lo)):=by
 have hlen:((L.drop lo).take (hi-lo)).length=hi-lo:=by rw[List.length_take,List.length_drop];omega
 cases h with
 |nil c hv hl=>cases hv
 |block b' off2 cap2 c hv hg hcap hc=>
  cases hv
  refine .block b off' cap' c (by rw[hlen]) hg (by rw[hlen];exact h3) fun k hk=>?_
  rw[hlen]at hk
  rcases h4 with rfl|rfl
  ·have:=hc (lo+k) Oz
   rw[Nat.add_mul,←Nat.add_assoc]at this
   rw[this]
   simp only[List.getD_eq_getElem?_getD,List.getElem?_take,List.getElem?_drop,hk,if_true]
  ·omega
theorem WLe.rfl{W:Wd}:WLe W W:=⟨fun _ _ _ _ h=>h⟩
theorem WLe.trans{W W' W'':Wd}(h:WLe W W')(g:WLe W' W''):WLe W W'':=⟨fun t w v l x=>g.s t w v l (h.s t w v l x)⟩
theorem wx_old{W:Wd}{D:Hp'}:WLe W (W.x D):=⟨fun _ _ _ _ h=>.inl h⟩
theorem wx_up{W:Wd}{D D':Hp'}(h:D⊆D'):WLe (W.x D) (W.x D'):=⟨fun _ _ _ _ x=>x.imp_right fun y=>y.mono h⟩
theorem wx_in{W:Wd}{A D D':Hp'}(h:A⊆D')(h2:D⊆D'):WLe ((W.x A).x D) (W.x D'):=⟨fun _ _ _ _ x=>x.elim (fun y=>y.imp_right fun z=>z.mono h) fun y=>.inr (y.mono h2)⟩
theorem Knw.heap{s s':St}{W:Wd}(h:Knw s W)(hh:s'.heap=s.heap)(hn:s.next≤s'.next):Knw s' W:=⟨fun t w v l x=>(h.s t w v l x).heap hh hn,h.cut⟩
theorem Knw.x{s0 s:St}{W:Wd}{L D:Hp'}{n:Nat}(h:Knw s0 W)(H:HL [] s0 s L n)(hs:D⊆L):Knw s (W.x D):=
 ⟨fun t w v l x=>x.elim (fun y=>(h.s t w v l y).kept H) fun y=>y.sl H hs,fun t w b off n cap L x lo hi cap' off' h1 h2 h3 h4=>x.imp (fun y=>h.cut t w b off n cap L y lo hi cap' off' h1 h2 h3 h4) fun y=>y.cut h1 h2 h3 h4⟩
def zO(q:Rat):(Bool×List Int)×(Bool×List Int):=((decide (q.num<0),dg q.num.natAbs),(false,if q.den=1 then []else dg q.den))
def RepI(W:Wd)(c:List Value)(l:List Int):Prop:=∃a cap L,c=[.slice a l.length cap]∧W.S 3 1 (.slice a l.length cap) L∧L.length=l.length∧∀k x,l[k]? = some x→L.getD k []=[.int .i64 x]
def RepN(W:Wd)(c:List Value)(z:Bool×List Int):Prop:=∃c1 c2,c=c1++c2∧c1=[.bool z.1]∧RepI W c2 z.2
def RatC(W:Wd)(c:List Value)(z:(Bool×List Int)×(Bool×List Int)):Prop:=∃c1 c2,c=c1++c2∧RepN W c1 z.1∧RepN W c2 z.2
theorem RepN.mono{W W':Wd}(hs:WLe W W'){c:List Value}{z:Bool×List Int}(h:RepN W c z):RepN W' c z:=by
 obtain⟨c1,c2,e,h1,a,cap,L,e2,h2,h3⟩:=h
 exact⟨c1,c2,e,h1,a,cap,L,e2,hs.s _ _ _ _ h2,h3⟩
theorem RatC.mono{W W':Wd}(hs:WLe W W'){c:List Value}{z:(Bool×List Int)×(Bool×List Int)}(h:RatC W c z):RatC W' c z:=by
 obtain⟨c1,c2,e,h1,h2⟩:=h
 exact⟨c1,c2,e,h1.mono hs,h2.mono hs⟩
theorem RatC.cells{W:Wd}{c:List Value}{z:(Bool×List Int)×(Bool×List Int)}(h:RatC W c z):∃n1 a1 m1 c1 n2 a2 m2 c2,c=[.bool n1,.slice a1 m1 c1,.bool n2,.slice a2 m2 c2]:=by
 obtain⟨c1,c2,rfl,⟨d1,d2,rfl,rfl,a,cap,L,rfl,_⟩,⟨d3,d4,rfl,rfl,a',cap',L',rfl,_⟩⟩:=h
 exact⟨_,_,_,_,_,_,_,_,rfl⟩
theorem RatC.len{W:Wd}{c:List Value}{z:(Bool×List Int)×(Bool×List Int)}(h:RatC W c z):c.length=4:=by obtain⟨_,_,_,_,_,_,_,_,rfl⟩:=h.cells;rfl
def Rep(W:Wd):(τ:Ty)→List Value→τ.T→Prop
 | .int k,c,x=>c=[.int k x]
 | .bool,c,x=>c=[.bool x]
 | .rat,c,q=>RatC W c (zO q)
 | .sl t w e,c,l=>∃a cap L,c=[.slice a l.length cap]∧W.S t w (.slice a l.length cap) L∧L.length=l.length∧∀k x,l[k]? = some x→Rep W e (L.getD k []) x
 | .one a,c,x=>Rep W a c x
 | .pair a b,c,x=>∃c1 c2,c=c1++c2∧Rep W a c1 x.1∧Rep W b c2 x.2
 | .tup _ _,_,_=>False
 | .tup3 _ _ _,_,_=>False
theorem Rep.mono{W W':Wd}(hs:WLe W W'):{τ:Ty}→{c:List Value}→{x:τ.T}→Rep W τ c x→Rep W' τ c x
 | .int _,_,_,h=>h
 | .bool,_,_,h=>h
 | .rat,_,_,h=>RatC.mono hs h
 | .sl _ _ _,_,_,⟨a,cap,L,e,h,hn,hl⟩=>⟨a,cap,L,e,hs.s _ _ _ _ h,hn,fun k x g=>Rep.mono hs (hl k x g)⟩
 | .one a,_,_,h=>Rep.mono (τ:=a) hs h
 | .pair _ _,_,_,⟨c1,c2,e,h1,h2⟩=>⟨c1,c2,e,Rep.mono hs h1,Rep.mono hs h2⟩
def Ty.sz:Ty→Nat
 | .int _=>1
 | .bool=>1
 | .rat=>4
 | .sl _ _ _=>1
 | .one a=>a.sz
 | .pair a b=>a.sz+b.sz
 |_=>0
theorem Rep.len{W:Wd}:{τ:Ty}→{c:List Value}→{x:τ.T}→Rep W τ c x→c.length=τ.sz
 | .int _,_,_,h=>by rw[show _=_ from h];rfl
 | .bool,_,_,h=>by rw[show _=_ from h];rfl
 | .rat,_,_,h=>RatC.len h
 | .sl _ _ _,_,_,⟨a,cap,L,e,h,hl⟩=>by rw[e];rfl
 | .one a,_,_,h=>Rep.len (τ:=a) h
 | .pair _ _,_,_,⟨c1,c2,e,h1,h2⟩=>by rw[e,List.length_append,Rep.len h1,Rep.len h2];rfl
theorem Rep.plain{W:Wd}:{τ:Ty}→{c:List Value}→{x:τ.T}→Rep W τ c x→c.all Go.M.plainCell=true
 | .int _,_,_,h=>by rw[show _=_ from h];rfl
 | .bool,_,_,h=>by rw[show _=_ from h];rfl
 | .rat,_,_,h=>by obtain⟨_,_,_,_,_,_,_,_,rfl⟩:=RatC.cells h;rfl
 | .sl _ _ _,_,_,⟨a,cap,L,e,h,hl⟩=>by rw[e];rfl
 | .one a,_,_,h=>Rep.plain (τ:=a) h
 | .pair _ _,_,_,⟨c1,c2,e,h1,h2⟩=>by rw[e,List.all_append,Rep.plain h1,Rep.plain h2];rfl
def RepV(W:Wd):(τ:Ty)→Value→τ.T→Prop
 | .int k,v,x=>v=.int k x
 | .bool,v,x=>v=.bool x
 | .sl t w e,v,x=>Rep W (.sl t w e) [v] x
 | .tup a b,v,x=>∃v1 v2,v=.tuple ⟨[v1,v2]⟩∧RepV W a v1 x.1∧RepV W b v2 x.2
 | .tup3 a b c,v,x=>∃v1 v2 v3,v=.tuple ⟨[v1,v2,v3]⟩∧RepV W a v1 x.1∧RepV W b v2 x.2.1∧RepV W c v3 x.2.2
 |τ,v,x=>∃c,v=.agg ⟨c⟩∧Rep W τ c x
theorem RepV.mono{W W':Wd}(hs:WLe W W'):{τ:Ty}→{v:Value}→{x:τ.T}→RepV W τ v x→RepV W' τ v x
 | .int _,_,_,h=>h
 | .bool,_,_,h=>h
 | .sl _ _ _,_,_,h=>Rep.mono hs h
 | .tup _ _,_,_,⟨v1,v2,e,h1,h2⟩=>⟨v1,v2,e,RepV.mono hs h1,RepV.mono hs h2⟩
 | .tup3 _ _ _,_,_,⟨v1,v2,v3,e,h1,h2,h3⟩=>⟨v1,v2,v3,e,RepV.mono hs h1,RepV.mono hs h2,RepV.mono hs h3⟩
 | .rat,_,_,⟨c,e,h⟩=>⟨c,e,Rep.mono hs h⟩
 | .one _,_,_,⟨c,e,h⟩=>⟨c,e,Rep.mono hs h⟩
 | .pair _ _,_,_,⟨c,e,h⟩=>⟨c,e,Rep.mono hs h⟩
def PostX(W:Wd)(s:St)(k:Nat)(τ:Ty)(r:τ.T)(v:Value)(s':St):Prop:=∃D,HL [] s s' D k∧RepV (W.x D) τ v r
abbrev RetsD(W:Wd)(I:zT)(f:FuncId)(args:Array Value)(s:St)(k:Nat)(τ:Ty)(r:τ.T):Prop:=∃v' s',Rets Tryz.prog I f args s v' s'∧PostX W s k τ r v' s'
instance {n:Int}:Decidable (xG n):=inferInstanceAs (Decidable (_∧_))
def dec64(x:Int):Decidable (xG x):=decidable_of_iff ((Nat.ble x.toNat 9223372036854775807&&Nat.ble (-x).toNat 9223372036854775808)=true) (by
 rw[Bool.and_eq_true,Nat.ble_eq,Nat.ble_eq];unfold xG;omega)
def i64(x:Int):Option Int:= @ite _ (xG x) (dec64 x) (some x) none
def idx{α:Type}(l:List α)(i:Int):Option α:=if 0≤i then l[i.toNat]? else none
def app{α:Type}(l m:List α):Option (List α):=if l.length+m.length≤65536 then some (l++m)else none
def zd{σ ρ:Type}(B:(σ→Option ρ)→σ→Option ρ):Nat→σ→Option ρ
 |0,_=>none
 |k+1,x=>B (zd B k) x
end Go.Proofs.YtocnbjjmmgolfaaGreat
namespace Go.Proofs.YtocnbjjmmgolfaaGreat
open Go Go.M Go.Proofs.C14
section
variable{W W':Wd}{a b:Ty}{c c1 c2:List Value}
theorem rat0{D:Hp'}:Rep (W.x D) .rat [.bool false,.slice none 0 0,.bool false,.slice none 0 0] (0:Rat):=
 ⟨[_,_],[_,_],rfl,⟨[_],[_],rfl,rfl,none,0,[],by rw[show(zO 0).1.2=[]from xb];rfl,by rw[show(zO 0).1.2=[]from xb];exact .inr (.nil 0 rfl rfl),by rw[show(zO 0).1.2=[]from xb];rfl,by rw[show(zO 0).1.2=[]from xb];intro k x h;simp at h⟩,[_],[_],rfl,rfl,none,0,[],rfl,.inr (.nil 0 rfl rfl),rfl,fun k x h=>by simp[zO]at h⟩
theorem sl0{D:Hp'}{t w cap:Nat}{e:Ty}:Rep (W.x D) (.sl t w e) [.slice none 0 cap] ([]:List e.T):=⟨none,cap,[],rfl,.inr (.nil cap rfl rfl),rfl,fun k x h=>by simp at h⟩
end
theorem idx_some{α:Type}{l:List α}{i:Int}{x:α}(h:idx l i=some x):0≤i∧i<l.length∧l[i.toNat]? = some x:=by
 unfold idx at h
 split at h
 ·next h0=>
  have:=(List.getElem?_eq_some_iff.mp h).1
  exact⟨h0,by omega,h⟩
 ·cases h
theorem i64_some{x y:Int}(h:i64 x=some y):y=x∧xG x:=by
 unfold i64 at h
 split at h
 ·next h0=>exact⟨(Option.some.inj h).symm,h0⟩
 ·cases h
theorem app_some{α:Type}{l m r:List α}(h:app l m=some r):r=l++m∧l.length+m.length≤65536:=by
 unfold app at h
 split at h
 ·next h0=>exact⟨(Option.some.inj h).symm,h0⟩
 ·cases h
theorem part_of{c L L':List Value}{n k m o:Nat}(h:xd n (xx k c)=some L)(h2:xd m (xx o L)=some L'):xd m (xx (k+o) c)=some L':=by
 rw[y5,y6]at h h2 ⊢
 split at h
 ·next h1=>
  cases h
  split at h2
  ·next h3=>
   cases h2
   rw[List.length_drop,List.length_take,List.length_drop]at h3
   rw[if_pos (by rw[List.length_drop];omega)]
   rw[List.drop_take,List.take_take,List.drop_drop,Nat.min_eq_left Oz]
  ·cases h2
 ·cases h
theorem part1{c L:List Value}{n k o:Nat}{v:Value}(h:xd n (xx k c)=some L)(h2:zM L o=some v):zM c (k+o)=some v:=by
 rw[y5,y6]at h
 rw[zC]at h2 ⊢
 split at h
 ·next h1=>
  cases h
  rw[List.getElem?_take]at h2
  split at h2
  ·rw[List.getElem?_drop]at h2;exact h2
  ·cases h2
 ·cases h
def OwnL(W:Wd)(t w:Nat)(e:Ty)(D:Hp')(a:Option Addr)(n cap:Nat)(l:List e.T):Prop:=n=l.length∧e.sz=w∧∃L:List (List Value),L.length=l.length∧Own t w D (.slice a n cap) L.flatten n∧(∀x∈L,x.length=w)∧∀k x,l[k]? = some x→Rep W e (L.getD k []) x
theorem OwnL.nil{W:Wd}{t w:Nat}{e:Ty}(h:e.sz=w):OwnL W t w e [] none 0 0 ([]:List e.T):=⟨rfl,h,[],rfl,.nil,(fun _ h=>nomatch h),fun _ _ h=>nomatch h⟩
theorem OwnL.mono{W W':Wd}{t w:Nat}{e:Ty}{D:Hp'}{a:Option Addr}{n cap:Nat}{l:List e.T}(h:OwnL W t w e D a n cap l)(hs:WLe W W'):OwnL W' t w e D a n cap l:=by
 obtain⟨hn,hw,L,h1,h2,h3,h4⟩:=h
 exact⟨hn,hw,L,h1,h2,h3,fun k x g=>(h4 k x g).mono hs⟩
theorem OwnL.rep{W:Wd}{t w:Nat}{e:Ty}{Φ D E:Hp'}{a:Option Addr}{n cap:Nat}{l:List e.T}(h:OwnL (W.x Φ) t w e D a n cap l)(h1:Φ⊆E)(h2:D⊆E):Rep (W.x E) (.sl t w e) [.slice a n cap] l:=by
 obtain⟨hn,hw,L,g1,g2,g3,g4⟩:=h
 subst hn
 exact⟨a,cap,L,rfl,.inr ((Own.slG g3 (g1▸g2)).mono h2),g1,fun k x g=>(g4 k x g).mono (wx_up h1)⟩
section
variable{P:Program}{I:zT}{F:FF}{s:St}{Q:FF→St→Prop}{d:Option Tmp}{ty:TypeId}{pos:String}{af:Array Edge}{g:Option (Nat×Bool)}
variable{s0:St}{L:Hp'}{n:Nat}
theorem op_appL{W:Wd}{t w:Nat}{e:Ty}{D:Hp'}{a:Option Addr}{len cap:Nat}{l xs r:List e.T}{ag:Array Operand}{ts:Array TypeId}{t1 t2 e2:TypeId}{tr:List TypeId}{x y:Operand}{by_ m:Nat}{z:List Value}{X:List (List Value)}(H:HL [] s0 s (D++L) n)(ho:OwnL W t w e D a len cap l)(hr:app l xs=some r)
  (hs:qw P t1=some (t,w,by_,z)) (hu2:P.underlying t2=some (.slice e2)) (ht:ts.toList=t1::t2::tr) (ha:ag.toList=[x,y]) (hx:ze F x=.slice a len cap) (he:qr s w (ze F y) m X.flatten) (hm:m=X.length) (hm0:0<m) (hX:xs.length=X.length) (hR:∀k x,xs[k]? = some x→Rep W e (X.getD k []) x) (hby:by_≤8000)
  (hroom:s0.next+n<z3)
  (k:∀a' cap' b c s',HL [] s0 s' ((b,.cells c t)::L) (n+1)→OwnL W t w e [(b,.cells c t)] a' r.length cap' r→Q (upd F d (.slice a' r.length cap')) s'):OpW P I ⟨d,.call ⟨.builtin .append,ag,ts⟩,ty,pos,af,g⟩ F s Q:=by
 obtain⟨hn,hw,Y,h1,h2,h3,h4⟩:=ho
 obtain⟨rfl,hlen⟩:=app_some hr
 subst hn hm
 have hXw:∀x∈X,x.length=w:=fun x hx=>by
  obtain⟨j,hj,rfl⟩:=List.getElem_of_mem hx
  have hj':j<xs.length:=by omega
  have:=(hR j xs[j] (List.getElem?_eq_getElem hj')).len
  rw[List.getD_eq_getElem?_getD,List.getElem?_eq_getElem hj]at this
  exact this.trans hw
 have hXp:X.flatten.all Go.M.plainCell=true:=by
  rw[List.all_eq_true]
  intro v hv
  obtain⟨c,hc,hv⟩:=List.mem_flatten.mp hv
  obtain⟨j,hj,rfl⟩:=List.getElem_of_mem hc
  have hj':j<xs.length:=by omega
  have:=(hR j xs[j] (List.getElem?_eq_getElem hj')).plain
  rw[List.getD_eq_getElem?_getD,List.getElem?_eq_getElem hj]at this
  exact(List.all_eq_true.mp this) v hv
 refine op_appendOwn H h2 hs hu2 ht ha hx he hm0 hXp (xy hXw) (Nat.le_trans (Nat.mul_le_mul (show l.length+X.length≤65536 by omega) (Nat.succ_le_succ hby)) Uz) hroom fun b s' H' ho'=>?_
 have e1:l.length+X.length=(l++xs).length:=by rw[List.length_append,hX]
 rw[e1]at ho' ⊢
 refine k _ _ b _ s' H' ⟨rfl,hw,Y++X,by simp[h1,hX],by rw[List.flatten_append];exact ho',fun x hx=>?_,fun j x hj=>?_⟩
 ·rcases List.mem_append.mp hx with h|h
  ·exact h3 x h
  ·exact hXw x h
 ·rw[List.getD_eq_getElem?_getD]
  by_cases hjl:j<l.length
  ·rw[List.getElem?_append_left hjl]at hj
   rw[List.getElem?_append_left Oz,←List.getD_eq_getElem?_getD]
   exact h4 j x hj
  ·rw[List.getElem?_append_right Oz]at hj
   rw[List.getElem?_append_right Oz,←List.getD_eq_getElem?_getD,h1]
   exact hR _ x hj
end
end Go.Proofs.YtocnbjjmmgolfaaGreat
namespace Go.Proofs.YtocnbjjmmgolfaaGreat
open Go Go.M Go.Proofs.C14
deriving instance DecidableEq for Ty
inductive Lf
 |int (k:IntKind) (x:Int)|bool (b:Bool)|rat (q:Rat)
 |sl (t w:Nat) (e:Ty) (l:List e.T)
 |nil|nilf|nilp
 |own (j:Nat)
 |ptr (j off:Nat)
 |ep (t w:Nat) (e:Ty) (x:e.T) (off:Nat)
 |op (j w:Nat) (i:Int) (off:Nat)
 |fn (f:FuncId)
 |cl (f:FuncId) (js:List Nat)
 |yl (j:Nat)
 |sp (t w:Nat) (e:Ty) (l:List e.T)
 |asl (j n:Nat)
 |unk
inductive Pv
 |undef|any|one (l:Lf)|agg (l:List Lf)|tup (l:List (Bool×List Lf))|clo (f:FuncId) (l:List Lf)
inductive Ob
 |dead|const|cells (l:List Lf)|list (t w:Nat) (e:Ty) (l:List e.T)
 |loop (N:Nat) (slots:List (Nat×Pv)) (ps:List Nat) (x y:Code) (st:LoopState) (pend:Option Code)
structure En where
 slots:List (Nat×Pv)
 objs:List Ob
structure Cx where
 slots:List (Nat×Pv)
 objs:List Ob
 n:Nat
 lent:Nat
def Lf.w:Lf→Nat
 | .rat _=>4
 |_=>1
def wid:List Lf→Nat
 | []=>0
 |x::l=>x.w+wid l
def skipL:List Lf→Nat→Option (List Lf)
 |l,0=>some l
 | [],_+1=>none
 |x::l,n+1=>match Nat.ble x.w (n+1)with
  |true=>skipL l (n+1-x.w)
  |false=>none
def grabL:List Lf→Nat→Option (List Lf)
 |_,0=>some []
 | [],_+1=>none
 |x::l,n+1=>match Nat.ble x.w (n+1)with
  |true=>match grabL l (n+1-x.w)with
   |some r=>some (x::r)
   |none=>none
  |false=>none
def putL:List Lf→Nat→List Lf→Option (List Lf)
 |l,0,new=>match skipL l (wid new)with
  |some r=>some (new++r)
  |none=>none
 | [],_+1,_=>none
 |x::l,n+1,new=>match Nat.ble x.w (n+1)with
  |true=>match putL l (n+1-x.w) new with
   |some r=>some (x::r)
   |none=>none
  |false=>none
def flat:(τ:Ty)→τ.T→List Lf
 | .int k,x=>[.int k x]
 | .bool,x=>[.bool x]
 | .rat,x=>[.rat x]
 | .sl t w e,x=>[.sl t w e x]
 | .one a,x=>flat a x
 | .pair a b,x=>flat a x.1++flat b x.2
 |_,_=>[]
def castL{e e':Ty}(h:e'=e)(l:List e'.T):List e.T:=h▸l
def yY:(τ:Ty)→List Lf→Option (τ.T×List Lf)
 | .int k,.int k' x::r=>if k'=k then some (x,r)else none
 | .bool,.bool x::r=>some (x,r)
 | .rat,.rat x::r=>some (x,r)
 | .sl t w e,.sl t' w' e' l::r=>if h:t'=t∧w'=w∧e'=e then some (castL h.2.2 l,r)else none
 | .sl _ _ e,.nil::r=>some (([]:List e.T),r)
 | .one a,r=>yY a r
 | .pair a b,r=>match yY a r with
  |some (x,r)=>match yY b r with
   |some (y,r)=>some ((x,y),r)
   |none=>none
  |none=>none
 |_,_=>none
def Ty.isAgg:Ty→Bool
 | .rat | .one _ | .pair _ _=>true
 |_=>false
def qe(τ:Ty)(l:List Lf):Option τ.T:=match yY τ l with
 |some (x,[])=>some x
 |_=>none
def readQ(τ:Ty)(p:Bool×List Lf):Option τ.T:=match p.1==τ.isAgg with
 |true=>qe τ p.2
 |false=>none
def unQ:Pv→Option (Bool×List Lf)
 | .one l=>some (false,[l])
 | .agg l=>some (true,l)
 |_=>none
def readP:(τ:Ty)→Pv→Option τ.T
 | .tup a b,.tup [p,q]=>match readQ a p,readQ b q with
  |some x,some y=>some (x,y)
  |_,_=>none
 | .tup3 a b c,.tup [p,q,r]=>match readQ a p,readQ b q,readQ c r with
  |some x,some y,some z=>some (x,y,z)
  |_,_,_=>none
 | .tup _ _,_=>none
 | .tup3 _ _ _,_=>none
 |τ,v=>match unQ v with
  |some p=>readQ τ p
  |none=>none
def toQ(τ:Ty)(x:τ.T):Bool×List Lf:=(τ.isAgg,flat τ x)
def pvQ:Bool×List Lf→Pv
 |(true,l)=>.agg l
 |(false,l)=>match l with
  | [x]=>.one x
  |_=>.tup []
def Ty.isTup:Ty→Bool
 | .tup _ _ | .tup3 _ _ _=>true
 |_=>false
def Ty.okT:Ty→Bool
 | .tup a b=> !a.isTup && !b.isTup
 | .tup3 a b c=> !a.isTup && !b.isTup && !c.isTup
 |_=>true
def toP:(τ:Ty)→τ.T→Pv
 | .tup a b,x=>.tup [toQ a x.1,toQ b x.2]
 | .tup3 a b c,x=>.tup [toQ a x.1,toQ b x.2.1,toQ c x.2.2]
 |τ,x=>pvQ (toQ τ x)
def zI(k:IntKind):List Value→Option (List Lf×List Value)
 | .int k' x::r=>if k'=k then some ([.int k x],r)else none
 |_=>none
def zB:List Value→Option (List Lf×List Value)
 | .bool x::r=>some ([.bool x],r)
 |_=>none
def zR:List Value→Option (List Lf×List Value)
 | .bool false::.slice none 0 0::.bool false::.slice none 0 0::r=>some ([.rat 0],r)
 |_=>none
def zS:List Value→Option (List Lf×List Value)
 | .slice none 0 0::r=>some ([.nil],r)
 |_=>none
def zleaf:Ty→List Value→Option (List Lf×List Value)
 | .int k,c=>zI k c
 | .bool,c=>zB c
 | .rat,c=>zR c
 | .sl _ _ _,c=>zS c
 | .one a,r=>zleaf a r
 | .pair a b,r=>match zleaf a r with
  |some (x,r)=>match zleaf b r with
   |some (y,r)=>some (x++y,r)
   |none=>none
  |none=>none
 |_,_=>none
def zleaves(τ:Ty)(c:List Value):Option (List Lf):=match zleaf τ c with
 |some (l,[])=>some l
 |_=>none
def repLf(l:List Lf):Nat→List Lf
 |0=>[]
 |n+1=>l++repLf l n
def readN(τ:Ty):Nat→List Lf→Option (List τ.T)
 |0,[]=>some []
 |n+1,l=>match yY τ l with
  |some (x,r)=>match readN τ n r with
   |some y=>some (x::y)
   |none=>none
  |none=>none
 |_,_=>none
def find{α:Type}:List (Nat×α)→Nat→Option α
 | [],_=>none
 |(t,v)::l,d=>match Nat.beq t d with
  |true=>some v
  |false=>find l d
def dropS{α:Type}:List (Nat×α)→Nat→List (Nat×α)
 | [],_=>[]
 |(t,u)::l,d=>match Nat.beq t d with
  |true=>dropS l d
  |false=>(t,u)::dropS l d
def putS{α:Type}(l:List (Nat×α))(d:Nat)(v:α):List (Nat×α):=(d,v)::dropS l d
def zt{α:Type}:List α→Nat→α→List α
 | [],_,_=>[]
 |_::l,0,y=>y::l
 |x::l,n+1,y=>x::zt l n y
def ofV:Value→Option Lf
 | .int k x=>some (.int k x)
 | .bool b=>some (.bool b)
 | .slice none 0 0=>some .nil
 | .nilFunc=>some .nilf
 | .pointer none=>some .nilp
 |_=>none
def xq{α:Type}(l:List α)(lo hi:Int):Option (List α):=if 0≤lo∧lo≤hi∧hi≤l.length∧0<l.length then some ((l.drop lo.toNat).take (hi.toNat-lo.toNat))else none
@[reducible] def Tp:List Ty→Type
 | []=>Unit
 | [a]=>a.T
 |a::b::l=>a.T×Tp (b::l)
structure Con where
 ar:List Ty
 res:Ty
 room:Nat
 fn:Tp ar→Option res.T
def rdP:(ar:List Ty)→List Pv→Option (Tp ar)
 | [],[]=>some ()
 | [a],[p]=>readP a p
 |a::b::l,p::ps=>match readP a p,rdP (b::l) ps with
  |some x,some y=>some (x,y)
  |_,_=>none
 |_,_=>none
def toPs:(ar:List Ty)→Tp ar→List Pv
 | [],_=>[]
 | [a],x=>[toP a x]
 |a::b::l,x=>toP a x.1::toPs (b::l) x.2
section
variable{ρ:Type}
def kO{α:Type}(o:Option α)(k:α→Option ρ):Option ρ:=match o with
 |some v=>k v
 |none=>none
def cutK(sh:Option (Option Nat))(off:Nat)(l:List Lf):Option Pv:=match sh with
 |some none=>match skipL l off with
  |some (x::_)=>match x.w with
   |1=>some (.one x)
   |_=>none
  |_=>none
 |some (some n)=>match skipL l off with
  |some r=>match grabL r n with
   |some g=>some (.agg g)
   |none=>none
  |none=>none
 |none=>none
end
section
variable(C:Cx)(e:En)
def En.get(t:Nat):Option Pv:=match find e.slots t with
 |some v=>some v
 |none=>find C.slots t
def En.ev:Operand→Option Pv
 | .tmp t=>e.get C t
 | .const v=>match ofV v with
  |some l=>some (.one l)
  |none=>none
 | .func f=>some (.one (.fn f))
 | .global _=>none
def En.evs:List Operand→Option (List Pv)
 | []=>some []
 |x::l=>match e.ev C x,En.evs l with
  |some v,some vs=>some (v::vs)
  |_,_=>none
def En.obj(j:Nat):Option Ob:=match zM e.objs j with
 |some .const=>zM C.objs j
 |o=>o
def En.mark(x:Operand)(b:Bool):En:=match x with
 | .tmp t=>{e with slots:=putS e.slots t (.one (.bool b))}
 |_=>e
def En.setO(j:Nat)(o:Ob):En:={e with objs:=zt e.objs j o}
variable{ρ:Type}
def En.set(d:Option Nat)(v:Pv)(k:En→Option ρ):Option ρ:=match d with
 |none=>k e
 |some d=>match find C.slots d with
  |some _=>none
  |none=>k {e with slots:=putS e.slots d v}
def En.new(d:Option Nat)(o:Ob)(v:Nat→Lf)(k:En→Option ρ):Option ρ:=
 En.set C {e with objs:=e.objs++[o]} d (.one (v (zY e.objs 0))) k
end
def Lf.sub(l:Lf)(j:Nat)(x:Lf):Lf:=match l with
 | .own i=>match Nat.beq i j with
  |true=>x
  |false=>.own i
 |l=>l
def subL(j:Nat)(x:Lf):List Lf→List Lf
 | []=>[]
 |l::r=>l.sub j x::subL j x r
def subT(j:Nat)(x:Lf):List (Bool×List Lf)→List (Bool×List Lf)
 | []=>[]
 |(g,l)::r=>(g,subL j x l)::subT j x r
def Pv.sub(j:Nat)(x:Lf):Pv→Pv
 | .one l=>.one (l.sub j x)
 | .agg l=>.agg (subL j x l)
 | .tup l=>.tup (subT j x l)
 |p=>p
def Ob.sub(j:Nat)(x:Lf):Ob→Ob
 | .cells l=>.cells (subL j x l)
 |o=>o
def subS(j:Nat)(x:Lf):List (Nat×Pv)→List (Nat×Pv)
 | []=>[]
 |(t,p)::r=>(t,p.sub j x)::subS j x r
def subO(j:Nat)(x:Lf):List Ob→List Ob
 | []=>[]
 |o::r=>o.sub j x::subO j x r
def En.frz(C:Cx)(e:En)(j:Nat):Option En:=match zM e.objs j,Nat.ble C.lent j with
 |some (.list t w τ l),true=>some {slots:=subS j (.sl t w τ l) e.slots,objs:=subO j (.sl t w τ l) (zt e.objs j .dead)}
 |_,_=>none
def En.frzL(C:Cx)(e:En):List Lf→Option En
 | []=>some e
 | .own j::r=>match zM e.objs j with
  |some .dead=>En.frzL C e r
  |_=>match e.frz C j with
   |some e=>En.frzL C e r
   |none=>none
 |_::r=>En.frzL C e r
def En.frzT(C:Cx)(e:En):List (Bool×List Lf)→Option En
 | []=>some e
 |(_,l)::r=>match e.frzL C l with
  |some e=>En.frzT C e r
  |none=>none
def En.frzP(C:Cx)(e:En):List Pv→Option En
 | []=>some e
 | .tup l::r=>match e.frzT C l with
  |some e=>En.frzP C e r
  |none=>none
 | .one l::r=>match e.frzL C [l]with
  |some e=>En.frzP C e r
  |none=>none
 | .agg l::r=>match e.frzL C l with
  |some e=>En.frzP C e r
  |none=>none
 |_::r=>En.frzP C e r
section
variable(Γ:TypeId→Option Ty){ρ:Type}
noncomputable def cmpZ(o:BinOp)(a b:Int):Option Bool:=match o with
 | .lss=>some (decide (a<b))
 | .leq=>some (decide (a≤b))
 | .gtr=>some (decide (b<a))
 | .geq=>some (decide (b≤a))
 | .eql=>some (decide (a=b))
 | .neq=>some (decide (a≠b))
 |_=>none
def uZ(x:Int):Option Int:=if 0≤x∧x<18446744073709551616 then some x else none
noncomputable def binK(o:BinOp)(t:TypeId)(x y:Pv)(k:Pv→Option ρ):Option ρ:=match x,y with
 | .one (.int .i64 a),.one (.int .i64 b)=>match cmpZ o a b with
  |some c=>k (.one (.bool c))
  |none=>match o with
   | .add=>(i64 (a+b)).bind fun x=>k (.one (.int .i64 x))
   | .sub=>(i64 (a-b)).bind fun x=>k (.one (.int .i64 x))
   | .mul=>(i64 (a*b)).bind fun x=>k (.one (.int .i64 x))
   | .rem=>if b=0 then none else k (.one (.int .i64 (a.tmod b)))
   | .quo=>if b=0 then none else(i64 (a.tdiv b)).bind fun x=>k (.one (.int .i64 x))
   | .shl=>if 0≤b∧b≤64 then(i64 (a*2 ^ b.toNat)).bind fun x=>k (.one (.int .i64 x))else none
   | .shr=>if 0≤b then k (.one (.int .i64 (a.fdiv (2 ^ min b.toNat 64))))else none
   | .and=>k (.one (.int .i64 (andI a b)))
   | .or=>k (.one (.int .i64 (orI a b)))
   |_=>none
 | .one (.int .u64 a),.one (.int .u64 b)=>match o with
  | .lss=>k (.one (.bool (decide (a<b))))
  | .eql=>k (.one (.bool (decide (a=b))))
  | .mul=>(uZ (a*b)).bind fun x=>k (.one (.int .u64 x))
  | .rem=>if b=0 then none else k (.one (.int .u64 (a.tmod b)))
  | .quo=>if b=0 then none else(uZ (a.tdiv b)).bind fun x=>k (.one (.int .u64 x))
  |_=>none
 | .one (.bool a),.one (.bool b)=>match Tryz.prog.underlying t with
  |some .bool=>match o with
   | .eql=>k (.one (.bool (a==b)))
   | .neq=>k (.one (.bool (!(a==b))))
   |_=>none
  |_=>none
 | .one (.sl _ _ _ l),.one .nil=>match o,Tryz.prog.underlying t with
  | .eql,some (.slice _)=>if 0<l.length then k (.one (.bool false))else none
  |_,_=>none
 |_,_=>none
variable(C:Cx)(e:En)
def ptrsK:List Lf→Option (List Nat)
 | []=>some []
 | .ptr j 0::r=>match ptrsK r with
  |some l=>some (j::l)
  |none=>none
 |_=>none
noncomputable def leavesOf:Pv→Option (List Lf)
 | .one l=>some [l]
 | .agg l=>some l
 | .clo f l=>match ptrsK l with
  |some js=>some [.cl f js]
  |none=>none
 |_=>none
noncomputable def fillK(place:Nat→Option (Nat×Nat)):List (Nat×Operand)→List Lf→Option (List Lf)
 | [],c=>some c
 |(i,x)::r,c=>match place i,e.ev C x with
  |some (off,size),some v=>match leavesOf v with
   |some l=>match Nat.beq (wid l) size,putL c off l with
    |true,some c=>fillK place r c
    |_,_=>none
   |none=>none
  |_,_=>none
noncomputable def elK(t:TypeId):Option (TypeId×Nat×Ty×List Lf):=match qw Tryz.prog t with
 |some (el,sz,by_,z)=>match Γ el with
  |some τ=>match Nat.beq τ.sz sz&&Nat.ble by_ 8000,zleaves τ z with
   |true,some l=>some (el,sz,τ,l)
   |_,_=>none
  |none=>none
 |none=>none
noncomputable def buildK(t:TypeId)(parts:List (Nat×Operand)):Option Pv:=match zeroL Tryz.prog t,Tryz.prog.underlying t,Γ t with
 |some z,some (.struct fields),some τ=>match zleaves τ z,fields.toList.all (fun f=>(Tryz.prog.info? f.type).isSome)with
  |some l,true=>match fillK C e (placeF Tryz.prog fields.toList) parts l with
   |some c=>some (.agg c)
   |none=>none
  |_,_=>none
 |some z,some (.array _ el),some τ=>match zleaves τ z,Tryz.prog.info? el with
  |some l,some inf=>match fillK C e (fun i=>some (i*inf.size,inf.size)) parts l with
   |some c=>some (.agg c)
   |none=>none
  |_,_=>none
 |_,_,_=>none
def firstK{τ:Ty}(l:List τ.T):Nat→Nat→(List Lf→Option ρ)→Option ρ
 |0,_,k=>k []
 |n+1,i,k=>(idx l (i:Int)).bind fun x=>firstK l n (i+1) fun r=>k (flat τ x++r)
noncomputable def loadK(t:TypeId)(a:Pv)(k:Pv→Option ρ):Option ρ:=match a with
 | .one (.ptr j off)=>match e.obj C j with
  |some (.cells l)=>kO (cutK (yH Tryz.prog t) off l) k
  |_=>none
 | .one (.ep _ _ τ x off)=>kO (cutK (yH Tryz.prog t) off (flat τ x)) k
 | .one (.op j w i off)=>match e.obj C j with
  |some (.list _ w' τ l)=>match Nat.beq w' w with
   |true=>(idx l i).bind fun x=>kO (cutK (yH Tryz.prog t) off (flat τ x)) k
   |false=>none
  |_=>none
 | .one (.sp _ w τ l)=>match yH Tryz.prog t with
  |some (some n)=>match Nat.beq (n / w*w) n&&Nat.beq τ.sz w with
   |true=>firstK l (n / w) 0 fun c=>k (.agg c)
   |false=>none
  |_=>none
 |_=>none
noncomputable def fieldAddrK(t:TypeId)(f:Nat)(a:Pv):Option Pv:=match a,offF Tryz.prog t f with
 | .one (.ptr j off),some n=>some (.one (.ptr j (off+n)))
 | .one (.ep t w τ x off),some n=>some (.one (.ep t w τ x (off+n)))
 | .one (.op j w i off),some n=>some (.one (.op j w i (off+n)))
 |_,_=>none
noncomputable def indexAddrK(t:TypeId)(a i:Pv)(k:Pv→Option ρ):Option ρ:=match i,elemF Tryz.prog t,a with
 | .one (.int _ i),some (true,_,sz),.one (.sl t w τ l)=>match Nat.beq w sz with
  |true=>(idx l i).bind fun x=>k (.one (.ep t w τ x 0))
  |false=>none
 | .one (.int _ i),some (true,_,sz),.one (.own j)=>match e.obj C j with
  |some (.list _ w τ l)=>match Nat.beq w sz with
   |true=>(idx l i).bind fun _=>k (.one (.op j w i 0))
   |false=>none
  |_=>none
 | .one (.int _ (.ofNat i)),some (true,_,sz),.one (.asl j n)=>match Nat.blt i n with
  |true=>k (.one (.ptr j (0+i*sz)))
  |false=>none
 | .one (.int _ (.ofNat i)),some (false,n,sz),.one (.ptr j off)=>match Nat.blt i n with
  |true=>k (.one (.ptr j (off+i*sz)))
  |false=>none
 | .one (.int _ (.ofNat i)),some (false,n,sz),.one (.ep t w τ x off)=>match Nat.blt i n with
  |true=>k (.one (.ep t w τ x (off+i*sz)))
  |false=>none
 | .one (.int _ (.ofNat i)),some (false,n,sz),.one (.op j w x off)=>match Nat.blt i n with
  |true=>k (.one (.op j w x (off+i*sz)))
  |false=>none
 |_,_,_=>none
noncomputable def aslK(t:TypeId)(a:Pv):Option Pv:=match a,Tryz.prog.underlying t with
 | .one (.ptr j 0),some (.array n el)=>match (Tryz.prog.info? el).isSome with
  |true=>some (.one (.asl j n))
  |false=>none
 |_,_=>none
noncomputable def fieldK(t:TypeId)(a:Pv)(f:Nat):Option Pv:=match a,Tryz.prog.underlying t with
 | .agg l,some (.struct fields)=>match zM fields.toList f with
  |some fd=>cutK (yH Tryz.prog fd.type) fd.offset l
  |none=>none
 |_,_=>none
noncomputable def likeK(t:TypeId)(τ:Ty):Bool:=match yH Tryz.prog t with
 |some none=> !τ.isAgg&&Nat.beq τ.sz 1
 |some (some n)=>τ.isAgg&&Nat.beq τ.sz n
 |none=>false
noncomputable def indexK(t:TypeId)(a i:Pv)(k:Pv→Option ρ):Option ρ:=match i,a,Tryz.prog.underlying t with
 | .one (.int _ i),.agg l,some (.array len el)=>match Γ el,Tryz.prog.info? el with
  |some τ,some inf=>match likeK el τ&&Nat.beq τ.sz inf.size,readN τ len l with
   |true,some xs=>(idx xs i).bind fun x=>k (pvQ (τ.isAgg,flat τ x))
   |_,_=>none
  |_,_=>none
 |_,_,_=>none
noncomputable def lenK(t:TypeId)(a:Pv):Option Pv:=match Tryz.prog.underlying t,a with
 |some (.slice _),.one .nil=>some (.one (.int .i64 0))
 |some (.slice _),.one (.sl _ _ _ l)=>some (.one (.int .i64 (l.length:Int)))
 |some (.slice _),.one (.asl _ n)=>some (.one (.int .i64 (n:Int)))
 |some (.slice _),.one (.own j)=>match e.obj C j with
  |some (.list _ _ _ l)=>some (.one (.int .i64 (l.length:Int)))
  |_=>none
 |_,_=>none
noncomputable def extractK(a:Pv)(i:Nat):Option Pv:=match a with
 | .tup l=>match zM l i with
  |some (true,l)=>some (.agg l)
  |some (false,[x])=>some (.one x)
  |_=>none
 |_=>none
noncomputable def capsK:List Operand→Option (List Lf)
 | []=>some []
 |x::r=>match e.ev C x,capsK r with
  |some (.one l),some ls=>some (l::ls)
  |_,_=>none
noncomputable def pureK(o:Op)(k:Pv→Option ρ):Option ρ:=match o with
 | .move x | .assign x=>kO (e.ev C x) k
 | .pick c a b=>match e.ev C c with
  |some (.one (.bool c))=>if c=true then kO (e.ev C a) k else kO (e.ev C b) k
  |_=>none
 | .load t x=>kO (e.ev C x) fun a=>loadK C e t a k
 | .fieldAddr t x f=>kO (e.ev C x) fun a=>kO (fieldAddrK t f a) k
 | .indexAddr t x i=>kO (e.ev C x) fun a=>kO (e.ev C i) fun i=>indexAddrK C e t a i k
 | .field t x f=>kO (e.ev C x) fun a=>kO (fieldK t a f) k
 | .index t x i=>kO (e.ev C x) fun a=>kO (e.ev C i) fun i=>indexK Γ t a i k
 | .binOp o t x y _=>kO (e.ev C x) fun a=>kO (e.ev C y) fun b=>binK o t a b k
 | .unOp .not _ x=>match e.ev C x with
  |some (.one (.bool b))=>k (.one (.bool (!b)))
  |_=>none
 | .unOp .neg _ x=>match e.ev C x with
  |some (.one (.int .i64 a))=>(i64 (0-a)).bind fun x=>k (.one (.int .i64 x))
  |some (.one (.int .u64 a))=>k (.one (.int .u64 ((0-a) % 18446744073709551616)))
  |_=>none
 | .extract x i=>kO (e.ev C x) fun a=>kO (extractK a i) k
 | .nilCheck x=>match e.ev C x with
  |some (.one (.ptr j off))=>k (.one (.ptr j off))
  |some (.one (.ep t w τ x off))=>k (.one (.ep t w τ x off))
  |some (.one (.op j w i off))=>k (.one (.op j w i off))
  |some (.one (.fn f))=>k (.one (.fn f))
  |some (.clo f l)=>k (.clo f l)
  |_=>none
 | .convert src dst x=>match Tryz.prog.underlying src,Tryz.prog.underlying dst,e.ev C x with
  |some _,some (.int .u64),some (.one (.int .i64 a))=>k (.one (.int .u64 (a % 18446744073709551616)))
  |some _,some (.int .i64),some (.one (.int .u64 a))=>(i64 a).bind fun x=>k (.one (.int .i64 x))
  |_,_,_=>none
 | .sliceToArrayPointer t x=>match Tryz.prog.underlying t,e.ev C x with
  |some (.array (n+1) _),some (.one (.sl t' w τ l))=>if ((n+1:Nat):Int)≤(l.length:Int)then k (.one (.sp t' w τ l))else none
  |_,_=>none
 | .build t parts=>kO (buildK Γ C e t parts.toList) k
 | .makeFunc (.func f) ⟨[]⟩ caps=>match keysF (.func f)with
  |false=>kO (capsK C e caps.toList) fun l=>k (.clo f l)
  |true=>none
 | .call c=>match c.callee,c.argTypes.toList,c.args.toList with
  | .builtin .len,t::_,[x]=>kO (e.ev C x) fun a=>kO (lenK C e t a) k
  |_,_,_=>none
 |_=>none
end
end Go.Proofs.YtocnbjjmmgolfaaGreat
