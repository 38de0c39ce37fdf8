/- zQ law: the law holds if the box is as it should be. -/
/- zQ law: quadrilaterals turned by quarters and moved; right lists of corners. -/
/- zQ law: one piece of a box. -/
/- zQ law: the fits of a box. -/
/- zQ law: the fits of the box that Broken makes. -/
/- zQ law: the box that Broken makes is as it should be; the law holds. -/
import Derived.Test.YtocnbjjmmgolfaaGreatA43
namespace Go.Proofs.YtocnbjjmmgolfaaGreat
open Go Go.M Go.Proofs.C14
set_option linter.unusedSimpArgs false
structure BoxOK(P:List Pc)(F:List Fq)(A:List Pl):Prop where
 n:2≤P.length∧P.length≤4
 pc:∀p∈P,PcOK p
 fl:0<F.length∧F.length≤4
 ft:∀f∈F,qc f
 al:A.length=P.length
 pl:∀v∈A,V2 1 1 v.1∧V2 1 8 v.2
structure LsOK(A:List Pl):Prop where
 len:A.length≤6
 tu:∀v∈A,∃d,Kd d∧V2 d 12 v.1
 un:(∀v∈A,uniB v.1=true)→∃K,Kd K∧∀v∈A,PlOK K v
theorem unit_int{x s:Rat}(hs:QV 1 1 s)(h:x*x+s*s=1):QV 1 1 x:=by
 obtain⟨n,hn,hb⟩:=hs
 have e:s=(n:Rat):=by
  rw[←hn]
  show s=s*1
  rw[Rat.mul_one]
 have h0:n=0∨n=1∨n = -1:=by omega
 have key:x=0∨x=1∨x = -1:=by
  rcases h0 with rfl|rfl|rfl
  ·have:(x-1)*(x+1)=0:=by
    have e:s=0:=e
    rw[e]at h
    grind
   rcases Rat.mul_eq_zero.mp this with g|g
   ·right;left;grind
   ·right;right;grind
  ·left
   have e:s=1:=e
   rw[e]at h
   have:x*x=0:=by grind
   rcases Rat.mul_eq_zero.mp this with g|g<;>exact g
  ·left
   have e:s = -1:=e
   rw[e]at h
   have:x*x=0:=by grind
   rcases Rat.mul_eq_zero.mp this with g|g<;>exact g
 rcases key with rfl|rfl|rfl
 ·exact QV.int (n:=0) Uz
 ·exact QV.int (n:=1) Uz
 ·exact QV.int (n:= -1) Uz
theorem V2.one{K B:Nat}{v:Rat×Rat}(h:V2 1 B v):V2 K B v:=by
 have:=h.up (k:=K)
 rw[Nat.one_mul]at this
 exact this
theorem pl_one{K:Nat}{v:Pl}(h:V2 1 1 v.1∧V2 1 8 v.2):PlOK K v:=⟨h.1.one,(h.2.one (K:=12)).le Uz⟩
theorem ls_one{A:List Pl}(hl:A.length≤6)(h:∀v∈A,PlOK 1 v):LsOK A:=⟨hl,fun v hv=>⟨1,⟨by decide,by decide⟩,(h v hv).turn.le Uz⟩,fun _=>⟨1,⟨by decide,by decide⟩,h⟩⟩
theorem mem_lset{α:Type}:∀{l:List α} {n:Nat} {x y:α},n<l.length→x∈zt l n x
 |_::l,0,x,_,_=>List.mem_cons_self ..
 |_::l,n+1,x,y,h=>List.mem_cons_of_mem _ (mem_lset (y:=y) (by simpa using h))
section
variable{P:List Pc}{F:List Fq}{A:List Pl}(hb:BoxOK P F A)
include hb
theorem law_ok{l m:List Int}{how by':Int}(hz:z8 l=some (P,F,A))(hm:L64 m)(hh:xG how)(hy:xG by'):z4 l how by' m=some true:=by
 have k1:Kd 1:=⟨by decide,by decide⟩
 have hn:=hb.n
 have hal:=hb.al
 obtain⟨G,eG,lG,hG⟩:=bent_ok hb.fl.1 (by have:=hb.fl.2;omega) hb.ft hh hy
 obtain⟨k,ek,k0,kn⟩:=z10_ok (m:=(A.length:Int)) hy Oz Oz
 obtain⟨kk,rfl⟩:=Int.eq_ofNat_of_zero_le k0
 have hk:kk<A.length:=by omega
 have base:∀v∈A,PlOK 1 v:=fun v hv=>pl_one (hb.pl v hv)
 have hv:=List.getElem_mem hk
 obtain⟨ht,ha⟩:=hb.pl _ hv
 have ik:=zn hk
 obtain⟨a,ea,a0,a1⟩:=xQ hm (i:=0) (m:=9) Uz Uz Uz
 obtain⟨b,eb,b0,b1⟩:=xQ hm (i:=1) (m:=9) Uz Uz Uz
 obtain⟨o,eo,o1,o2⟩:=z22_ok hm (i:=2) Uz Uz
 obtain⟨c,ec,c0,c1⟩:=xQ hm (i:=5) (m:=100) Uz Uz Uz
 obtain⟨x,ex,hx⟩:=z23_ok (n:=c) ⟨c0,c1⟩
 have q4:∀{r:Int},0≤r→r<9→ofG (r-4) 4=some (Rat.divInt (r-4) 4)∧QV 12 1 (Rat.divInt (r-4) 4):=fun h0 h1=>⟨ofG_ok Oz Oz,div_qv (q:=4) Uz 3 rfl Oz⟩
 obtain⟨f1,f2⟩:=q4 a0 a1
 obtain⟨g1,g2⟩:=q4 b0 b1
 have app0:app ([]:List Pl) A=some A:=by rw[zN (by simp;omega)];rfl
 have ha12:V2 12 8 A[kk].2:=ha.one
 have s8:SB 12 8:=⟨by decide,by decide⟩
 have s1:SB 12 1:=⟨by decide,by decide⟩
 have e19:z19 A[kk].2 (Rat.divInt (a-4) 4,Rat.divInt (b-4) 4)=some (addV A[kk].2 (Rat.divInt (a-4) 4,Rat.divInt (b-4) 4)):=by
  unfold z19
  rw[yr (ha12.1.sm s8) (f2.sm s1),yr (ha12.2.sm s8) (g2.sm s1)]
  rfl
 have v19:V2 12 9 (addV A[kk].2 (Rat.divInt (a-4) 4,Rat.divInt (b-4) 4)):=V2.add (C:=1) ha12 ⟨f2,g2⟩
 have sl:xq A 0 (kk:Int)=some (A.take kk):=by
  unfold xq
  rw[if_pos Oz]
  rfl
 have i0:idx A 0=some A[0]:=zn (i:=0) Oz
 have appE:app A [A[0]]=some (A++[A[0]]):=zN (by simp;omega)
 -- the six lists of places
 have L1:LsOK A:=ls_one Oz base
 have L2:LsOK (zt A kk (A[kk].1,addV A[kk].2 (Rat.divInt (a-4) 4,Rat.divInt (b-4) 4))):=ls_one (by rw[ya];omega) (lset_all base ⟨ht,v19.le Uz⟩)
 have L3:LsOK (zt A kk o):=by
  obtain⟨d,hd,hdv,-⟩:=tn_qv o1 (Nat.le_refl _)
  have all:∀v∈zt A kk o,PlOK d v:=lset_all (fun v hv=>pl_one (hb.pl v hv)) ⟨hdv,o2.le Uz⟩
  exact⟨by rw[ya];omega,fun v hv=>⟨d,hd,(all v hv).turn.le Uz⟩,fun _=>⟨d,hd,all⟩⟩
 have L4:LsOK (zt A kk ((x,A[kk].1.2),A[kk].2)):=by
  refine⟨by rw[ya];omega,lset_all (fun v hv=>⟨1,k1,(base v hv).turn.le Uz⟩) ⟨12,⟨by decide,by decide⟩,hx,?_⟩,fun hu=>⟨1,k1,lset_all base ⟨⟨?_,ht.2⟩,(base _ hv).at'⟩⟩⟩
  ·have:=(ht.2.up (k:=12)).le (C:=12) Uz
   exact this
  ·have:=hu _ (mem_lset (y:=A[kk]) hk)
   exact unit_int ht.2 (of_decide_eq_true this)
 have L5:LsOK (A.take kk):=ls_one (by rw[List.length_take];omega) fun v hv=>base v (List.mem_of_mem_take hv)
 have L6:LsOK (A++[A[0]]):=ls_one (by simp;omega) fun v hv=>by
  rcases List.mem_append.mp hv with hv|hv
  ·exact base v hv
  ·rw[List.mem_singleton.mp hv];exact base _ (List.getElem_mem _)
 unfold z4
 rw[hz,Option.bind_some]
 show((z9 F how by').bind _)=_
 rw[eG,Option.bind_some]
 show((z10 by' (A.length:Int)).bind _)=_
 rw[ek,Option.bind_some]
 show((app [] A).bind _)=_
 simp only[app0,Option.bind_some,ik,ea,eb,yg (show(a-4).natAbs<_ by omega),yg (show(b-4).natAbs<_ by omega),f1,g1,e19,eo,ec,ex,sl,i0,appE]
 rw[show Int.toNat (kk:Int)=kk from Int.toNat_natCast kk]
 have hA:∀B∈[A,zt A kk (A[kk].1,addV A[kk].2 (Rat.divInt (a-4) 4,Rat.divInt (b-4) 4)),zt A kk o,zt A kk ((x,A[kk].1.2),A[kk].2),A.take kk,A++[A[0]]],LsOK B:=by
  intro B hB
  simp only[List.mem_cons,List.not_mem_nil,or_false]at hB
  rcases hB with rfl|rfl|rfl|rfl|rfl|rfl
  ·exact L1
  ·exact L2
  ·exact L3
  ·exact L4
  ·exact L5
  ·exact L6
 have hl6:[A,zt A kk (A[kk].1,addV A[kk].2 (Rat.divInt (a-4) 4,Rat.divInt (b-4) 4)),zt A kk o,zt A kk ((x,A[kk].1.2),A[kk].2),A.take kk,A++[A[0]]].length=6:=rfl
 have hF:∀H∈[F,G],H.length≤6∧∀f∈H,qc f:=by
  intro H hH
  simp only[List.mem_cons,List.not_mem_nil,or_false]at hH
  rcases hH with rfl|rfl
  ·exact⟨by have:=hb.fl.2;omega,hb.ft⟩
  ·exact⟨lG,hG⟩
 have hl2:[F,G].length=2:=rfl
 generalize [A,zt A kk (A[kk].1,addV A[kk].2 (Rat.divInt (a-4) 4,Rat.divInt (b-4) 4)),zt A kk o,zt A kk ((x,A[kk].1.2),A[kk].2),A.take kk,A++[A[0]]]=As at *
 generalize [F,G]=Fs at *
 refine zi 2 (fun i x=>x=(i:Int)) (fun o=>o=_) Oz rfl ?_ ?_
 ·rintro i x g hi rfl hg
  have hi2:i<Fs.length:=by omega
  rw[if_pos (decide_eq_true Oz)]
  refine zi 6 (fun i x=>x=(i:Int)) (fun o=>o=_) Oz rfl ?_ ?_
  ·rintro j x g' hj rfl hg'
   have hj2:j<As.length:=by omega
   obtain⟨hf1,hf2⟩:=hF _ (List.getElem_mem hi2)
   have hA1:=hA _ (List.getElem_mem hj2)
   obtain⟨r,e1,e2⟩:=check_eq (n:=P.length) ⟨by omega,hn.2⟩ rfl hb.pc hf1 hf2 hA1.len hA1.tu hA1.un
   rw[if_pos (decide_eq_true (by rw[hl6];omega))]
   simp only[zn hi2,zn hj2,Option.bind_some,e1,e2,zl (show j<100000 by omega)]
   rw[if_neg Y8]
   exact hg' _ rfl
  ·rintro x g' rfl
   rw[if_neg (by simp only[decide_eq_true_eq,hl6];omega),zl (show i<100000 by omega),Option.bind_some]
   exact hg _ rfl
 ·rintro x g rfl
  rw[if_neg Uz]
  rfl
end
end Go.Proofs.YtocnbjjmmgolfaaGreat
namespace Go.Proofs.YtocnbjjmmgolfaaGreat
open Go Go.M Go.Proofs.C14
set_option linter.unusedSimpArgs false
def qtI(p:Int×Int):Int×Int:=(0-p.2,p.1)
def shI(v p:Int×Int):Int×Int:=(p.1+v.1,p.2+v.2)
def rotI:Nat→Int×Int→Int×Int
 |0,p=>p
 |n+1,p=>qtI (rotI n p)
def mvI(n:Nat)(v p:Int×Int):Int×Int:=shI v (rotI n p)
section
variable{a b c d v:Int×Int}
theorem qt_inv:zf (qtI a) (qtI b) (qtI c)=zf a b c∧z5 (yj (qtI a) (qtI c)) (yj (qtI b) (qtI c))=z5 (yj a c) (yj b c)∧qa (qtI a) (qtI b) (qtI c) (qtI d)=qa a b c d:=by
 unfold zf qa zZ z5 yj qtI
 refine⟨?_,?_,?_⟩<;>grind
theorem sh_inv:zf (shI v a) (shI v b) (shI v c)=zf a b c∧z5 (yj (shI v a) (shI v c)) (yj (shI v b) (shI v c))=z5 (yj a c) (yj b c)∧qa (shI v a) (shI v b) (shI v c) (shI v d)=qa a b c d:=by
 unfold zf qa zZ z5 yj shI
 refine⟨?_,?_,?_⟩<;>grind
end
theorem quad_map{f:Int×Int→Int×Int}(h:∀{a b c d:Int×Int},zf (f a) (f b) (f c)=zf a b c∧z5 (yj (f a) (f c)) (yj (f b) (f c))=z5 (yj a c) (yj b c)∧qa (f a) (f b) (f c) (f d)=qa a b c d){a b c d:Int×Int}:quadR (f a) (f b) (f c) (f d)=quadR a b c d:=by
 have hs:∀{a b c:Int×Int},zf (f a) (f b) (f c)=zf a b c:=fun{a b c}=>(@h a b c a).1
 have hd:∀{a b c:Int×Int},z5 (yj (f a) (f c)) (yj (f b) (f c))=z5 (yj a c) (yj b c):=fun{a b c}=>(@h a b c a).2.1
 have ha:qa (f a) (f b) (f c) (f d)=qa a b c d:=h.2.2
 rw[←quad_eq,←quad_eq]
 unfold quadP qA onI
 rw[ha]
 simp only[hs,hd]
theorem quad_rot:∀(n:Nat) {a b c d:Int×Int},quadR (rotI n a) (rotI n b) (rotI n c) (rotI n d)=quadR a b c d
 |0,_,_,_,_=>rfl
 |n+1,a,b,c,d=>(quad_map (f:=qtI) qt_inv).trans (quad_rot n)
theorem quad_mv{n:Nat}{v a b c d:Int×Int}:quadR (mvI n v a) (mvI n v b) (mvI n v c) (mvI n v d)=quadR a b c d:=(quad_map (f:=shI v) sh_inv).trans (quad_rot n)
theorem rot_nr{N:Nat}:∀(n:Nat) {p:Int×Int},Nr N p→Nr N (rotI n p)
 |0,_,h=>h
 |n+1,p,h=>by
  obtain⟨h1,h2⟩:=rot_nr n h
  exact⟨by show(0-_:Int).natAbs≤N;omega,h1⟩
theorem z34_ok{p:Int×Int}(h:Nr 8 p){k:Nat}(hk:k<4):z34 p (k:Int)=some (rotI k p):=by
 unfold z34
 refine zi k (fun i x=>x=((i:Int),rotI i p)) (fun o=>o=_) Oz rfl ?_ ?_
 ·rintro i x g hi rfl hg
  have hr:=rot_nr i h
  have h2:=hr.2
  rw[if_pos (zr hi)]
  show(i64 (0-(rotI i p).2)).bind _=_
  rw[yg Oz,Option.bind_some,zl (show i<100000 by omega),Option.bind_some]
  exact hg _ rfl
 ·rintro x g rfl
  rw[if_neg Y8]
def Qn(N:Nat)(l:List (Int×Int)):Prop:=∃a b c d,l=[a,b,c,d]∧Nr N a∧Nr N b∧Nr N c∧Nr N d
def Qd(N:Nat)(l:List (Int×Int)):Prop:=∃a b c d,l=[a,b,c,d]∧(Nr N a∧Nr N b∧Nr N c∧Nr N d)∧quadR a b c d=true
theorem z33_ok{Q:List (List (Int×Int))}(hl:Q.length<12)(h:∀q∈Q,Qn 8 q):∃v,z33 Q=some v∧(v=true→∀q∈Q,Qd 8 q):=by
 unfold z33
 refine zi Q.length (fun i x=>x=(i:Int)∧∀q∈Q.take i,Qd 8 q) (fun o=>∃v,o=some v∧(v=true→∀q∈Q,Qd 8 q)) hl ⟨rfl,by simp⟩ ?_ ?_
 ·rintro i x g hi ⟨rfl,hq⟩ hg
  obtain⟨a,b,c,d,e,ha,hb,hc,hd⟩:=h _ (List.getElem_mem hi)
  have ha':=ha.le (M:=1000) Uz
  have hb':=hb.le (M:=1000) Uz
  have hc':=hc.le (M:=1000) Uz
  have hd':=hd.le (M:=1000) Uz
  rw[if_pos (zr hi),zn hi,Option.bind_some,z93_int (p:=(0,0,Q[i],[],[],0,0,0,0,0)) e ha' hb' hc' hd',Option.bind_some,z92_int ha' hb' hc' hd',Option.bind_some]
  cases hv:quadR a b c d
  ·exact⟨false,rfl,fun q=>nomatch q⟩
  ·rw[if_neg Uz,zl (show i<100000 by omega),Option.bind_some]
   refine hg _ ⟨rfl,fun q hq'=>?_⟩
   rw[xH hi]at hq'
   rcases List.mem_append.mp hq' with hq'|hq'
   ·exact hq q hq'
   ·rw[List.mem_singleton.mp hq']
    exact⟨a,b,c,d,e,⟨ha,hb,hc,hd⟩,hv⟩
 ·rintro x g ⟨rfl,hq⟩
  rw[if_neg Y8]
  rw[List.take_length]at hq
  exact⟨true,rfl,fun _=>hq⟩
theorem corners_ok{w h x y b r t l:Int}(hw:4≤w∧w≤8)(hh:4≤h∧h≤8)(hx:0≤x∧x≤8)(hy:0≤y∧y≤8)(hb:0≤b∧b≤8)(hr:0≤r∧r≤8)(ht:0≤t∧t≤8)(hl:0≤l∧l≤8):∃Q,z32 w h (x,y) b r t l=some Q∧Q.length=4∧∀q∈Q,Qn 8 q:=by
 have nr:∀{p q:Int},0≤p∧p≤8→0≤q∧q≤8→Nr 8 (p,q):=fun h g=>⟨by show Int.natAbs _≤8;omega,by show Int.natAbs _≤8;omega⟩
 have z:(0:Int)≤0∧(0:Int)≤8:=by omega
 have hw':0≤w∧w≤8:=by omega
 have hh':0≤h∧h≤8:=by omega
 refine⟨_,rfl,rfl,?_⟩
 intro q hq
 simp only[List.mem_cons,List.not_mem_nil,or_false]at hq
 rcases hq with rfl|rfl|rfl|rfl
 ·exact⟨_,_,_,_,rfl,nr z z,nr hb z,nr hx hy,nr z hl⟩
 ·exact⟨_,_,_,_,rfl,nr hb z,nr hw' z,nr hw' hr,nr hx hy⟩
 ·exact⟨_,_,_,_,rfl,nr hx hy,nr hw' hr,nr hw' hh',nr ht hh'⟩
 ·exact⟨_,_,_,_,rfl,nr z hl,nr hx hy,nr ht hh',nr z hh'⟩
theorem corners4:∃Q,z32 4 4 (2,2) 2 2 2 2=some Q∧Q.length=4∧∀q∈Q,Qd 8 q:=by
 refine⟨_,rfl,rfl,?_⟩
 intro q hq
 simp only[List.mem_cons,List.not_mem_nil,or_false]at hq
 rcases hq with rfl|rfl|rfl|rfl<;>exact⟨_,_,_,_,rfl,⟨by unfold Nr;decide,by unfold Nr;decide,by unfold Nr;decide,by unfold Nr;decide⟩,by decide⟩
theorem mv_qd{q:List (Int×Int)}(h:Qd 8 q){n:Nat}{v:Int×Int}(hv:Nr 4 v):QuadOK (q.map (mvI n v)):=by
 obtain⟨a,b,c,d,rfl,⟨ha,hb,hc,hd⟩,hq⟩:=h
 have nr:∀{p:Int×Int},Nr 8 p→Nr 12 (mvI n v p):=fun hp=>by
  obtain⟨h1,h2⟩:=rot_nr n hp
  obtain⟨h3,h4⟩:=hv
  exact⟨by show(_+_:Int).natAbs≤12;omega,by show(_+_:Int).natAbs≤12;omega⟩
 exact⟨_,_,_,_,rfl,⟨nr ha,nr hb,nr hc,nr hd⟩,quad_mv.trans hq⟩
end Go.Proofs.YtocnbjjmmgolfaaGreat
namespace Go.Proofs.YtocnbjjmmgolfaaGreat
open Go Go.M Go.Proofs.C14
set_option linter.unusedSimpArgs false
theorem tn1_v2{t:Rat×Rat}(h:Tn 1 t):V2 1 1 t:=by
 obtain⟨d,x,y,h0,hd,hs,e1,e2⟩:=h
 obtain rfl:d=1:=by omega
 have hx:=sq_le Uz hs
 have hy:=sq_le (x:=y) (y:=x) (d:=((1:Nat):Int)) Uz (by rw[←hs];omega)
 have key:∀{z:Int},z.natAbs≤1→QV 1 1 (mkRat z 1):=fun{z} hz=>by
  refine⟨z,?_,by omega⟩
  rw[Rat.mkRat_eq_div]
  exact Rat.div_mul_cancel Uz
 exact⟨by rw[e1];exact key hx,by rw[e2];exact key hy⟩
theorem tn_still':Tn 1 (qI 1,0):=tn_still
structure Inv(i:Nat)(P:List Pc)(A:List Pl):Prop where
 pl:P.length=i
 pc:∀p∈P,PcOK p
 al:A.length=i
 at':∀v∈A,Tn 1 v.1∧V2 1 8 v.2
theorem tol_ok{r:Int}(h:0≤r∧r<3)(d:Int)(hd:d=2∨d=4):ofG r d=some (Rat.divInt r d)∧0≤Rat.divInt r d:=by
 refine⟨ofG_ok Oz Oz,?_⟩
 have e:r=0∨r=1∨r=2:=by omega
 rcases e with rfl|rfl|rfl<;>rcases hd with rfl|rfl<;>decide
theorem plain_ok{n:Int}{l:List (Int×Int)}(h:l.length=4):z35 n l=some (n,0,l,[false,false,false,false],[0,0,0,0],0,qI 1,qI 1,qI 100,Rat.divInt 1 2):=by
 have q1:ofG 1 1=some (qI 1):=ofI Uz
 have q100:ofG 100 1=some (qI 100):=ofI Uz
 have ap:app ([]:List (Int×Int)) l=some l:=by rw[zN (by simp;omega)];rfl
 unfold z35
 rw[q1,Option.bind_some,ap,Option.bind_some,q100,Option.bind_some,ofHalf,Option.bind_some,h,if_pos ⟨by decide,rfl,by decide⟩,if_pos ⟨by decide,rfl,by decide⟩]
 rfl
theorem piece_ok{n:Int}{l:List (Int×Int)}(hn:0≤n∧n≤999)(hl:QuadOK l){r s u:Int}(hr:0≤r∧r<3)(hs:0≤s∧s<3)(hu:0≤u∧u<3) :
  PcOK (n,0,l,[false,false,false,false],[0,0,0,0],Rat.divInt r 4,qI (1+s),qI (1+s)+Rat.divInt u 2,qI 100,Rat.divInt 1 2):=by
 have h2:=(tol_ok hu 2 (.inl rfl)).2
 have l1:QV 2 3 (qI (1+s)):=(QV.int (n:=1+s) (B:=3) Oz).up (k:=2)
 have l2:QV 2 1 (Rat.divInt u 2):=div_qv (q:=2) Uz 1 rfl Oz
 refine⟨hl,hn,⟨Int.le_refl _,show(0:Int)≤4 by decide⟩,rfl,rfl,⟨div_qv (q:=4) Uz 1 rfl Oz,(tol_ok hr 4 (.inr rfl)).2⟩,⟨l1.le Uz,?_⟩,⟨(l1.add l2).le Uz,?_⟩,rfl,rfl⟩
 ·have:=qI_lt (show(0:Int)<1+s by omega)
  exact this
 ·show qI (1+s)≤qI (1+s)+Rat.divInt u 2
  grind
section
variable{l:List Int}(hl:L64 l){Q:List (List (Int×Int))}(hQ:Q.length=4)(hq:∀q∈Q,Qd 8 q){i:Nat}(hi:i<4){P:List Pc}{A:List Pl}(hI:Inv i P A){g:Int×List Pc×List Pl→Option (List Pc×List Fq×List Pl)}{Post:Option (List Pc×List Fq×List Pl)→Prop}(hg:∀P' A',Inv (i+1) P' A'→Post (g (((i+1:Nat):Int),P',A')))
include hl hQ hq hi hI hg
theorem bk1_ok{r:Nat}(hr:r<4){u w:Int}(hv:Nr 4 (u,w)):Post (bk1 l Q g ((i:Int),P,A) (r:Int) u w):=by
 have hiQ:i<Q.length:=by omega
 have hqi:=hq _ (List.getElem_mem hiQ)
 have hquad:=mv_qd hqi (n:=r) hv
 obtain⟨a,b,c,d,hqe,⟨na,nb,nc,nd⟩,-⟩:=hqi
 have hlen:Q[i].length=4:=by rw[hqe];rfl
 have hnr:∀p∈Q[i],Nr 8 p:=by
  rw[hqe]
  intro p hp
  simp only[List.mem_cons,List.not_mem_nil,or_false]at hp
  rcases hp with rfl|rfl|rfl|rfl
  ·exact na
  ·exact nb
  ·exact nc
  ·exact nd
 clear hqe na nb nc nd a b c d
 have hiq:=zn hiQ
 generalize Q[i]=q at *
 unfold bk1
 refine zi 4 (fun j x=>x=((j:Int),(q.take j).map (mvI r (u,w)))) Post Oz rfl ?_ ?_
 ·rintro j x k hj rfl hk
  have hj4:j<q.length:=by omega
  have np:=hnr _ (List.getElem_mem hj4)
  have rn:=rot_nr r np
  obtain⟨r1,r2⟩:=rn
  obtain⟨v1,v2⟩:=hv
  rw[if_pos (decide_eq_true (by show(j:Int)<4;omega)),hiq,Option.bind_some]
  show(idx q (j:Int)).bind _ |> Post
  rw[zn hj4,Option.bind_some,z34_ok np hr,Option.bind_some,yg (show((rotI r q[j]).1+u).natAbs<_ by have:u.natAbs≤4:=v1;omega),Option.bind_some,yg (show((rotI r q[j]).2+w).natAbs<_ by have:w.natAbs≤4:=v2;omega),Option.bind_some]
  rw[zN (by simp;omega),Option.bind_some,zl (show j<100000 by omega),Option.bind_some]
  refine hk _ ?_
  rw[xH hj4,List.map_append]
  rfl
 ·rintro x k rfl
  rw[List.take_of_length_le Oz]
  obtain⟨t1,e1,g1⟩:=xQ hl (i:=21+(i:Int)) (m:=3) Oz Uz Uz
  obtain⟨t2,e2,g2⟩:=xQ hl (i:=25+(i:Int)) (m:=3) Oz Uz Uz
  obtain⟨t3,e3,g3⟩:=xQ hl (i:=29+(i:Int)) (m:=3) Oz Uz Uz
  have pc:=piece_ok (n:=10+(i:Int)) Oz hquad g1 g2 g3
  have f1:=(tol_ok g1 4 (.inr rfl)).1
  have f3:=(tol_ok g3 2 (.inl rfl)).1
  have f2:ofG (1+t2) 1=some (qI (1+t2)):=ofI Oz
  have l1:QV 2 3 (qI (1+t2)):=(QV.int (n:=1+t2) (B:=3) Oz).up (k:=2)
  have l2:QV 2 1 (Rat.divInt t3 2):=div_qv (q:=2) Uz 1 rfl Oz
  have ad:=yr (l1.sm ⟨by decide,by decide⟩) (l2.sm ⟨by decide,by decide⟩)
  have:=hI.pl
  have:=hI.al
  rw[if_neg (show ¬(decide (((4:Nat):Int)<4)=true)by decide),yg (show(10+(i:Int)).natAbs<_ by omega),Option.bind_some]
  rw[plain_ok (n:=10+(i:Int)) (l:=q.map (mvI r (u,w))) (by rw[List.length_map];exact hlen),Option.bind_some,yg (show(21+(i:Int)).natAbs<_ by omega),Option.bind_some,e1,Option.bind_some,f1,Option.bind_some,yg (show(25+(i:Int)).natAbs<_ by omega),Option.bind_some,e2,Option.bind_some,yg (show(1+t2).natAbs<_ by omega),Option.bind_some,f2,Option.bind_some,yg (show(29+(i:Int)).natAbs<_ by omega),Option.bind_some,e3,Option.bind_some,f3,Option.bind_some,ad,Option.bind_some]
  show(app P _).bind _ |> Post
  rw[zN (by simp;omega),Option.bind_some,still_eq.2,Option.bind_some]
  have iP:∀p∈P++[(10+(i:Int),0,q.map (mvI r (u,w)),[false,false,false,false],[0,0,0,0],Rat.divInt t1 4,qI (1+t2),qI (1+t2)+Rat.divInt t3 2,qI 100,Rat.divInt 1 2)],PcOK p:=fun p hp=>by
   rcases List.mem_append.mp hp with hp|hp
   ·exact hI.pc p hp
   ·rw[List.mem_singleton.mp hp];exact pc
  have lP:(P++[(10+(i:Int),0,q.map (mvI r (u,w)),[false,false,false,false],[0,0,0,0],Rat.divInt t1 4,qI (1+t2),qI (1+t2)+Rat.divInt t3 2,qI 100,Rat.divInt 1 2)]).length=i+1:=by simp;omega
  generalize P++[(10+(i:Int),0,q.map (mvI r (u,w)),[false,false,false,false],[0,0,0,0],Rat.divInt t1 4,qI (1+t2),qI (1+t2)+Rat.divInt t3 2,qI 100,Rat.divInt 1 2)]=P' at *
  have m4:∃m:Nat,m<4∧Int.tmod (4-(r:Int)) 4=(m:Int):=by
   have:r=0∨r=1∨r=2∨r=3:=by omega
   rcases this with rfl|rfl|rfl|rfl
   ·exact⟨0,by decide,by decide⟩
   ·exact⟨3,by decide,by decide⟩
   ·exact⟨2,by decide,by decide⟩
   ·exact⟨1,by decide,by decide⟩
  obtain⟨m,hm,em⟩:=m4
  refine zi m (fun j x=>x.1=(j:Int)∧Tn 1 x.2) Post Oz ⟨rfl,tn_still'⟩ ?_ ?_
  ·rintro j ⟨x,tc,ts⟩ k hj ⟨rfl,ht⟩ hk
   have tv:=tn1_v2 ht
   rw[yg (show(4-(r:Int)).natAbs<_ by omega),Option.bind_some,if_neg Uz,em,if_pos (zr hj),xf (tv.2.sm ⟨by decide,by decide⟩),Option.bind_some,zl (show j<100000 by omega),Option.bind_some]
   exact hk _ ⟨rfl,ht.quarter⟩
  ·rintro⟨x,tc,ts⟩ k ⟨rfl,ht⟩
   have tv:=tn1_v2 ht
   have pv:=pt_v2 hv
   have s1:SB 1 8:=⟨by decide,by decide⟩
   have ro:=rot_ok tv pv ⟨by decide,by decide⟩ ⟨by decide,by decide⟩ ⟨by decide,by decide⟩
   have rv:=V2.rot tv pv
   have zv:V2 1 8 (0,0):=⟨QV.int (n:=0) Uz,QV.int (n:=0) Uz⟩
   have z0:V2 1 0 (0,0):=⟨QV.int (n:=0) Uz,QV.int (n:=0) Uz⟩
   rw[yg (show(4-(r:Int)).natAbs<_ by omega),Option.bind_some,if_neg Uz,em,if_neg Y8,z41_int (hv.le (M:=10000) Uz),Option.bind_some]
   rw[z40_rot ro,Option.bind_some,z39_v zv rv s1 s1,Option.bind_some]
   show(app A _).bind _ |> Post
   rw[zN (by simp;omega),Option.bind_some]
   show(i64 ((i:Int)+1)).bind _ |> Post
   rw[zl (show i<100000 by omega),Option.bind_some]
   refine hg _ _ ⟨lP,iP,by simp;omega,fun v hv=>?_⟩
   rcases List.mem_append.mp hv with hv|hv
   ·exact hI.at' v hv
   ·rw[List.mem_singleton.mp hv]
    exact⟨ht,z0.sub rv⟩
end
theorem bk0_eq{l:List Int}{Q:List (List (Int×Int))}{g:Int×List Pc×List Pl→Option (List Pc×List Fq×List Pl)}{x:Int×List Pc×List Pl}:bk0 l Q g x=bk1 l Q g x 0 0 0:=by
 have e:i64 (4-0)=some 4:=yg Uz
 unfold bk0 bk1
 simp only[e,Option.bind_some]
end Go.Proofs.YtocnbjjmmgolfaaGreat
namespace Go.Proofs.YtocnbjjmmgolfaaGreat
open Go Go.M Go.Proofs.C14
set_option linter.unusedSimpArgs false
theorem around4'{a:Int}(h0 : -3≤a)(h1:a≤7):∃j:Nat,j<4∧z172 a 4=some (j:Int):=by
 have e:a = -3∨a = -2∨a = -1∨a=0∨a=1∨a=2∨a=3∨a=4∨a=5∨a=6∨a=7:=by omega
 have q:∀{a:Int} (j:Nat),(Int.tmod a 4+4).natAbs<1000→Int.tmod (Int.tmod a 4+4) 4=(j:Int)→j<4→∃j:Nat,j<4∧z172 a 4=some (j:Int):=fun j h g k=>⟨j,k,by
  unfold z172
  rw[if_neg Uz,yg Oz,Option.bind_some,if_neg Uz,g]⟩
 rcases e with rfl|rfl|rfl|rfl|rfl|rfl|rfl|rfl|rfl|rfl|rfl
 ·exact q 1 Uz Uz Uz
 ·exact q 2 Uz Uz Uz
 ·exact q 3 Uz Uz Uz
 ·exact q 0 Uz Uz Uz
 ·exact q 1 Uz Uz Uz
 ·exact q 2 Uz Uz Uz
 ·exact q 3 Uz Uz Uz
 ·exact q 0 Uz Uz Uz
 ·exact q 1 Uz Uz Uz
 ·exact q 2 Uz Uz Uz
 ·exact q 3 Uz Uz Uz
theorem if_ff{ρ:Type}{a b:ρ}:(if false=true then a else b)=b:=if_neg Uz
theorem if_tt{ρ:Type}{a b:ρ}:(if true=true then a else b)=a:=if_pos rfl
abbrev AgR:=Option ((Rat×Rat)×(Rat×Rat)×Bool)
def AgOK(o:AgR):Prop:=∃lo hi b,o=some (lo,hi,b)∧V2 4 60 lo∧V2 4 60 hi
theorem agree_ok{pa pb:Pc}(ka:PcOK pa)(kb:PcOK pb){x y ea eb:Int}{t:Rat×Rat}(ht:Tn 1 t)(ha:0≤ea∧ea<4)(hb:0≤eb∧eb<4):AgOK (z101 pa pb (x,y,ea,eb,1,t,(0,0),0,0)):=by
 obtain⟨la,ra,-,na,-⟩:=rim_ok ka
 obtain⟨lb,rb,-,nb,-⟩:=rim_ok kb
 have st:z171 pa pb (x,y,ea,eb,1,t,(0,0),0,0)=some true:=by
  rw[strR_ok la lb]
  exact congrArg some (decide_eq_true ⟨ha,hb,show(1:Int)≤1 by decide,show(1:Int)<4 by decide⟩)
 have tv:=tn1_v2 ht
 have ut:z54 t=some true:=by
  obtain⟨d,h1,h2,h3⟩:=tn_qv ht Uz
  rw[(uni_ok h1 ⟨h2.1.le Uz,h2.2.le Uz⟩).2,h3]
 have s42:SB 4 2:=⟨by decide,by decide⟩
 have s44:SB 4 4:=⟨by decide,by decide⟩
 have s60:SB 4 60:=⟨by decide,by decide⟩
 have s40:SB 4 40:=⟨by decide,by decide⟩
 have he:=ka.tol.1.add kb.tol.1
 have ae:=yr (ka.tol.1.sm s42) (kb.tol.1.sm s42)
 generalize pa.2.2.2.2.2.1+pb.2.2.2.2.2.1=e at *
 have zq:QV 4 60 0:=(QV.int (n:=0) (B:=60) Uz).up (k:=4)
 unfold z101
 rw[st,Option.bind_some,if_neg Uz]
 show(z54 t).bind _ |> AgOK
 rw[ut,Option.bind_some,if_neg Uz,ra,Option.bind_some,rb,Option.bind_some,ae,Option.bind_some]
 have le:(pa.2.2.1.map ptQ).length=4:=by rw[List.length_map];exact la
 have lf:(pb.2.2.1.map ptQ).length=4:=by rw[List.length_map];exact lb
 refine zi 2 (fun k x=>x.1=(k:Int)∧QV 4 60 x.2.1∧QV 4 60 x.2.2.1∧QV 4 60 x.2.2.2.1∧QV 4 60 x.2.2.2.2) AgOK Oz ⟨rfl,zq,zq,zq,zq⟩ ?_ ?_
 ·rintro k ⟨x0,x1,x2,x3,x4⟩ g hk ⟨rfl,h1,h2,h3,h4⟩ hg
  have h1:QV 4 60 x1:=h1
  have h2:QV 4 60 x2:=h2
  have h3:QV 4 60 x3:=h3
  have h4:QV 4 60 x4:=h4
  obtain⟨j1,q1,q2⟩:=around4' (a:=ea+k) Oz Oz
  obtain⟨j2,r1,r2⟩:=around4' (a:=eb+1-k) Oz Oz
  have v1:=na _ (List.getElem_mem (show j1<pa.2.2.1.length by omega))
  have v2:=nb _ (List.getElem_mem (show j2<pb.2.2.1.length by omega))
  have w3:idx (pa.2.2.1.map ptQ) (j1:Int)=some (ptQ pa.2.2.1[j1]):=by rw[zn V4,List.getElem_map]
  have w4:idx (pb.2.2.1.map ptQ) (j2:Int)=some (ptQ pb.2.2.1[j2]):=by rw[zn V4,List.getElem_map]
  generalize pa.2.2.1[j1]=c1 at *
  generalize pb.2.2.1[j2]=c2 at *
  have o2:=rot_ok tv (pt_v2 v2) ⟨by decide,by decide⟩ ⟨by decide,by decide⟩ ⟨by decide,by decide⟩
  have u2:=V2.rot tv (pt_v2 v2)
  have d:=(V2.sub (pt_v2 v1) u2).up (k:=4)
  have d:V2 4 36 (subV (ptQ c1) (qy t (ptQ c2))):=d
  have e1:=z39_v (pt_v2 v1) u2 ⟨by decide,by decide⟩ ⟨by decide,by decide⟩
  have ee:V2 4 4 (e,e):=⟨he,he⟩
  have s36:SB 4 36:=⟨by decide,by decide⟩
  have e2:=z39_v d ee s36 s44
  have e3:z19 (subV (ptQ c1) (qy t (ptQ c2))) (e,e)=some (addV (subV (ptQ c1) (qy t (ptQ c2))) (e,e)):=by
   unfold z19
   rw[yr (d.1.sm s36) (he.sm s44),yr (d.2.sm s36) (he.sm s44)]
   rfl
  have lo:V2 4 40 (subV (subV (ptQ c1) (qy t (ptQ c2))) (e,e)):=V2.sub (C:=4) d ee
  have hi:V2 4 40 (addV (subV (ptQ c1) (qy t (ptQ c2))) (e,e)):=V2.add (C:=4) d ee
  rw[if_pos (decide_eq_true (by show(k:Int)≤1;omega)),yg (show(ea+(k:Int)).natAbs<_ by omega),Option.bind_some,yg (show(eb+1).natAbs<_ by omega),Option.bind_some,yg (show(eb+1-(k:Int)).natAbs<_ by omega),Option.bind_some,le,lf]
  rw[show((4:Nat):Int)=4 from rfl,q2,Option.bind_some,w3,Option.bind_some,r2,Option.bind_some,w4,Option.bind_some,z40_rot o2,Option.bind_some,e1,Option.bind_some,e2,Option.bind_some,e3,Option.bind_some]
  generalize subV (subV (ptQ c1) (qy t (ptQ c2))) (e,e)=lo' at *
  generalize addV (subV (ptQ c1) (qy t (ptQ c2))) (e,e)=hi' at *
  have l1:=lo.1.le (C:=60) Uz
  have l2:=lo.2.le (C:=60) Uz
  have l3:=hi.1.le (C:=60) Uz
  have l4:=hi.2.le (C:=60) Uz
  have k1:=yJ (l1.sm s60) (h1.sm s60)
  have k2:=yJ (l2.sm s60) (h2.sm s60)
  have k3:=yJ (l3.sm s60) (h3.sm s60)
  have k4:=yJ (l4.sm s60) (h4.sm s60)
  have fin:∀{y1 y2 y3 y4:Rat},QV 4 60 y1→QV 4 60 y2→QV 4 60 y3→QV 4 60 y4→AgOK ((i64 ((k:Int)+1)).bind fun n=>g (n,y1,y2,y3,y4)):=fun a b c d=>by
   rw[zl (show k<100000 by omega),Option.bind_some]
   exact hg _ ⟨rfl,a,b,c,d⟩
  have kk:k=0∨k=1:=by omega
  rcases kk with rfl|rfl
  ·have z0:decide (((0:Nat):Int)=0)=true:=rfl
   simp only[z0,if_tt]
   exact fin l1 l2 l3 l4
  ·have z1:decide (((1:Nat):Int)=0)=false:=rfl
   simp only[z1,if_ff,k1,k2,k3,k4,Option.bind_some]
   cases decide (0<cmpQ lo'.1 x1)<;>cases decide (0<cmpQ lo'.2 x2)<;>cases decide (cmpQ hi'.1 x3<0)<;>cases decide (cmpQ hi'.2 x4<0)<;>simp only[if_tt,if_ff]<;>exact fin Z1 Z1 Z1 Z1
 ·rintro⟨x0,x1,x2,x3,x4⟩ g ⟨rfl,h1,h2,h3,h4⟩
  have h1:QV 4 60 x1:=h1
  have h2:QV 4 60 x2:=h2
  have h3:QV 4 60 x3:=h3
  have h4:QV 4 60 x4:=h4
  have zv:V2 4 60 (0,0):=⟨zq,zq⟩
  rw[if_neg (show ¬(decide (((2:Nat):Int)≤1)=true)by decide),yJ (h1.sm s60) (h3.sm s60),Option.bind_some]
  cases decide (0<cmpQ x1 x3)
  ·rw[if_ff,yJ (h2.sm s60) (h4.sm s60),Option.bind_some]
   cases decide (0<cmpQ x2 x4)
   ·exact⟨_,_,_,rfl,⟨h1,h2⟩,⟨h3,h4⟩⟩
   ·exact⟨_,_,_,rfl,zv,zv⟩
  ·exact⟨_,_,_,rfl,zv,zv⟩
theorem qv_bd{x:Rat}(h:QV 4 60 x):BdQ x 1000000 1000:=by
 have:=QB.num Uz h
 exact⟨by omega,by omega⟩
theorem fit_fact{pa pb:Pc}(ka:PcOK pa)(kb:PcOK pb){va vb:Pl}(ha:Tn 1 va.1)(hb:Tn 1 vb.1){x y ea eb:Int}(hx:x.natAbs<100)(hy:y.natAbs<100)(h1:0≤ea∧ea<4)(h2:0≤eb∧eb<4) :
  z100 va.1=some (bck va.1)∧z73 (bck va.1) vb.1=some (qy (bck va.1) vb.1)∧∃r,z101 pa pb (x,y,ea,eb,1,qy (bck va.1) vb.1,(0,0),0,0)=some r∧qc (x,y,ea,eb,1,qy (bck va.1) vb.1,r.1,r.2.1):=by
 have av:=tn1_v2 ha
 have bk:=ha.bck
 have bv:=tn1_v2 hb
 have e1:z100 va.1=some (bck va.1):=by
  unfold z100
  rw[xf (av.2.sm ⟨by decide,by decide⟩)]
  rfl
 have k1:Kd 1:=⟨by decide,by decide⟩
 have e2:=(after_ok k1 k1 (tn1_v2 bk) bv).2.1
 have tu:Tn 1 (qy (bck va.1) vb.1):=bk.aft hb
 obtain⟨lo,hi,b,e3,g1,g2⟩:=agree_ok ka kb (x:=x) (y:=y) tu h1 h2
 have t25:Tn 25 (qy (bck va.1) vb.1):=tu.le Uz
 exact⟨e1,e2,_,e3,(show xG x from in64S Oz),(show xG y from in64S Oz),t25,t25.bd.1,t25.bd.2,qv_bd g1.1,qv_bd g1.2,qv_bd g2.1,qv_bd g2.2⟩
end Go.Proofs.YtocnbjjmmgolfaaGreat
namespace Go.Proofs.YtocnbjjmmgolfaaGreat
open Go Go.M Go.Proofs.C14
set_option linter.unusedSimpArgs false
theorem prs{α:Type}{a b c d:α}:idx [a,b,c,d] 0=some a∧idx [a,b,c,d] 1=some b∧idx [a,b,c,d] 2=some c∧idx [a,b,c,d] 3=some d:=⟨rfl,rfl,rfl,rfl⟩
def FsOK(P:List Pc)(A:List Pl)(o:Option (List Pc×List Fq×List Pl)):Prop:=∃F,o=some (P,F,A)∧(0<F.length∧F.length≤4)∧∀f∈F,qc f
theorem bkF_ok{n:Nat}(hn:2≤n∧n≤4){P:List Pc}{A:List Pl}(hI:Inv n P A){x:Int}:FsOK P A (bkF (n:Int) (x,P,A)):=by
 have hP:=hI.pl
 have hA:=hI.al
 have gp:∀k:Nat,k<n→∃p v,idx P (k:Int)=some p∧idx A (k:Int)=some v∧PcOK p∧Tn 1 v.1:=fun k hk=>by
  have h1:k<P.length:=by omega
  have h2:k<A.length:=by omega
  exact⟨_,_,zn h1,zn h2,hI.pc _ (List.getElem_mem h1),(hI.at' _ (List.getElem_mem h2)).1⟩
 obtain⟨p0,v0,ip0,iv0,kp0,kv0⟩:=gp 0 Oz
 obtain⟨p1,v1,ip1,iv1,kp1,kv1⟩:=gp 1 Oz
 obtain⟨a1,b1,r1,c1,f1⟩:=fit_fact kp0 kp1 kv0 kv1 (x:=0) (y:=1) (ea:=1) (eb:=3) Uz Uz Uz Uz
 have ip0:idx P 0=some p0:=ip0
 have iv0:idx A 0=some v0:=iv0
 have ip1:idx P 1=some p1:=ip1
 have iv1:idx A 1=some v1:=iv1
 have app1:∀f:Fq,app ([]:List Fq) [f]=some [f]:=fun _=>rfl
 have app2:∀(l:List Fq) (f:Fq),l.length<10→app l [f]=some (l++[f]):=fun l f h=>zN (by simp;omega)
 have e:n=2∨n=3∨n=4:=by omega
 have all:∀{l:List Fq} {f:Fq},(∀f∈l,qc f)→qc f→∀g∈l++[f],qc g:=fun h k g hg=>by
  rcases List.mem_append.mp hg with hg|hg
  ·exact h g hg
  ·rw[List.mem_singleton.mp hg];exact k
 have all1:∀{f:Fq},qc f→∀g∈[f],qc g:=fun k g hg=>by rw[List.mem_singleton.mp hg];exact k
 unfold bkF
 simp only[prs,Option.bind_some,ip0,iv0,ip1,iv1,a1,b1,c1,app1]
 rcases e with rfl|rfl|rfl
 ·rw[if_pos (show decide ((1:Int)<((2:Nat):Int))=true from rfl),if_neg (show ¬decide ((3:Int)<((2:Nat):Int))=true by decide),if_neg (show ¬decide ((2:Int)<((2:Nat):Int))=true by decide),if_neg (show ¬decide ((3:Int)<((2:Nat):Int))=true by decide)]
  exact⟨_,rfl,⟨by simp,by simp⟩,all1 f1⟩
 ·obtain⟨p2,v2,ip2,iv2,kp2,kv2⟩:=gp 2 Oz
  have ip2:idx P 2=some p2:=ip2
  have iv2:idx A 2=some v2:=iv2
  obtain⟨a2,b2,r2,c2,f2⟩:=fit_fact kp1 kp2 kv1 kv2 (x:=1) (y:=2) (ea:=2) (eb:=0) Uz Uz Uz Uz
  rw[if_pos (show decide ((1:Int)<((3:Nat):Int))=true from rfl),if_neg (show ¬decide ((3:Int)<((3:Nat):Int))=true by decide),if_pos (show decide ((2:Int)<((3:Nat):Int))=true from rfl)]
  simp only[ip2,iv2,Option.bind_some,a2,b2,c2]
  rw[app2 _ _ Y8,Option.bind_some,if_neg (show ¬decide ((3:Int)<((3:Nat):Int))=true by decide)]
  exact⟨_,rfl,⟨by simp,by simp⟩,all (all1 f1) f2⟩
 ·obtain⟨p2,v2,ip2,iv2,kp2,kv2⟩:=gp 2 Oz
  obtain⟨p3,v3,ip3,iv3,kp3,kv3⟩:=gp 3 Oz
  have ip2:idx P 2=some p2:=ip2
  have iv2:idx A 2=some v2:=iv2
  have ip3:idx P 3=some p3:=ip3
  have iv3:idx A 3=some v3:=iv3
  obtain⟨a2,b2,r2,c2,f2⟩:=fit_fact kp0 kp3 kv0 kv3 (x:=0) (y:=3) (ea:=2) (eb:=0) Uz Uz Uz Uz
  obtain⟨a3,b3,r3,c3,f3⟩:=fit_fact kp1 kp2 kv1 kv2 (x:=1) (y:=2) (ea:=2) (eb:=0) Uz Uz Uz Uz
  obtain⟨a4,b4,r4,c4,f4⟩:=fit_fact kp2 kp3 kv2 kv3 (x:=2) (y:=3) (ea:=3) (eb:=1) Uz Uz Uz Uz
  rw[if_pos (show decide ((1:Int)<((4:Nat):Int))=true from rfl),if_pos (show decide ((3:Int)<((4:Nat):Int))=true from rfl)]
  simp only[ip3,iv3,Option.bind_some,a2,b2,c2]
  rw[app2 _ _ Y8,Option.bind_some,if_pos (show decide ((2:Int)<((4:Nat):Int))=true from rfl)]
  simp only[ip2,iv2,a1,Option.bind_some,a3,b3,c3]
  rw[app2 _ _ Y8,Option.bind_some,if_pos (show decide ((3:Int)<((4:Nat):Int))=true from rfl)]
  simp only[Option.bind_some,a4,b4,c4]
  rw[app2 _ _ Y8]
  exact⟨_,rfl,⟨by simp,by simp⟩,all (all (all (all1 f1) f2) f3) f4⟩
end Go.Proofs.YtocnbjjmmgolfaaGreat
namespace Go.Proofs.YtocnbjjmmgolfaaGreat
open Go Go.M Go.Proofs.C14
set_option linter.unusedSimpArgs false
def BxOK(o:Option (List Pc×List Fq×List Pl)):Prop:=∃P F A,o=some (P,F,A)∧BoxOK P F A
theorem bkZ_ok{l:List Int}(hl:L64 l){Q:List (List (Int×Int))}(hQ:Q.length=4)(hq:∀q∈Q,Qd 8 q):BxOK (bkZ l Q):=by
 obtain⟨r,er,r0,r1⟩:=xQ hl (i:=8) (m:=3) Uz Uz Uz
 obtain⟨m,rfl⟩:=Int.eq_ofNat_of_zero_le r0
 unfold bkZ
 rw[er,Option.bind_some,yg (show(2+(m:Int)).natAbs<_ by omega),Option.bind_some]
 have hm:m≤2:=by omega
 refine zi (2+m) (fun i x=>x.1=(i:Int)∧Inv i x.2.1 x.2.2) BxOK Oz ⟨rfl,rfl,by simp,rfl,by simp⟩ ?_ ?_
 ·rintro i ⟨x,P,A⟩ g hi ⟨rfl,hI⟩ hg
  have hI:Inv i P A:=hI
  obtain⟨q,eq,q0,q1⟩:=xQ hl (i:=9+(i:Int)) (m:=4) Oz Uz Uz
  obtain⟨u,eu,u0,u1⟩:=xQ hl (i:=13+(i:Int)) (m:=9) Oz Uz Uz
  obtain⟨w,ew,w0,w1⟩:=xQ hl (i:=17+(i:Int)) (m:=9) Oz Uz Uz
  obtain⟨k,rfl⟩:=Int.eq_ofNat_of_zero_le q0
  have post:∀P' A',Inv (i+1) P' A'→BxOK (g (((i+1:Nat):Int),P',A')):=fun P' A' h=>hg _ ⟨rfl,h⟩
  unfold bkR
  rw[if_pos (decide_eq_true (by show(i:Int)<_;omega)),yg (show(9+(i:Int)).natAbs<_ by omega),Option.bind_some,eq,Option.bind_some,yg (show(13+(i:Int)).natAbs<_ by omega),Option.bind_some,eu,Option.bind_some,yg (show(u-4).natAbs<_ by omega),Option.bind_some,yg (show(17+(i:Int)).natAbs<_ by omega),Option.bind_some,ew,Option.bind_some,yg (show(w-4).natAbs<_ by omega),Option.bind_some]
  by_cases h:i=0
  ·rw[if_pos (decide_eq_true (by show(i:Int)=0;omega)),bk0_eq]
   exact bk1_ok hl hQ hq Oz hI post (r:=0) Uz (u:=0) (w:=0) ⟨by decide,by decide⟩
  ·rw[if_neg (by simp only[decide_eq_true_eq];omega)]
   exact bk1_ok hl hQ hq Oz hI post Oz ⟨by show(u-4).natAbs≤4;omega,by show(w-4).natAbs≤4;omega⟩
 ·rintro⟨x,P,A⟩ g ⟨rfl,hI⟩
  have hI:Inv (2+m) P A:=hI
  obtain⟨F,e,h1,h2⟩:=bkF_ok Oz hI (x:=((2+m:Nat):Int))
  unfold bkR
  rw[if_neg (by simp only[decide_eq_true_eq];omega)]
  refine⟨P,F,A,e,⟨?_,hI.pc,h1,h2,?_,fun v hv=>⟨tn1_v2 (hI.at' v hv).1,(hI.at' v hv).2⟩⟩⟩
  ·have:=hI.pl;omega
  ·have:=hI.pl;have:=hI.al;omega
theorem z8_ok{l:List Int}(hl:L64 l):BxOK (z8 l):=by
 obtain⟨a,ea,a0,a1⟩:=xQ hl (i:=0) (m:=5) Uz Uz Uz
 obtain⟨b,eb,b0,b1⟩:=xQ hl (i:=1) (m:=5) Uz Uz Uz
 have v:∀{i s:Int},0≤i→0≤s→s<5→∃r,z21 l i (4+s-1)=some r∧0≤r∧r≤7:=fun{i s} hi h0 h1=>by
  obtain⟨r,e,r0,r1⟩:=xQ hl (i:=i) (m:=4+s-1) hi Oz Oz
  exact⟨r,e,r0,by omega⟩
 obtain⟨c,ec,c0,c1⟩:=v (i:=2) Uz a0 a1
 obtain⟨d,ed,d0,d1⟩:=v (i:=3) Uz b0 b1
 obtain⟨f,ef,f0,f1⟩:=v (i:=4) Uz a0 a1
 obtain⟨h,eh,h0,h1⟩:=v (i:=5) Uz b0 b1
 obtain⟨j,ej,j0,j1⟩:=v (i:=6) Uz a0 a1
 obtain⟨k,ek,k0,k1⟩:=v (i:=7) Uz b0 b1
 obtain⟨Q,eQ,lQ,hQ⟩:=corners_ok (w:=4+a) (h:=4+b) (x:=1+c) (y:=1+d) (b:=1+f) (r:=1+h) (t:=1+j) (l:=1+k) Oz Oz Oz Oz Oz Oz Oz Oz
 obtain⟨w,ew,hw⟩:=z33_ok Oz hQ
 obtain⟨R,eR,lR,hR⟩:=corners4
 unfold z8
 rw[ea,Option.bind_some,yg (show(4+a).natAbs<_ by omega),Option.bind_some,eb,Option.bind_some,yg (show(4+b).natAbs<_ by omega),Option.bind_some,yg (show(4+a-1).natAbs<_ by omega),Option.bind_some,ec,Option.bind_some,yg (show(1+c).natAbs<_ by omega),Option.bind_some,yg (show(4+b-1).natAbs<_ by omega),Option.bind_some,ed,Option.bind_some,yg (show(1+d).natAbs<_ by omega),Option.bind_some,Option.bind_some,Option.bind_some,Option.bind_some,Option.bind_some,ef,Option.bind_some,yg (show(1+f).natAbs<_ by omega),Option.bind_some,eh,Option.bind_some,yg (show(1+h).natAbs<_ by omega),Option.bind_some,ej,Option.bind_some,yg (show(1+j).natAbs<_ by omega),Option.bind_some,ek,Option.bind_some,yg (show(1+k).natAbs<_ by omega),Option.bind_some,eQ,Option.bind_some,ew,Option.bind_some]
 cases w
 ·rw[if_pos Uz,eR,Option.bind_some]
  exact bkZ_ok hl lR hR
 ·rw[if_neg Uz]
  exact bkZ_ok hl lQ (hw rfl)
theorem z4_true{l m:List Int}{how by':Int}(hl:L64 l)(hm:L64 m)(hh:xG how)(hy:xG by'):z4 l how by' m=some true:=by
 obtain⟨P,F,A,e,h⟩:=z8_ok hl
 exact law_ok h e hm hh hy
end Go.Proofs.YtocnbjjmmgolfaaGreat
