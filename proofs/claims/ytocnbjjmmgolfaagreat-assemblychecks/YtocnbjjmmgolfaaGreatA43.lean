/- zQ law: both packages find the same pieces and fits right. -/
/- zQ law: the parts of a breakage, in both packages. -/
/- zQ law: both Checks say the same. -/
/- zQ law: numbers, turns and places made of numbers. -/
/- zQ law: fits that were bent stay small. -/
/- Functions as plain definitions (printed by spc.py). -/
import Derived.Test.YtocnbjjmmgolfaaGreatA42
import Derived.Test.YtocnbjjmmgolfaaGreatA13
import Derived.Test.YtocnbjjmmgolfaaGreatA40
namespace Go.Proofs.YtocnbjjmmgolfaaGreat
open Go Go.M Go.Proofs.C14
set_option linter.unusedSimpArgs false
set_option linter.unusedSectionVars false
def sgR(x:Rat):Int:=zV x.num 0
theorem sgR_ok{x:Rat}(h:Sm x):xe x=some (sgR x):=signG_ok h
theorem sgR_neg{x:Rat}:sgR x<0↔x<0:=by unfold sgR;rw[cmpI_neg,num_neg']
theorem sgR_0{x:Rat}:sgR x=0↔x=0:=by unfold sgR;rw[xD,Rat.num_eq_zero]
theorem sgR_pos{x:Rat}:0<sgR x↔0<x:=by
 have h1:= @sgR_neg x
 have h2:= @sgR_0 x
 constructor
 ·intro h
  rcases(Rat.le_total:x≤0∨0≤x)with g|g
  ·have:x<0∨x=0:=by
    by_cases e:x=0
    ·exact .inr e
    ·left;grind
   rcases this with e|e
   ·have:=h1.mpr e;omega
   ·have:=h2.mpr e;omega
  ·have:x≠0:=fun e=>by have:=h2.mpr e;omega
   grind
 ·intro h
  have a:¬sgR x<0:=fun q=>by have:=h1.mp q;grind
  have b:¬sgR x=0:=fun q=>by have:=h2.mp q;grind
  omega
theorem cmpQ_le{x y:Rat}:cmpQ x y≤0↔x≤y:=by
 have:= @cmpQ_pos x y
 rw[←Rat.not_lt,←this]
 omega
theorem QV.top{d B:Nat}{x:Rat}(h:QV d B x)(hd:0<d):x≤qI (B:Int):=by
 obtain⟨n,hn,hb⟩:=h
 refine Rat.not_lt.mp fun hc=>?_
 have hd':(0:Rat)<(d:Rat):=by exact_mod_cast hd
 have h1:qI (B:Int)*(d:Rat)<x*(d:Rat):=Rat.mul_lt_mul_of_pos_right hc hd'
 rw[hn]at h1
 have h2:(((B:Int)*(d:Int):Int):Rat)<(n:Rat):=by
  unfold qI at h1
  push_cast
  push_cast at h1
  exact h1
 have h3:((B:Int)*(d:Int))<n:=by exact_mod_cast h2
 have h4:((d*B:Nat):Int)=(B:Int)*(d:Int):=by push_cast;exact Int.mul_comm ..
 omega
theorem within_ok{a lo hi:Int}(h1:lo≤a)(h2:a≤hi):z238 a lo hi=some true∧z248 a lo hi=some true:=by
 unfold z238 z248
 rw[if_pos (decide_eq_true h1),decide_eq_true h2]
 exact⟨rfl,rfl⟩
theorem smQ(n:Int)(h:n.natAbs<100000:=by decide):Sm (qI n):=sm_qI (by unfold SmI;omega)
theorem qI_le{m n:Int}(h:m≤n):qI m≤qI n:=by unfold qI;exact_mod_cast h
theorem qI_lt{m n:Int}(h:m<n):qI m<qI n:=by unfold qI;exact_mod_cast h
section
variable{p:Pc}(hp:PcOK p)
include hp
theorem nums_ok:(∀y∈[p.2.2.2.2.2.1,p.2.2.2.2.2.2.1,p.2.2.2.2.2.2.2.1,p.2.2.2.2.2.2.2.2.1,p.2.2.2.2.2.2.2.2.2],Sm y∧0≤y)∧p.2.2.2.2.2.1≤qI 4∧p.2.2.2.2.2.2.1≤qI 1000∧p.2.2.2.2.2.2.2.1≤qI 1000∧p.2.2.2.2.2.2.2.2.2≤qI 4∧0<p.2.2.2.2.2.2.2.2.1:=by
 have s1:SB 4 2:=⟨by decide,by decide⟩
 have s2:SB 2 10:=⟨by decide,by decide⟩
 have t1:=hp.tol.1.top Uz
 have t2:=hp.light.1.top Uz
 have t3:=hp.heavy.1.top Uz
 have u1:qI 2≤qI 4:=qI_le Uz
 have u2:qI 10≤qI 1000:=qI_le Uz
 have l0:=hp.light.2
 have lh:=hp.heavy.2
 have q0:qI 0=0:=rfl
 have u3:qI 0<qI 100:=qI_lt Uz
 have u4:qI 1≤qI 4:=qI_le Uz
 have hf:Sm (Rat.divInt 1 2)∧0≤Rat.divInt 1 2∧Rat.divInt 1 2≤qI 4:=by
  refine⟨by decide,by decide,?_⟩
  have:Rat.divInt 1 2≤qI 1:=by unfold qI;decide
  exact Rat.le_trans this u4
 refine⟨fun y hy=>?_,Rat.le_trans t1 u1,Rat.le_trans t2 u2,Rat.le_trans t3 u2,by rw[hp.rough];exact hf.2.2,by rw[hp.strength];exact u3⟩
 simp only[List.mem_cons,List.not_mem_nil,or_false]at hy
 rcases hy with rfl|rfl|rfl|rfl|rfl
 ·exact⟨hp.tol.1.sm s1,hp.tol.2⟩
 ·exact⟨hp.light.1.sm s2,Rat.le_of_lt l0⟩
 ·exact⟨hp.heavy.1.sm s2,Rat.le_trans (Rat.le_of_lt l0) lh⟩
 ·rw[hp.strength];exact⟨smQ 100,Rat.le_of_lt u3⟩
 ·rw[hp.rough];exact⟨hf.1,hf.2.1⟩
theorem range_ok:z191 p=some true:=by
 obtain⟨l4,-,-,nr,-,-⟩:=rim_ok hp
 have hm:=hp.marks
 have l5:p.2.2.2.2.1.length=4:=by rw[hm];rfl
 have hz:∀y∈p.2.2.2.2.1,y=0:=by rw[hm];simp
 have hw:∀{a lo hi:Int},lo≤a→a≤hi→z238 a lo hi=some true:=fun h1 h2=>(within_ok h1 h2).1
 unfold z191
 generalize z238=W at hw ⊢
 generalize hlo:(-65536:Int)=lo
 generalize hhi:(65536:Int)=hi
 refine zi 4 (fun i x=>x=(i:Int)) (fun o=>o=_) Oz rfl ?_ ?_
 ·rintro i x g hi rfl hg
  have hi':i<p.2.2.1.length:=by omega
  have h:=nr _ (List.getElem_mem hi')
  obtain⟨h1,h2⟩:=h
  rw[if_pos (zr hi')]
  rw[zn hi',Option.bind_some]
  rw[hw Oz Oz]
  rw[Option.bind_some,if_neg Uz]
  rw[hw Oz Oz]
  rw[Option.bind_some,if_neg Uz,zl (show i<100000 by omega),Option.bind_some]
  exact hg _ rfl
 ·rintro x g rfl
  rw[if_neg (by simp only[decide_eq_true_eq];omega)]
  refine zi 4 (fun i x=>x=(i:Int)) (fun o=>o=_) Oz rfl ?_ ?_
  ·rintro i x g hi rfl hg
   have hi':i<p.2.2.2.2.1.length:=by omega
   have h0:p.2.2.2.2.1[i]=0:=hz _ (List.getElem_mem hi')
   rw[if_pos (zr hi')]
   rw[zn hi',Option.bind_some,h0]
   rw[hw Oz Oz]
   rw[Option.bind_some,if_neg Uz,zl (show i<100000 by omega),Option.bind_some]
   exact hg _ rfl
  ·rintro x g rfl
   rw[if_neg (by simp only[decide_eq_true_eq];omega),hw hp.id.1 hp.id.2]
   rw[Option.bind_some,if_pos rfl]
   rw[hw hp.home.1 hp.home.2]
   rfl
theorem pieceP_ok:z117 p=some 0:=by
 obtain⟨l4,-,r4,nr,-,v4⟩:=rim_ok hp
 obtain⟨hn,b1,-,b3,b4,b5⟩:=nums_ok hp
 have hm:=hp.marks
 have l5:p.2.2.2.2.1.length=4:=by rw[hm];rfl
 have hz:∀y∈p.2.2.2.2.1,y=0:=by rw[hm];simp
 have w4:=hp.worn
 unfold z117
 rw[range_ok hp]
 simp only[Option.bind_some,Bool.not_true,Bool.false_eq_true,if_false]
 rw[if_neg (by simp only[decide_eq_true_eq];omega),if_neg (by simp only[decide_eq_true_eq];omega),if_neg (by simp only[decide_eq_true_eq];omega)]
 unfold z192
 simp only[Option.bind_some]
 refine zi 5 (fun i x=>x=(i:Int)) (fun o=>o=_) Oz rfl ?_ ?_
 ·rintro i x g hi rfl hg
  have h:=hn _ (List.getElem_mem (show i<[p.2.2.2.2.2.1,p.2.2.2.2.2.2.1,p.2.2.2.2.2.2.2.1,p.2.2.2.2.2.2.2.2.1,p.2.2.2.2.2.2.2.2.2].length from hi))
  rw[if_pos (decide_eq_true Oz),zn (show i<[p.2.2.2.2.2.1,p.2.2.2.2.2.2.1,p.2.2.2.2.2.2.2.1,p.2.2.2.2.2.2.2.2.1,p.2.2.2.2.2.2.2.2.2].length from hi)]
  generalize [p.2.2.2.2.2.1,p.2.2.2.2.2.2.1,p.2.2.2.2.2.2.2.1,p.2.2.2.2.2.2.2.2.1,p.2.2.2.2.2.2.2.2.2][i]=y at *
  simp only[Option.bind_some,validG_ok h.1,sgR_ok h.1,Bool.not_true,Bool.false_eq_true,if_false]
  rw[if_neg (by simp only[decide_eq_true_eq,sgR_neg];exact Rat.not_lt.mpr h.2),zl (show i<100000 by omega)]
  exact hg _ rfl
 ·rintro x g rfl
  have q4:ofG 4 1=some (qI 4):=ofI Uz
  have q1000:ofG 1000 1=some (qI 1000):=ofI Uz
  have st:=(hn _ (show p.2.2.2.2.2.1∈_ by simp)).1
  have sl:=(hn _ (show p.2.2.2.2.2.2.1∈_ by simp)).1
  have sh:=(hn _ (show p.2.2.2.2.2.2.2.1∈_ by simp)).1
  have ss:=(hn _ (show p.2.2.2.2.2.2.2.2.1∈_ by simp)).1
  have sr:=(hn _ (show p.2.2.2.2.2.2.2.2.2∈_ by simp)).1
  rw[if_neg Uz]
  simp only[q4,q1000,Option.bind_some,yJ st (smQ 4),yJ sr (smQ 4),yJ sh (smQ 1000),yJ sl sh,sgR_ok sl,sgR_ok ss,cmpQ_le,sgR_pos,r4,v4]
  rw[if_pos (decide_eq_true b1),if_pos (decide_eq_true hp.light.2),if_pos (decide_eq_true hp.heavy.2)]
  rw[if_neg (by simp[b4]),if_neg (by simp[b3]),if_neg (by simp only[decide_eq_true_eq];have:=sgR_pos.mpr b5;omega)]
  rfl
omit hp in
theorem betw_ok{x:Rat}{n:Int}(hs:Sm x)(h0:0≤x)(hn:x≤qI n)(h:n.natAbs<100000):z249 x n=some true:=by
 have h1:¬sgR x<0:=fun q=>absurd (sgR_neg.mp q) (Rat.not_lt.mpr h0)
 unfold z249
 rw[validG_ok hs]
 simp only[Option.bind_some,if_true]
 rw[sgR_ok hs,Option.bind_some,if_pos (decide_eq_true Oz),ofI Oz,Option.bind_some,yJ hs (smQ n h),Option.bind_some,decide_eq_true (cmpQ_le.mpr hn)]
theorem pieceR_ok:z206 p=some 0:=by
 obtain⟨l4,r4,-,nr,v4,-⟩:=rim_ok hp
 obtain⟨hn,b1,b2,b3,b4,b5⟩:=nums_ok hp
 have hm:=hp.marks
 have l5:p.2.2.2.2.1.length=4:=by rw[hm];rfl
 have hz:∀y∈p.2.2.2.2.1,y=0:=by rw[hm];simp
 have w4:=hp.worn
 have hw:∀{a lo hi:Int},lo≤a→a≤hi→z248 a lo hi=some true:=fun h1 h2=>(within_ok h1 h2).2
 unfold z206
 generalize z248=W at hw ⊢
 generalize hlo:(-65536:Int)=lo
 generalize hhi:(65536:Int)=hi
 rw[hw hp.id.1 hp.id.2]
 simp only[Option.bind_some,if_true]
 rw[hw hp.home.1 hp.home.2]
 simp only[Option.bind_some]
 refine zi 4 (fun i x=>x=(true,(i:Int))) (fun o=>o=_) Oz rfl ?_ ?_
 ·rintro i x g hi rfl hg
  have hi':i<p.2.2.1.length:=by omega
  have h:=nr _ (List.getElem_mem hi')
  obtain⟨h1,h2⟩:=h
  rw[if_pos (zr hi'),if_pos rfl]
  rw[zn hi',Option.bind_some,hw Oz Oz,Option.bind_some,if_pos rfl,Option.bind_some,hw Oz Oz,Option.bind_some,zl (show i<100000 by omega),Option.bind_some]
  exact hg _ rfl
 ·rintro x g rfl
  rw[if_neg (by simp only[decide_eq_true_eq];omega)]
  refine zi 4 (fun i x=>x=(true,(i:Int))) (fun o=>o=_) Oz rfl ?_ ?_
  ·rintro i x g hi rfl hg
   have hi':i<p.2.2.2.2.1.length:=by omega
   have h0:p.2.2.2.2.1[i]=0:=hz _ (List.getElem_mem hi')
   rw[if_pos (zr hi'),if_pos rfl]
   rw[zn hi',Option.bind_some,h0,hw Oz Oz,Option.bind_some,zl (show i<100000 by omega),Option.bind_some]
   exact hg _ rfl
  ·rintro x g rfl
   have st:=(hn _ (show p.2.2.2.2.2.1∈_ by simp))
   have sl:=(hn _ (show p.2.2.2.2.2.2.1∈_ by simp))
   have sh:=(hn _ (show p.2.2.2.2.2.2.2.1∈_ by simp))
   have ss:=(hn _ (show p.2.2.2.2.2.2.2.2.1∈_ by simp))
   have sr:=(hn _ (show p.2.2.2.2.2.2.2.2.2∈_ by simp))
   rw[if_neg (by simp only[decide_eq_true_eq];omega)]
   simp only[Bool.not_true,Bool.false_eq_true,if_false]
   rw[if_neg (by simp only[decide_eq_true_eq];omega),if_neg (by simp only[decide_eq_true_eq];omega),if_neg (by simp only[decide_eq_true_eq];omega),r4]
   simp only[Option.bind_some,v4,Bool.not_true,Bool.false_eq_true,if_false,betw_ok st.1 st.2 b1 Uz,betw_ok sr.1 sr.2 b4 Uz,betw_ok sl.1 sl.2 b2 Uz,betw_ok sh.1 sh.2 b3 Uz,validG_ok ss.1,sgR_ok sl.1,sgR_ok ss.1,yJ sl.1 sh.1]
   have e1:=sgR_pos.mpr hp.light.2
   have e2:=sgR_pos.mpr b5
   have e3:=cmpQ_le.mpr hp.heavy.2
   rw[if_neg (by simp only[decide_eq_true_eq];omega),if_neg (by simp only[decide_eq_true_eq];omega),if_neg (by simp only[decide_eq_true_eq];omega)]
end
def uniB(t:Rat×Rat):Bool:=decide (t.1*t.1+t.2*t.2=1)
theorem uni_ok{d:Nat}{t:Rat×Rat}(hd:Kd d)(h:V2 d 12 t):z63 t=some (uniB t)∧z54 t=some (uniB t):=by
 have s:=hd.s0 (B:=12) Uz
 have m1:=h.1.mul h.1
 have m2:=h.2.mul h.2
 have s2:SB (d*d) 288:=by
  have:=hd.s2 (c:=1) (B:=288) Uz
  rw[Nat.mul_one]at this
  exact this
 have n1:=(m1.le (C:=288) Uz).sm s2
 have n2:=(m2.le (C:=288) Uz).sm s2
 have n3:=(m1.add m2).sm s2
 have q1:ofG 1 1=some (qI 1):=ofI Uz
 unfold z63 z54
 simp only[validG_ok (h.1.sm s),validG_ok (h.2.sm s),Option.bind_some,if_true,Bool.not_true,Bool.false_eq_true,if_false,yU (h.1.sm s) (h.1.sm s),yU (h.2.sm s) (h.2.sm s),z121_twoQ n1 n2,yr n1 n2,q1,sameG_ok n3 (smQ 1)]
 exact⟨rfl,rfl⟩
def TuOK(f:Fq):Prop:=∃d,Kd d∧V2 d 1 f.2.2.2.2.2.1∧uniB f.2.2.2.2.2.1=true
def qh(n:Nat)(F:List Fq):Bool:=F.all fun f=>decide (0≤f.1∧f.1<f.2.1∧f.2.1<n)
def strB(f:Fq):Bool:=decide ((0≤f.2.2.1∧f.2.2.1<4)∧(0≤f.2.2.2.1∧f.2.2.2.1<4)∧(1≤f.2.2.2.2.1∧f.2.2.2.2.1<4))
theorem tu_ok{f:Fq}(h:TuOK f):z63 f.2.2.2.2.2.1=some true∧z54 f.2.2.2.2.2.1=some true:=by
 obtain⟨d,hd,h1,h2⟩:=h
 have:=uni_ok hd ⟨h1.1.le Uz,h1.2.le Uz⟩
 rw[h2]at this
 exact this
theorem all_take{α:Type}{P:α→Bool}{l:List α}{i:Nat}(hi:i<l.length)(h:(l.take i).all P=true)(g:P l[i]=true):(l.take (i+1)).all P=true:=by
 rw[xH hi,List.all_append,h,List.all_cons,g]
 rfl
theorem all_not{α:Type}{P:α→Bool}{l:List α}{i:Nat}(hi:i<l.length)(g:P l[i]=false):l.all P=false:=by
 rw[←Bool.not_eq_true,List.all_eq_true]
 intro h
 rw[h _ (List.getElem_mem hi)]at g
 exact absurd g Uz
section
variable{n:Nat}{F:List Fq}(hF:F.length≤6)(ht:∀f∈F,TuOK f)
include hF ht
theorem right_eq:z44 (n:Int) F=some (qh n F)∧z15 (n:Int) F=some (qh n F):=by
 unfold z44 z15
 constructor
 ·refine zi F.length (fun i x=>x=(i:Int)∧qh n (F.take i)=true) (fun o=>o=_) Oz ⟨rfl,rfl⟩ ?_ ?_
  ·rintro i x g hi ⟨rfl,hr⟩ hg
   rw[if_pos (zr hi)]
   simp only[zn hi,Option.bind_some,(tu_ok (ht _ (List.getElem_mem hi))).1,Bool.not_true,Bool.false_eq_true,if_false,zl (show i<100000 by omega),show decide ((0:Int)≤(i:Int))=true from decide_eq_true Oz]
   by_cases c:0≤F[i].1∧F[i].1<F[i].2.1∧F[i].2.1<n
   ·rw[if_neg (by simp only[decide_eq_true_eq];omega),if_neg (by simp only[decide_eq_true_eq];omega),if_neg (by simp only[decide_eq_true_eq];omega)]
    exact hg _ ⟨rfl,all_take hi hr (decide_eq_true c)⟩
   ·rw[show qh n F=false from all_not hi (decide_eq_false c)]
    by_cases c1:F[i].1<0
    ·rw[if_pos (decide_eq_true c1)]
    rw[if_neg (by simp only[decide_eq_true_eq];omega)]
    by_cases c2:F[i].2.1≤F[i].1
    ·rw[if_pos (decide_eq_true c2)]
    rw[if_neg (by simp only[decide_eq_true_eq];omega),if_pos (decide_eq_true Oz)]
  ·rintro x g ⟨rfl,hr⟩
   rw[if_neg Y8]
   rw[List.take_length]at hr
   rw[hr]
 ·refine zi F.length (fun i x=>x=(i:Int)∧qh n (F.take i)=true) (fun o=>o=_) Oz ⟨rfl,rfl⟩ ?_ ?_
  ·rintro i x g hi ⟨rfl,hr⟩ hg
   rw[if_pos (zr hi)]
   simp only[zn hi,Option.bind_some,(tu_ok (ht _ (List.getElem_mem hi))).2,Bool.not_true,Bool.false_eq_true,if_false,zl (show i<100000 by omega)]
   by_cases c:0≤F[i].1∧F[i].1<F[i].2.1∧F[i].2.1<n
   ·rw[if_neg (by simp only[decide_eq_true_eq];omega),if_neg (by simp only[decide_eq_true_eq];omega),if_neg (by simp only[decide_eq_true_eq];omega)]
    exact hg _ ⟨rfl,all_take hi hr (decide_eq_true c)⟩
   ·rw[show qh n F=false from all_not hi (decide_eq_false c)]
    by_cases c1:F[i].1<0
    ·rw[if_pos (decide_eq_true c1)]
    rw[if_neg (by simp only[decide_eq_true_eq];omega)]
    by_cases c2:F[i].2.1≤F[i].1
    ·rw[if_pos (decide_eq_true c2)]
    rw[if_neg (by simp only[decide_eq_true_eq];omega),if_pos (decide_eq_true Oz)]
  ·rintro x g ⟨rfl,hr⟩
   rw[if_neg Y8]
   rw[List.take_length]at hr
   rw[hr]
omit ht in
theorem strP_ok{P:List Pc}(hP:P.length=n)(hp:∀p∈P,PcOK p)(hr:qh n F=true):z119 P F=some (F.all strB):=by
 unfold z119
 refine zi F.length (fun i x=>x=(i:Int)∧(F.take i).all strB=true) (fun o=>o=_) Oz ⟨rfl,rfl⟩ ?_ ?_
 ·rintro i x g hi ⟨rfl,hs⟩ hg
  have h0:=of_decide_eq_true (List.all_eq_true.mp hr _ (List.getElem_mem hi))
  obtain⟨pa,hpa,ipa⟩:=xi (l:=P) h0.1 Oz
  obtain⟨pb,hpb,ipb⟩:=xi (l:=P) (a:=F[i].2.1) Oz Oz
  have la:=(rim_ok (hp _ hpa)).1
  have lb:=(rim_ok (hp _ hpb)).1
  rw[if_pos (zr hi)]
  simp only[zn hi,Option.bind_some,ipa,ipb,la,lb,zl (show i<100000 by omega),show min ((4:Nat):Int) ((4:Nat):Int)=4 from rfl,show((4:Nat):Int)=4 from rfl]
  by_cases c:strB F[i]=true
  ·have c':=of_decide_eq_true c
   rw[if_neg (by simp only[decide_eq_true_eq];omega),if_neg (by simp only[decide_eq_true_eq];omega),if_neg (by simp only[decide_eq_true_eq];omega),if_neg (by simp only[decide_eq_true_eq];omega),if_neg (by simp only[decide_eq_true_eq];omega),if_neg (by simp only[decide_eq_true_eq];omega)]
   exact hg _ ⟨rfl,all_take hi hs c⟩
  ·rw[show F.all strB=false from all_not hi (by simpa using c)]
   have c':¬((0≤F[i].2.2.1∧F[i].2.2.1<4)∧(0≤F[i].2.2.2.1∧F[i].2.2.2.1<4)∧(1≤F[i].2.2.2.2.1∧F[i].2.2.2.2.1<4)):=fun q=>c (decide_eq_true q)
   by_cases c1:F[i].2.2.1<0
   ·rw[if_pos (decide_eq_true c1)]
   rw[if_neg (by simp only[decide_eq_true_eq];omega)]
   by_cases c2:4≤F[i].2.2.1
   ·rw[if_pos (decide_eq_true c2)]
   rw[if_neg (by simp only[decide_eq_true_eq];omega)]
   by_cases c3:F[i].2.2.2.1<0
   ·rw[if_pos (decide_eq_true c3)]
   rw[if_neg (by simp only[decide_eq_true_eq];omega)]
   by_cases c4:4≤F[i].2.2.2.1
   ·rw[if_pos (decide_eq_true c4)]
   rw[if_neg (by simp only[decide_eq_true_eq];omega)]
   by_cases c5:F[i].2.2.2.2.1<1
   ·rw[if_pos (decide_eq_true c5)]
   rw[if_neg (by simp only[decide_eq_true_eq];omega),if_pos (decide_eq_true Oz)]
 ·rintro x g ⟨rfl,hr⟩
  rw[if_neg Y8]
  rw[List.take_length]at hr
  rw[hr]
omit hF ht in
theorem strR_ok{a b:Pc}{f:Fq}(la:a.2.2.1.length=4)(lb:b.2.2.1.length=4):z171 a b f=some (strB f):=by
 unfold z171
 rw[la,lb]
 simp only[show((4:Nat):Int)=4 from rfl]
 by_cases c:strB f=true
 ·have c':=of_decide_eq_true c
  rw[c,if_pos (decide_eq_true c'.1.1),if_pos (decide_eq_true c'.1.2),if_pos (decide_eq_true c'.2.1.1),if_pos (decide_eq_true c'.2.1.2),if_pos (decide_eq_true c'.2.2.1),if_pos (decide_eq_true c'.2.2.2),decide_eq_true c'.2.2.2]
 ·have c':¬((0≤f.2.2.1∧f.2.2.1<4)∧(0≤f.2.2.2.1∧f.2.2.2.1<4)∧(1≤f.2.2.2.2.1∧f.2.2.2.2.1<4)):=fun q=>c (decide_eq_true q)
  rw[show strB f=false by simpa using c]
  repeat' split
  all_goals (try rfl)
  all_goals (rename_i h1 h2 h3 h4 h5 h6;simp only[decide_eq_true_eq]at *;exact absurd ⟨⟨h1,h2⟩,⟨h3,h4⟩,h5,h6⟩ c')
theorem error_eq{P:List Pc}(hP:P.length=n)(hn:n≤4)(hp:∀p∈P,PcOK p):z61 P F=some (if (qh n F&&F.all strB)=true then 0 else 1)∧z71 P F=some (if (qh n F&&F.all strB)=true then 0 else 1):=by
 obtain⟨r1,r2⟩:=right_eq (n:=n) hF ht
 have bad:∀p∈P,z116 p=some false:=fun p h=>by unfold z116;rw[pieceP_ok (hp p h)];rfl
 constructor
 ·unfold z61
  rw[if_neg (by simp only[decide_eq_true_eq];omega),if_neg (by simp only[decide_eq_true_eq];omega)]
  refine zi P.length (fun i x=>x=(i:Int)) (fun o=>o=_) Oz rfl ?_ ?_
  ·rintro i x g hi rfl hg
   rw[if_pos (zr hi)]
   simp only[zn hi,Option.bind_some,bad _ (List.getElem_mem hi),Bool.false_eq_true,if_false,zl (show i<100000 by omega)]
   exact hg _ rfl
  ·rintro x g rfl
   rw[if_neg Y8,hP,r1]
   simp only[Option.bind_some]
   cases hr:qh n F
   ·rfl
   ·rw[if_neg Uz,strP_ok hF hP hp hr]
    cases F.all strB<;>rfl
 ·unfold z71
  rw[if_neg (by simp only[decide_eq_true_eq];omega),if_neg (by simp only[decide_eq_true_eq];omega)]
  have:z132 P F=some (qh n F&&F.all strB):=by
   unfold z132
   refine zi P.length (fun i x=>x=(i:Int)) (fun o=>o=_) Oz rfl ?_ ?_
   ·rintro i x g hi rfl hg
    rw[if_pos (zr hi)]
    simp only[zn hi,Option.bind_some,pieceR_ok (hp _ (List.getElem_mem hi)),zl (show i<100000 by omega)]
    rw[if_neg Uz]
    exact hg _ rfl
   ·rintro x g rfl
    rw[if_neg Y8,hP,r2]
    simp only[Option.bind_some]
    cases hr:qh n F
    ·rfl
    rw[if_neg Uz,Bool.true_and]
    refine zi F.length (fun i x=>x=(i:Int)∧(F.take i).all strB=true) (fun o=>o=_) Oz ⟨rfl,rfl⟩ ?_ ?_
    ·rintro i x g hi ⟨rfl,hs⟩ hg
     have h0:=of_decide_eq_true (List.all_eq_true.mp hr _ (List.getElem_mem hi))
     obtain⟨pa,hpa,ipa⟩:=xi (l:=P) h0.1 Oz
     obtain⟨pb,hpb,ipb⟩:=xi (l:=P) (a:=F[i].2.1) Oz Oz
     rw[if_pos (zr hi)]
     simp only[zn hi,Option.bind_some,ipa,ipb,strR_ok (rim_ok (hp _ hpa)).1 (rim_ok (hp _ hpb)).1,zl (show i<100000 by omega)]
     cases c:strB F[i]
     ·rw[show F.all strB=false from all_not hi c];rfl
     ·exact hg _ ⟨rfl,all_take hi hs c⟩
    ·rintro x g ⟨rfl,hr⟩
     rw[if_neg Y8]
     rw[List.take_length]at hr
     rw[hr]
  rw[this]
  cases (qh n F&&F.all strB)<;>rfl
end
end Go.Proofs.YtocnbjjmmgolfaaGreat
namespace Go.Proofs.YtocnbjjmmgolfaaGreat
open Go Go.M Go.Proofs.C14
set_option linter.unusedSimpArgs false
set_option linter.unusedSectionVars false
def BdQ(q:Rat)(N M:Nat):Prop:=q.num.natAbs≤N∧q.den≤M
def qc(d:Fq):Prop:=xG d.1∧xG d.2.1∧Tn 25 d.2.2.2.2.2.1∧BdQ d.2.2.2.2.2.1.1 25 25∧BdQ d.2.2.2.2.2.1.2 25 25∧BdQ d.2.2.2.2.2.2.1.1 1000000 1000∧BdQ d.2.2.2.2.2.2.1.2 1000000 1000∧BdQ d.2.2.2.2.2.2.2.1 1000000 1000∧BdQ d.2.2.2.2.2.2.2.2 1000000 1000
def ends(F:List Fq)(k:Nat):Int×Int:=((F.getD k default).1,(F.getD k default).2.1)
def nats(r:List Nat):List Int:=r.map fun(k:Nat)=>(k:Int)
def resW:Option (List Nat)→List Int×Bool
 |some r=>(nats r,true)
 |none=>([],false)
theorem dfs_len{e:Nat→Int×Int}{tr:List Nat}:∀{f:Nat} {v w l:Int} {r:List Nat},dfs e tr f v w l=some r→r.length≤f
 |0,_,_,_,_,h=>by cases h
 |f+1,v,w,l,r,h=>by
  rw[dfs]at h
  split at h
  ·cases h;simp
  ·obtain⟨k,_,h⟩:=List.exists_of_findSome?_eq_some h
   split at h
   ·cases h
   ·cases hd:dfs e tr f (oth e k v) w k with
    |none=>rw[hd]at h;cases h
    |some r'=>
     rw[hd]at h
     obtain rfl:=(Option.some.inj h).symm
     have:=dfs_len hd
     simp only[List.length_cons]
     omega
section
variable{n:Nat}{F:List Fq}(hE:∀f∈F,0≤f.1∧f.1<f.2.1∧f.2.1<(n:Int))(hn:n≤4)
theorem ends_at{k:Nat}(hk:k<F.length):idx F (k:Int)=some F[k]∧ends F k=(F[k].1,F[k].2.1):=by
 refine⟨zn hk,?_⟩
 unfold ends
 rw[List.getD_eq_getElem?_getD,List.getElem?_eq_getElem hk]
 rfl
include hE hn in
theorem pB_ok{tr:List Nat}(hlt:∀k∈tr,k<F.length)(h6:tr.length≤6){f:Nat}(h7:f≤7){P:List Fq→List Int→Int→Int→Int→Option (List Int×Bool)}
  (hP:∀v w l,Tm (ends F) tr f v l→P F (nats tr) v w l=some (resW (dfs (ends F) tr f v w l))) (v w l:Int) (ht:Tm (ends F) tr (f+1) v l) :
  pB P F (nats tr) v w l=some (resW (dfs (ends F) tr (f+1) v w l)):=by
 unfold pB
 rw[dfs]
 by_cases hvw:v=w
 ·rw[if_pos (decide_eq_true hvw),if_pos hvw];rfl
 rw[if_neg (by rw[decide_eq_true_eq];exact hvw),if_neg hvw]
 generalize hG:(fun(k:Nat)=>if (k:Int)=l∨¬Inc (ends F) k v then none else(dfs (ends F) tr f (oth (ends F) k v) w k).map (k::·))=G
 have nl:(nats tr).length=tr.length:=List.length_map _
 refine zi tr.length (fun i (x:Int)=>x=(i:Int)∧tr.findSome? G=(tr.drop i).findSome? G) (fun o=>o=some (resW (tr.findSome? G))) Oz ⟨rfl,rfl⟩ ?_ ?_
 ·rintro i x g hi ⟨rfl,hd⟩ hg
  have hk:tr[i]<F.length:=hlt _ (List.getElem_mem hi)
  obtain⟨e1,e2⟩:=ends_at hk
  have ei:idx (nats tr) (i:Int)=some ((tr[i]:Nat):Int):=by
   rw[zn Oz]
   congr 1
   simp only[nats,List.getElem_map]
  have hb:=hE _ (List.getElem_mem hk)
  rw[List.drop_eq_getElem_cons hi,List.findSome?_cons]at hd
  have next:G tr[i]=none→((i64 ((i:Int)+1)).bind fun n5=>g n5)=some (resW (tr.findSome? G)):=fun h=>by
   rw[zl Oz,Option.bind_some]
   rw[h]at hd
   exact hg _ ⟨rfl,hd⟩
  rw[if_pos (by rw[nl];exact zr hi),ei,Option.bind_some,e1,Option.bind_some,Option.bind_some]
  by_cases hl:(tr[i]:Int)=l
  ·rw[if_pos (decide_eq_true hl)]
   exact next (by rw[←hG];exact if_pos (.inl hl))
  rw[if_neg (by rw[decide_eq_true_eq];exact hl)]
  have call:Inc (ends F) tr[i] v→((i64 (F[tr[i]].1+F[tr[i]].2.1)).bind fun n14=>((i64 (n14-v)).bind fun n15=>((some ((tr[i]:Nat):Int)).bind fun x16=>((P F (nats tr) n15 w x16).bind fun r17=>(if r17.2=true then((some ((tr[i]:Nat):Int)).bind fun x18=>((app [x18] r17.1).bind fun l19=>some (l19,true)))else((i64 ((i:Int)+1)).bind fun n20=>g n20))))))=some (resW (tr.findSome? G)):=by
   intro hc
   have ho:F[tr[i]].1+F[tr[i]].2.1-v=oth (ends F) tr[i] v:=by unfold oth;rw[e2]
   have hv:F[tr[i]].1=v∨F[tr[i]].2.1=v:=by unfold Inc at hc;rw[e2]at hc;exact hc
   have hg2:G tr[i]=(dfs (ends F) tr f (oth (ends F) tr[i] v) w tr[i]).map (tr[i]::·):=by rw[←hG];exact if_neg fun h=>h.elim hl fun q=>q hc
   rw[yF Oz,Option.bind_some,yF Oz,Option.bind_some,Option.bind_some,ho,hP _ _ _ (ht _ (List.getElem_mem hi) hl hc),Option.bind_some]
   cases hr:dfs (ends F) tr f (oth (ends F) tr[i] v) w tr[i]with
   |none=>
    rw[hr]at hg2
    rw[if_neg (by simp[resW])]
    exact next hg2
   |some r=>
    rw[hr]at hg2
    rw[show G tr[i]=some (tr[i]::r)from hg2]at hd
    have:=dfs_len hr
    have nr:(nats r).length=r.length:=List.length_map _
    rw[if_pos (by rfl),Option.bind_some,show(resW (some r)).1=nats r from rfl,zN (by simp only[List.length_cons,List.length_nil];omega),Option.bind_some,hd]
    rfl
  by_cases h1:F[tr[i]].1=v
  ·rw[if_neg (by rw[decide_eq_true_eq];exact fun h=>h h1)]
   exact call (by unfold Inc;rw[e2];exact .inl h1)
  rw[if_pos (by rw[decide_eq_true_eq];exact h1)]
  by_cases h2:F[tr[i]].2.1=v
  ·rw[if_neg (by rw[decide_eq_true_eq];exact fun h=>h h2)]
   exact call (by unfold Inc;rw[e2];exact .inr h2)
  rw[if_pos (by rw[decide_eq_true_eq];exact h2)]
  exact next (by rw[←hG];exact if_pos (.inr fun h=>by unfold Inc at h;rw[e2]at h;exact h.elim h1 h2))
 ·rintro x g ⟨rfl,hd⟩
  rw[if_neg (by rw[nl];simp),hd,List.drop_length]
  rfl
include hE hn in
theorem p7_ok{tr:List Nat}(hF:Fo (ends F) tr)(hlt:∀k∈tr,k<F.length)(h6:tr.length≤6)(v w:Int):p7 F (nats tr) v w (-1)=some (resW (way (ends F) tr v w)):=by
 have s:=fun f h7 P hP=> @pB_ok n F hE hn tr hlt h6 f h7 P hP
 have h1:=s 0 Uz p0 fun _ _ _ h=>h.elim
 have h2:=s 1 Uz p1 h1
 have h3:=s 2 Uz p2 h2
 have h4:=s 3 Uz p3 h3
 have h5:=s 4 Uz p4 h4
 have h6':=s 5 Uz p5 h5
 have h7:=s 6 Uz p6 h6'
 have tm:=hF.tm v (-1)
 unfold way
 rw[←dfs_le (show tr.length+1≤7 by omega) tm]
 exact h7 _ _ _ (tm.le Oz)
include hE hn in
theorem tree_ok(h6:F.length≤6):z49 F=some (nats (trees (ends F) F.length)):=by
 unfold z49
 refine zi F.length (fun i (x:Int×List Int)=>x=((i:Int),nats (trees (ends F) i))) (fun o=>o=some (nats (trees (ends F) F.length))) Oz rfl ?_ ?_
 ·rintro i x g hi rfl hg
  obtain⟨e1,e2⟩:=ends_at hi
  have hl:=trees_len (e:=ends F) i
  have nl:(nats (trees (ends F) i)).length=(trees (ends F) i).length:=List.length_map _
  have hp:=p7_ok hE hn (trees_fo i) (fun k hk=>by have:=trees_lt (e:=ends F) i k hk;omega) Oz F[i].1 F[i].2.1
  dsimp only
  rw[if_pos (zr hi),e1,Option.bind_some,Option.bind_some,hp,Option.bind_some]
  have ht:=trees.eq_2 (ends F) i
  rw[e2]at ht
  cases hw:way (ends F) (trees (ends F) i) F[i].1 F[i].2.1 with
  |none=>
   rw[hw,if_neg Uz]at ht
   rw[if_pos (by rfl),zN (by simp only[List.length_cons,List.length_nil];omega),Option.bind_some,zl Oz,Option.bind_some]
   refine hg _ ?_
   rw[ht,nats,nats,List.map_append]
   rfl
  |some r=>
   rw[hw,if_pos (show(some r).isSome=true from rfl)]at ht
   rw[if_neg (by simp[resW]),zl Oz,Option.bind_some]
   exact hg _ (by rw[ht])
 ·rintro x g rfl
  dsimp only
  rw[if_neg Y8]
include hE hn in
theorem partsR_ok(h6:F.length≤6):z16 (n:Int) F=some (roots (ends F) n F.length):=by
 have hro:RootsOf (ends F) n (trees (ends F) F.length) (roots (ends F) n F.length):=roots_of fun k hk=>by
  rw[(ends_at hk).2];exact hE _ (List.getElem_mem hk)
 have hfo:=trees_fo (e:=ends F) F.length
 have hl:=trees_len (e:=ends F) F.length
 have hlt:=trees_lt (e:=ends F) F.length
 unfold z16
 rw[tree_ok hE hn h6,Option.bind_some]
 generalize roots (ends F) n F.length=R at *
 generalize trees (ends F) F.length=T at *
 have hR:=hro.len
 refine zi n (fun i (x:Int×List Int)=>x=((i:Int),R.take i)) (fun o=>o=some R) Oz rfl ?_ ?_
 ·rintro i x g hi rfl hg
  dsimp only
  rw[if_pos (zr hi)]
  refine zi (i+1) (fun j (x:Int×Int)=>x=(lst (ends F) T i j,(i:Int)-j)) (fun o=>o=some R) Oz (by simp[lst]) ?_ ?_
  ·rintro j x g' hj rfl hg'
   dsimp only
   rw[if_pos (by rw[decide_eq_true_eq];omega),p7_ok hE hn hfo hlt Oz,Option.bind_some,yF Oz,Option.bind_some,Option.bind_some]
   have e:(i:Int)-j-1=(i:Int)-((j+1:Nat):Int):=by omega
   cases hw:way (ends F) T ((i:Int)-j) i with
   |none=>
    rw[if_neg (by simp[resW])]
    exact hg' _ (by rw[lst,hw,if_neg Uz,e])
   |some r=>
    rw[if_pos (by rfl)]
    exact hg' _ (by rw[lst,hw,if_pos (show(some r).isSome=true from rfl),e])
  ·rintro x g' rfl
   dsimp only
   rw[if_neg (by rw[decide_eq_true_eq];omega),lst_root hfo hro hi,zN (by rw[List.length_take];simp only[List.length_cons,List.length_nil];omega),Option.bind_some,zl Oz,Option.bind_some]
   exact hg _ (by rw[take_getD Oz])
 ·rintro x g rfl
  dsimp only
  rw[if_neg Y8,List.take_of_length_le Oz]
theorem ren_ok{l:List Int}(h0:0<l.length)(h4:l.length≤4)(a b:Int):z55 l a b=some (l.map fun x=>if x=a then b else x):=by
 unfold z55
 rw[if_pos h0,zN (by simp only[List.length_nil];omega),Option.bind_some,List.nil_append]
 refine zi l.length (fun i (x:Int×List Int)=>x=((i:Int),(l.take i).map (fun x=>if x=a then b else x)++l.drop i)) (fun o=>o=some (l.map fun x=>if x=a then b else x)) Oz Y8 ?_ ?_
 ·rintro i x g hi rfl hg
  dsimp only
  have hd:=List.drop_eq_getElem_cons hi
  have hli:((l.take i).map (fun x=>if x=a then b else x)).length=i:=by rw[List.length_map,List.length_take];omega
  have hlen:i<((l.take i).map (fun x=>if x=a then b else x)++l.drop i).length:=by rw[List.length_append,hli,List.length_drop];omega
  have ht:l.take (i+1)=l.take i++[l[i]]:=(List.take_append_getElem hi).symm
  rw[if_pos (zr hi),zn hi,Option.bind_some]
  by_cases c:l[i]=a
  ·rw[if_pos (decide_eq_true c),zn hlen,Option.bind_some,Option.bind_some,zl Oz,Option.bind_some,yE,Int.toNat_natCast]
   refine hg _ ?_
   rw[ht,List.map_append,List.map_cons,if_pos c,hd,List.set_append_right _ _ Oz,hli,Nat.sub_self]
   simp
   rw[hd]
   rfl
  ·rw[if_neg (by rw[decide_eq_true_eq];exact c),zl Oz,Option.bind_some]
   refine hg _ ?_
   rw[ht,List.map_append,List.map_cons,if_neg c,hd]
   simp
 ·rintro x g rfl
  dsimp only
  rw[if_neg Y8,List.take_length,List.drop_length,List.append_nil]
include hE hn in
theorem partsP_ok(h6:F.length≤6)(hr:z44 (n:Int) F=some true):z17 (n:Int) F=some (roots (ends F) n F.length):=by
 unfold z17
 rw[if_neg (by rw[decide_eq_true_eq];omega),if_neg (by rw[decide_eq_true_eq];omega),hr,Option.bind_some,if_neg Uz]
 refine zi n (fun i (x:Int×List Int)=>x=((i:Int),(List.range i).map fun(i:Nat)=>(i:Int))) (fun o=>o=some (roots (ends F) n F.length)) Oz rfl ?_ ?_
 ·rintro i x g hi rfl hg
  dsimp only
  rw[if_pos (zr hi),zN (by simp;omega),Option.bind_some,zl Oz,Option.bind_some]
  exact hg _ (by rw[List.range_succ,List.map_append];rfl)
 ·rintro x g rfl
  dsimp only
  rw[if_neg Y8]
  refine zi F.length (fun i (x:List Int×Int)=>x=(roots (ends F) n i,(i:Int))) (fun o=>o=some (roots (ends F) n F.length)) Oz rfl ?_ ?_
  ·rintro i x g' hi rfl hg'
   obtain⟨e1,e2⟩:=ends_at hi
   have hb:=hE _ (List.getElem_mem hi)
   have hro:RootsOf (ends F) n (trees (ends F) i) (roots (ends F) n i):=roots_of fun k hk=>by
    rw[(ends_at (show k<F.length by omega)).2];exact hE _ (List.getElem_mem _)
   have hlen:=hro.len
   have hrs:=roots.eq_2 (ends F) n i
   rw[e2]at hrs
   unfold merge at hrs
   dsimp only at hrs ⊢
   generalize roots (ends F) n i=R at *
   obtain⟨a,ha⟩:∃a:Nat,F[i].1=a:=⟨F[i].1.toNat,by omega⟩
   obtain⟨b,hb'⟩:∃b:Nat,F[i].2.1=b:=⟨F[i].2.1.toNat,by omega⟩
   rw[ha,hb',Int.toNat_natCast,Int.toNat_natCast]at hrs
   rw[if_pos (zr hi),e1,Option.bind_some,ha,hb',yx Oz,yx Oz,Option.bind_some,Option.bind_some,ren_ok Oz Oz,Option.bind_some,zl Oz,Option.bind_some]
   exact hg' _ (by rw[hrs])
  ·rintro x g' rfl
   dsimp only
   rw[if_neg Y8]
end
end Go.Proofs.YtocnbjjmmgolfaaGreat
namespace Go.Proofs.YtocnbjjmmgolfaaGreat
open Go Go.M Go.Proofs.C14
set_option linter.unusedSimpArgs false
set_option linter.unusedSectionVars false
theorem tn_qv{D:Nat}{t:Rat×Rat}(h:Tn D t)(hD:D≤25):∃d,Kd d∧V2 d 1 t∧uniB t=true:=by
 have h1:=h.one
 obtain⟨d,x,y,h0,hd,hs,e1,e2⟩:=h
 have hd0:(0:Int)<d:=by omega
 have hx:=sq_le hd0 hs
 have hy:=sq_le (x:=y) (y:=x) hd0 (by rw[←hs];omega)
 rw[Int.natAbs_natCast]at hx hy
 have key:∀{z:Int},z.natAbs≤d→QV d 1 (mkRat z d):=fun{z} hz=>by
  refine⟨z,?_,by omega⟩
  rw[Rat.mkRat_eq_div]
  exact Rat.div_mul_cancel (by exact_mod_cast (by omega:d≠0))
 exact⟨d,⟨h0,by omega⟩,⟨by rw[e1];exact key hx,by rw[e2];exact key hy⟩,decide_eq_true h1⟩
theorem fit_tu{f:Fq}(h:qc f):TuOK f:=tn_qv h.2.2.1 (Nat.le_refl _)
theorem parts_ok{n:Nat}{F:List Fq}(hn:n≤4)(hF:F.length≤6)(hf:∀f∈F,qc f)(hr:qh n F=true):∃R,(z16 (n:Int) F=some R∧z17 (n:Int) F=some R)∧R.length=n∧∀i (hi:i<R.length),0≤R[i]∧R[i]<n:=by
 have hE:∀f∈F,0≤f.1∧f.1<f.2.1∧f.2.1<(n:Int):=fun f h=>of_decide_eq_true (List.all_eq_true.mp hr f h)
 have hro:RootsOf (ends F) n (trees (ends F) F.length) (roots (ends F) n F.length):=roots_of fun k hk=>by
  rw[(ends_at hk).2];exact hE _ (List.getElem_mem hk)
 have h44:=(right_eq (n:=n) hF (fun f h=>fit_tu (hf f h))).1
 rw[hr]at h44
 refine⟨_,⟨partsR_ok hE hn hF,partsP_ok hE hn hF h44⟩,hro.len,fun i hi=>?_⟩
 have:=hro.le i (by rw[←hro.len];exact hi)
 rw[List.getD_eq_getElem?_getD,List.getElem?_eq_getElem hi]at this
 have:=hro.len
 simp only[Option.getD_some]at *
 omega
theorem still_eq:z65=some (qI 1,0)∧z37=some (qI 1,0):=by
 have q1:ofG 1 1=some (qI 1):=ofI Uz
 unfold z65 z37
 rw[q1]
 exact⟨rfl,rfl⟩
theorem same_ok{d e B C:Nat}{a b:Rat×Rat}(h:V2 d B a)(g:V2 e C b)(s:SB d B)(s':SB e C):z47 a b=some (decide (a=b))∧z66 a b=some (decide (a=b))∧z51 a b=some (decide (a=b))∧z133 a b=some (decide (a=b)):=by
 have e1:(decide (a=b))=(decide (a.1=b.1)&&decide (a.2=b.2)):=by
  rw[←Bool.decide_and]
  congr 1
  exact propext ⟨fun q=>by rw[q];exact⟨rfl,rfl⟩,fun q=>Prod.ext q.1 q.2⟩
 have e2:z47 a b=some (decide (a=b)):=by
  unfold z47
  rw[sameG_ok (h.1.sm s) (g.1.sm s'),sameG_ok (h.2.sm s) (g.2.sm s'),e1]
  simp only[Option.bind_some]
  cases decide (a.1=b.1)<;>rfl
 exact⟨e2,e2,e2,e2⟩
theorem after_ok{d e:Nat}{t u:Rat×Rat}(hd:Kd d)(he:Kd e)(h:V2 d 1 t)(g:V2 e 1 u):z67 t u=some (qy t u)∧z73 t u=some (qy t u)∧V2 (d*e) 2 (qy t u)∧SB (d*e) 2:=by
 have b:d*e≤25*25:=Nat.mul_le_mul hd.2 he.2
 have b0:0<d*e:=Nat.mul_pos hd.1 he.1
 have r:=rot_ok h g (hd.s0 Uz) (he.s0 Uz) ⟨b0,by omega⟩
 refine⟨?_,z40_rot r,V2.rot h g,⟨b0,by omega⟩⟩
 unfold z67
 rw[z125_rot r]
 rfl
section
variable{n:Nat}{P:List Pc}{F:List Fq}{A:List Pl}(hn:0<n∧n≤4)(hP:P.length=n)(hp:∀p∈P,PcOK p)(hF:F.length≤6)(hf:∀f∈F,qc f)(hA:A.length≤6)
  (hv:∀v∈A,∃d,Kd d∧V2 d 12 v.1) (hu:(∀v∈A,uniB v.1=true)→∃K,Kd K∧∀v∈A,PlOK K v)
include hn hP hp hF hf hA hv hu
theorem check_eq:EqS (z24 P F A) (z25 P F A):=by
 have ht:∀f∈F,TuOK f:=fun f h=>fit_tu (hf f h)
 obtain⟨e1,e2⟩:=error_eq hF ht hP hn.2 hp
 unfold z24 z25
 cases hok:(qh n F&&F.all strB)
 ·rw[hok,if_neg Uz]at e1 e2
  rw[e1,e2,Option.bind_some,Option.bind_some,if_pos Uz,if_pos Uz]
  exact EqS.mk
 rw[hok,if_pos rfl]at e1 e2
 have z0:¬(decide ((0:Int)≠0)=true):=by decide
 rw[e1,e2,Option.bind_some,Option.bind_some,if_neg z0,if_neg z0]
 rw[Bool.and_eq_true]at hok
 obtain⟨hr,hs⟩:=hok
 by_cases hl:A.length=n
 case neg=>
  rw[if_pos (decide_eq_true Oz),if_pos (decide_eq_true Oz)]
  exact EqS.mk
 rw[if_neg (by simp only[decide_eq_true_eq];omega),if_neg (by simp only[decide_eq_true_eq];omega)]
 have uni:∀i (hi:i<A.length),z62 A[i]=some (!uniB A[i].1)∧z54 A[i].1=some (uniB A[i].1):=fun i hi=>by
  obtain⟨d,hd,h⟩:=hv _ (List.getElem_mem hi)
  obtain⟨h1,h2⟩:=uni_ok hd h
  exact⟨by unfold z62;rw[h1];rfl,h2⟩
 have lens:∀{α:Type} {f:Pl→α} (i:Nat),((A.take i).map f).length+1≤60000:=fun{α f} i=>by rw[List.length_map,List.length_take];omega
 have snoc:∀{α:Type} (f:Pl→α) (i:Nat) (hi:i<A.length),(A.take i).map f++[f A[i]]=(A.take (i+1)).map f:=fun f i hi=>by rw[xH hi,List.map_append];rfl
 by_cases hall:A.all (fun v=>uniB v.1)=true
 case neg=>
  refine⟨1,?_,?_⟩
  ·refine zi A.length (fun i x=>x=(i:Int)∧(A.take i).all (fun v=>uniB v.1)=true) (fun o=>o=_) Oz ⟨rfl,rfl⟩ ?_ ?_
   ·rintro i x g hi ⟨rfl,h⟩ hg
    rw[if_pos (zr hi),zn hi,Option.bind_some,(uni i hi).1,Option.bind_some]
    cases c:uniB A[i].1
    ·rw[if_pos Uz,if_pos (decide_eq_true Oz)]
    ·rw[if_neg Uz,zl (show i<100000 by omega),Option.bind_some]
     exact hg _ ⟨rfl,all_take hi h c⟩
   ·rintro x g ⟨rfl,h⟩
    rw[List.take_length]at h
    exact absurd h hall
  ·refine zi A.length (fun i x=>x=((i:Int),(A.take i).map (·.1),(A.take i).map (·.2.1),(A.take i).map (·.2.2))∧(A.take i).all (fun v=>uniB v.1)=true) (fun o=>o=_) Oz ⟨rfl,rfl⟩ ?_ ?_
   ·rintro i x g hi ⟨rfl,h⟩ hg
    rw[if_pos (zr hi),zn hi,Option.bind_some,(uni i hi).2,Option.bind_some]
    cases c:uniB A[i].1
    ·rw[if_pos Uz]
    ·rw[if_neg Uz,Option.bind_some,zN (lens i),Option.bind_some,Option.bind_some,zN (lens i),Option.bind_some,Option.bind_some,zN (lens i),Option.bind_some,zl (show i<100000 by omega),Option.bind_some]
     exact hg _ ⟨by rw[snoc (·.1) i hi,snoc (·.2.1) i hi,snoc (·.2.2) i hi],all_take hi h c⟩
   ·rintro x g ⟨rfl,h⟩
    rw[List.take_length]at h
    exact absurd h hall
 have hall:=List.all_eq_true.mp hall
 obtain⟨K,hK,hpl⟩:=hu hall
 obtain⟨R,⟨hR16,hR17⟩,lR,rR⟩:=parts_ok (n:=n) Oz hF hf hr
 refine zi A.length (fun i x=>x=(i:Int)) (fun o=>EqS o _) Oz rfl ?_ ?_
 ·rintro i x g hi rfl hg
  rw[if_pos (zr hi),zn hi,Option.bind_some,(uni i hi).1,Option.bind_some,hall _ (List.getElem_mem hi),if_neg Uz,zl (show i<100000 by omega),Option.bind_some]
  exact hg _ rfl
 rintro x g rfl
 rw[if_neg Y8]
 refine zi A.length (fun i x=>x=((i:Int),(A.take i).map (·.1),(A.take i).map (·.2.1),(A.take i).map (·.2.2))) (fun o=>EqS _ o) Oz rfl ?_ ?_
 ·rintro i x g hi rfl hg
  rw[if_pos (zr hi),zn hi,Option.bind_some,(uni i hi).2,Option.bind_some,hall _ (List.getElem_mem hi),if_neg Uz,Option.bind_some,zN (lens i),Option.bind_some,Option.bind_some,zN (lens i),Option.bind_some,Option.bind_some,zN (lens i),Option.bind_some,zl (show i<100000 by omega),Option.bind_some]
  exact hg _ (by rw[snoc (·.1) i hi,snoc (·.2.1) i hi,snoc (·.2.2) i hi])
 rintro x g rfl
 rw[if_neg Y8,hP,hR16,hR17,Option.bind_some,Option.bind_some]
 simp only[List.take_length]
 have sK:=hK.s0 (B:=1) Uz
 have s12:SB 12 14:=⟨by decide,by decide⟩
 have s11:SB 1 1:=⟨by decide,by decide⟩
 have still:V2 1 1 (qI 1,0):=⟨QV.int Uz,QV.int (n:=0) Uz⟩
 have zero:V2 1 1 (0,0):=⟨QV.int (n:=0) Uz,QV.int (n:=0) Uz⟩
 refine qq A.length (fun i x x'=>x=((i:Int),(A.take i).map (·.1),(A.take i).map (·.2.1),(A.take i).map (·.2.2))∧x'=(i:Int)) EqS Oz Oz ⟨rfl,rfl⟩ ?_ ?_
 ·rintro i x x' g g' hi ⟨rfl,rfl⟩ hg
  have hR:i<R.length:=by omega
  have pl:=hpl _ (List.getElem_mem hi)
  obtain⟨f1,-,f3,-⟩:=same_ok pl.turn still sK s11
  obtain⟨-,f2,-,f4⟩:=same_ok pl.at' zero s12 s11
  have z72e:z72 A[i] ((qI 1,0),0,0)=some (decide (A[i].1=(qI 1,0))&&decide (A[i].2=(0,0))):=by
   unfold z72
   show(z51 A[i].1 (qI 1,0)).bind _=_
   rw[f3,Option.bind_some]
   show(if _=true then(z133 A[i].2 (0,0)).bind _ else _)=_
   rw[f4]
   cases decide (A[i].1=(qI 1,0))<;>rfl
  rw[if_pos (zr hi),if_pos (zr hi),zn hi,Option.bind_some,zn hR,Option.bind_some,Option.bind_some]
  have next:EqS (g (((i+1:Nat):Int),(A.take (i+1)).map (·.1),(A.take (i+1)).map (·.2.1),(A.take (i+1)).map (·.2.2))) (g' ((i+1:Nat):Int)):=hg _ _ ⟨rfl,rfl⟩
  by_cases c:R[i]=(i:Int)
  ·rw[if_pos (decide_eq_true c),if_pos (decide_eq_true c),still_eq.1,still_eq.2,Option.bind_some,Option.bind_some,Option.bind_some,f1,z72e,Option.bind_some,Option.bind_some]
   cases h1:decide (A[i].1=(qI 1,0))
   ·exact EqS.mk
   ·rw[if_neg Uz,f2,Option.bind_some,Bool.true_and]
    cases h2:decide (A[i].2=(0,0))
    ·exact EqS.mk
    ·rw[if_neg Uz,if_neg Uz,zN (lens i),Option.bind_some,zN (lens i),Option.bind_some,zN (lens i),Option.bind_some,zl (show i<100000 by omega),Option.bind_some,Option.bind_some,snoc (·.1) i hi,snoc (·.2.1) i hi,snoc (·.2.2) i hi]
     exact next
  ·rw[if_neg (by simp only[decide_eq_true_eq];exact c),if_neg (by simp only[decide_eq_true_eq];exact c),zN (lens i),Option.bind_some,zN (lens i),Option.bind_some,zN (lens i),Option.bind_some,zl (show i<100000 by omega),Option.bind_some,Option.bind_some,snoc (·.1) i hi,snoc (·.2.1) i hi,snoc (·.2.2) i hi]
   exact next
 rintro x x' g g' ⟨rfl,rfl⟩
 rw[if_neg Y8,if_neg Y8]
 simp only[List.take_length]
 have hft:∀f∈F,FtOK n f:=fun f h=>by
  obtain⟨a,b,c⟩:=of_decide_eq_true (List.all_eq_true.mp hr f h)
  obtain⟨d,e,k⟩:=of_decide_eq_true (List.all_eq_true.mp hs f h)
  exact⟨a,b,c,d,e,k⟩
 have tl:(A.map (·.1)).length=n:=by rw[List.length_map];exact hl
 have tm:∀t∈A.map (·.1),V2 K 1 t:=fun t h=>by
  obtain⟨v,hv,rfl⟩:=List.mem_map.mp h
  exact(hpl v hv).turn
 refine qq F.length (fun i x x'=>x=(i:Int)∧x'=(i:Int)) EqS Oz Oz ⟨rfl,rfl⟩ ?_ ?_
 ·rintro i x x' g g' hi ⟨rfl,rfl⟩ hg
  have fo:=hft _ (List.getElem_mem hi)
  obtain⟨d,hd,hdv,-⟩:=ht _ (List.getElem_mem hi)
  obtain⟨ta,hta,ita⟩:=xi (l:=A.map (·.1)) fo.a0 (by have:=fo.ab;have:=fo.bn;omega)
  obtain⟨tb,htb,itb⟩:=xi (l:=A.map (·.1)) (a:=F[i].2.1) (by have:=fo.a0;have:=fo.ab;omega) (by have:=fo.bn;omega)
  obtain⟨a1,a2,a3,a4⟩:=after_ok hK hd (tm _ hta) hdv
  obtain⟨b1,-,b3,-⟩:=same_ok (tm _ htb) a3 sK a4
  rw[if_pos (zr hi),if_pos (zr hi)]
  simp only[zn hi,Option.bind_some,ita,itb,a1,a2,b1,b3,zl (show i<100000 by omega)]
  cases decide (tb=qy ta F[i].2.2.2.2.2.1)
  ·exact EqS.mk
  ·exact hg _ _ ⟨rfl,rfl⟩
 rintro x x' g g' ⟨rfl,rfl⟩
 rw[if_neg Y8,if_neg Y8]
 obtain⟨X,Y,o,o',h1,h2,⟨lX,gX⟩,lY,gY⟩:=bounds_eq hK hP hp tl tm hF hft
 have c1:∀x∈A.map (·.2.1),QV 12 14 x:=fun t h=>by
  obtain⟨v,hv,rfl⟩:=List.mem_map.mp h
  exact(hpl v hv).at'.1
 have c2:∀x∈A.map (·.2.2),QV 12 14 x:=fun t h=>by
  obtain⟨v,hv,rfl⟩:=List.mem_map.mp h
  exact(hpl v hv).at'.2
 obtain⟨b1,p1,q1⟩:=solves_eq hK hn lX gX (xs:=A.map (·.2.1)) (by rw[List.length_map];exact hl) c1
 obtain⟨b2,p2,q2⟩:=solves_eq hK hn lY gY (xs:=A.map (·.2.2)) (by rw[List.length_map];exact hl) c2
 obtain⟨c,u1,u2⟩:=crowd_eq hK hn.2 hP hl lR (fun i hi=>rR i Oz) hp hpl
 rw[h1,h2,Option.bind_some,Option.bind_some,if_pos (decide_eq_true Oz),if_pos (decide_eq_true Oz),p1,q1,Option.bind_some,Option.bind_some]
 cases b1
 ·exact EqS.mk
 rw[if_neg Uz,if_neg Uz,p2,q2,Option.bind_some,Option.bind_some]
 cases b2
 ·exact EqS.mk
 rw[if_neg Uz,if_neg Uz,u1,u2,Option.bind_some]
 cases c<;>exact EqS.mk
end
end Go.Proofs.YtocnbjjmmgolfaaGreat
namespace Go.Proofs.YtocnbjjmmgolfaaGreat
open Go Go.M Go.Proofs.C14
set_option linter.unusedSimpArgs false
set_option linter.unusedSectionVars false
theorem z10_ok{a m:Int}(ha:xG a)(h0:0<m)(h1:m<100000):∃r,z10 a m=some r∧0≤r∧r<m:=by
 unfold z10
 have t:∀{x:Int},0≤x→0≤Int.tmod x m∧Int.tmod x m<m:=fun hx=>⟨Int.tmod_nonneg _ hx,Int.tmod_lt_of_pos _ h0⟩
 by_cases h:a<0
 ·have e1:i64 (a+1)=some (a+1):=by unfold i64;rw[if_pos];unfold xG at *;omega
  have e2:i64 (0-(a+1))=some (0-(a+1)):=by unfold i64;rw[if_pos];unfold xG at *;omega
  rw[if_pos (decide_eq_true h),e1,Option.bind_some,e2,Option.bind_some,if_neg Oz]
  exact⟨_,rfl,t Oz⟩
 ·rw[if_neg (by simp only[decide_eq_true_eq];exact h),if_neg Oz]
  exact⟨_,rfl,t Oz⟩
def L64(l:List Int):Prop:=∀x∈l,xG x
theorem xQ{l:List Int}(hl:L64 l){i m:Int}(hi:0≤i)(h0:0<m)(h1:m<100000):∃r,z21 l i m=some r∧0≤r∧r<m:=by
 unfold z21
 rw[if_neg (by simp only[decide_eq_true_eq];omega)]
 by_cases h:(l.length:Int)≤i
 ·rw[if_pos (decide_eq_true h)]
  exact⟨0,rfl,by omega,h0⟩
 ·rw[if_neg (by simp only[decide_eq_true_eq];exact h)]
  obtain⟨x,hx,e⟩:=xi (l:=l) hi Oz
  obtain⟨r,hr,h2,h3⟩:=z10_ok (hl x hx) h0 h1
  rw[e,Option.bind_some,hr]
  exact⟨r,rfl,h2,h3⟩
theorem in64S{x:Int}(h:x.natAbs<1000000000):xG x:=by unfold xG;omega
theorem ofG_ok{p q:Int}(hp:p.natAbs<1000000)(hq:0<q∧q<1000000):ofG p q=some (Rat.divInt p q):=if_pos ⟨by omega,by omega,hq.1⟩
theorem div_qv{p:Int}{q d:Nat}{B:Nat}(hq:0<q)(k:Nat)(hd:q*k=d)(hp:p.natAbs≤q*B):QV d B (Rat.divInt p (q:Int)):=by
 subst hd
 have:QV q B (Rat.divInt p (q:Int)):=by
  refine⟨p,?_,hp⟩
  rw[Rat.divInt_eq_div]
  exact Rat.div_mul_cancel (by exact_mod_cast (by omega:q≠0))
 exact this.up
theorem z23_ok{n:Int}(hn:0≤n∧n<100):∃x,z23 n=some x∧QV 12 12 x:=by
 obtain⟨r,hr,h0,h1⟩:=z10_ok (in64S (show n.natAbs<_ by omega)) (show(0:Int)<100 by decide) Uz
 have m0:=Int.tmod_nonneg 25 h0
 have m1:=Int.tmod_lt_of_pos r (show(0:Int)<25 by decide)
 have d0:0≤Int.tdiv r 25:=Int.tdiv_nonneg h0 Uz
 have d1:Int.tdiv r 25≤3:=by rw[Int.tdiv_eq_ediv_of_nonneg h0];omega
 unfold z23
 rw[hr,Option.bind_some,if_neg Uz,yg Oz,Option.bind_some,if_neg Uz,yg Oz,Option.bind_some,yg Oz,Option.bind_some,ofG_ok Oz Oz,Option.bind_some]
 refine⟨_,rfl,?_⟩
 generalize Int.tmod r 25=u at *
 generalize Int.tdiv r 25=v at *
 have e:v=0∨v=1∨v=2∨v=3:=by omega
 rcases e with rfl|rfl|rfl|rfl
 ·exact div_qv (q:=1) Uz 12 rfl Oz
 ·exact div_qv (q:=2) Uz 6 rfl Oz
 ·exact div_qv (q:=3) Uz 4 rfl Oz
 ·exact div_qv (q:=4) Uz 3 rfl Oz
theorem z60_ok{l:List Int}(hl:L64 l){i:Int}(h0:0≤i)(h1:i<1000):∃v,z60 l i=some v∧V2 12 12 v:=by
 obtain⟨r,e1,g1⟩:=xQ hl h0 (show(0:Int)<100 by decide) Uz
 obtain⟨s,e2,g2⟩:=xQ hl (show 0≤i+1 by omega) (show(0:Int)<100 by decide) Uz
 obtain⟨x,e3,g3⟩:=z23_ok g1
 obtain⟨y,e4,g4⟩:=z23_ok g2
 unfold z60
 rw[e1,Option.bind_some,e3,Option.bind_some,yg Oz,Option.bind_some,e2,Option.bind_some,e4]
 exact⟨_,rfl,g3,g4⟩
theorem z43_ok{n:Int}(hn:0≤n∧n<64):∃t,z43 n=some t∧Tn 25 t:=by
 obtain⟨r,hr,h0,h1⟩:=z10_ok (in64S (show n.natAbs<_ by omega)) (show(0:Int)<64 by decide) Uz
 have a0:0≤Int.tdiv r 4:=Int.tdiv_nonneg h0 Uz
 have a1:Int.tdiv r 4≤16:=by rw[Int.tdiv_eq_ediv_of_nonneg h0];omega
 have b0:=Int.tmod_nonneg 4 a0
 have b1:=Int.tmod_lt_of_pos (Int.tdiv r 4) (show(0:Int)<4 by decide)
 have c0:0≤Int.tdiv r 16:=Int.tdiv_nonneg h0 Uz
 have c1:Int.tdiv r 16≤3:=by rw[Int.tdiv_eq_ediv_of_nonneg h0];omega
 have q0:=Int.tmod_nonneg 4 h0
 have q1:=Int.tmod_lt_of_pos r (show(0:Int)<4 by decide)
 unfold z43
 rw[hr,Option.bind_some,if_neg Uz,yg Oz,Option.bind_some,if_neg Uz,yg Oz,Option.bind_some,if_neg Uz,yg Oz,Option.bind_some]
 generalize Int.tmod (Int.tdiv r 4) 4=u at *
 generalize Int.tdiv r 16=v at *
 have sq:∀{x:Int} (M:Nat),0≤x→x≤M→0≤x*x∧x*x≤M*M:=fun M g0 g1=>⟨Int.mul_nonneg g0 g0,Int.mul_le_mul g1 g1 g0 Oz⟩
 have s1:=sq (x:=1+u) 4 Oz Oz
 have s2:=sq (x:=v) 3 Oz Oz
 have s1':1≤(1+u)*(1+u):=by
  have:(1:Int)*1≤(1+u)*(1+u):=Int.mul_le_mul Oz Oz Oz Oz
  omega
 have s3:0≤(1+u)*v∧(1+u)*v≤4*3:=⟨Int.mul_nonneg Oz Oz,Int.mul_le_mul Oz Oz Oz Oz⟩
 have e3:2*(1+u)*v=2*((1+u)*v):=Int.mul_assoc ..
 have hun:((1+u)*(1+u)-v*v)*((1+u)*(1+u)-v*v)+(2*(1+u)*v)*(2*(1+u)*v)=((1+u)*(1+u)+v*v)*((1+u)*(1+u)+v*v):=by grind
 rw[yg Oz,Option.bind_some,yg Oz,Option.bind_some,yg Oz,Option.bind_some,Option.bind_some,Option.bind_some,yg Oz,Option.bind_some,ofG_ok Oz Oz,Option.bind_some,yg Oz,Option.bind_some,yg Oz,Option.bind_some,ofG_ok Oz Oz,Option.bind_some]
 generalize 2*(1+u)*v=Y at *
 generalize (1+u)*(1+u)=U at *
 generalize v*v=V at *
 obtain⟨d,hd⟩:=Int.eq_ofNat_of_zero_le (show 0≤U+V by omega)
 have tn:Tn 25 (Rat.divInt (U-V) (U+V),Rat.divInt Y (U+V)):=by
  refine⟨d,U-V,Y,by omega,by omega,by rw[hun,hd],?_,?_⟩
  ·show Rat.divInt _ _=_
   rw[hd];rfl
  ·show Rat.divInt _ _=_
   rw[hd];rfl
 generalize Rat.divInt (U-V) (U+V)=c at *
 generalize Rat.divInt Y (U+V)=s at *
 obtain⟨k,hk⟩:=Int.eq_ofNat_of_zero_le q0
 rw[hk]
 refine zi k (fun i x=>x.1=(i:Int)∧Tn 25 x.2) (fun o=>∃t,o=some t∧Tn 25 t) Oz ⟨rfl,tn⟩ ?_ ?_
 ·rintro i ⟨x,c,s⟩ g hi ⟨rfl,h⟩ hg
  rw[if_neg Uz,if_pos (zr hi)]
  have hb:=(show Tn 25 (c,s)from h).bd.2
  have hb1:s.num.natAbs≤25:=hb.1
  have hb2:s.den≤25:=hb.2
  have sm:Sm s:=⟨by omega,by omega⟩
  simp only[xf sm,Option.bind_some,zl (show i<100000 by omega)]
  exact hg _ ⟨rfl,h.quarter⟩
 ·rintro⟨x,c,s⟩ g ⟨rfl,h⟩
  rw[if_neg Uz,if_neg Y8]
  exact⟨_,rfl,h⟩
theorem z22_ok{l:List Int}(hl:L64 l){i:Int}(h0:0≤i)(h1:i<500):∃v,z22 l i=some v∧Tn 25 v.1∧V2 12 12 v.2:=by
 obtain⟨r,e1,g1⟩:=xQ hl h0 (show(0:Int)<64 by decide) Uz
 obtain⟨t,e2,g2⟩:=z43_ok g1
 obtain⟨v,e3,g3⟩:=z60_ok hl (show 0≤i+1 by omega) Oz
 unfold z22
 rw[e1,Option.bind_some,e2,Option.bind_some,yg Oz,Option.bind_some,e3]
 exact⟨_,rfl,g2,g3⟩
end Go.Proofs.YtocnbjjmmgolfaaGreat
namespace Go.Proofs.YtocnbjjmmgolfaaGreat
open Go Go.M Go.Proofs.C14
set_option linter.unusedSimpArgs false
set_option linter.unusedSectionVars false
theorem lset_all{α:Type}{P:α→Prop}:∀{l:List α} {n:Nat} {x:α},(∀y∈l,P y)→P x→∀y∈zt l n x,P y
 | [],_,_,_,_,y,hy=>nomatch hy
 |a::l,0,x,h,hx,y,hy=>by
  rcases List.mem_cons.mp hy with rfl|hy
  ·exact hx
  ·exact h y (List.mem_cons_of_mem _ hy)
 |a::l,n+1,x,h,hx,y,hy=>by
  rcases List.mem_cons.mp hy with rfl|hy
  ·exact h _ (List.mem_cons_self ..)
  ·exact lset_all (fun y hy=>h y (List.mem_cons_of_mem _ hy)) hx y hy
theorem fit_ends{f g:Fq}(h:qc f)(a:xG g.1)(b:xG g.2.1)(e:g.2.2.2.2.2=f.2.2.2.2.2):qc g:=by
 obtain⟨h1,h2,h3⟩:=h
 refine⟨a,b,?_⟩
 rw[e]
 exact h3
theorem fit_turn{f:Fq}{t:Rat×Rat}(h:qc f)(ht:Tn 25 t):qc (f.1,f.2.1,f.2.2.1,f.2.2.2.1,f.2.2.2.2.1,t,f.2.2.2.2.2.2):=by
 obtain⟨h1,h2,h3,h4,h5,h6⟩:=h
 have b:=ht.bd
 exact⟨h1,h2,ht,b.1,b.2,h6⟩
theorem bent_ok{F:List Fq}(h0:0<F.length)(h1:F.length≤5)(hf:∀f∈F,qc f){how by':Int}(hh:xG how)(hb:xG by'):∃G,z9 F how by'=some G∧G.length≤6∧∀f∈G,qc f:=by
 obtain⟨r2,e2,g20,g21⟩:=z10_ok (m:=(F.length:Int)) hb Oz Oz
 have b4:xG (Int.tdiv by' 4):=by
  unfold xG at *
  rcases Int.le_total 0 by' with h|h
  ·rw[Int.tdiv_eq_ediv_of_nonneg h];omega
  ·have:Int.tdiv by' 4 = -(Int.tdiv (-by') 4):=by rw[Int.neg_tdiv,Int.neg_neg]
   rw[this,Int.tdiv_eq_ediv_of_nonneg Oz]
   omega
 obtain⟨r4,e4,g40,g41⟩:=z10_ok (m:=32) b4 Oz Oz
 obtain⟨r5,e5,g50,g51⟩:=z10_ok (m:=7) hh Oz Oz
 obtain⟨f,hfm,ef⟩:=xi (l:=F) g20 g21
 have ok:=hf f hfm
 obtain⟨t,et,ht⟩:=z43_ok (n:=r4) Oz
 have i4:i64 (Int.tdiv by' 4)=some (Int.tdiv by' 4):=if_pos b4
 have m0:=Int.tmod_nonneg 5 g40
 have m1:=Int.tmod_lt_of_pos r4 (show(0:Int)<5 by decide)
 have n5:¬((5:Nat)=0):=by decide
 have n4:¬((4:Nat)=0):=by decide
 have d0:0≤Int.tdiv r4 5∧Int.tdiv r4 5≤31:=by rw[Int.tdiv_eq_ediv_of_nonneg g40];omega
 have d4:0≤Int.tdiv r4 4∧Int.tdiv r4 4≤31:=by rw[Int.tdiv_eq_ediv_of_nonneg g40];omega
 have k0:=Int.tmod_nonneg 5 d0.1
 have k1:=Int.tmod_lt_of_pos (Int.tdiv r4 5) (show(0:Int)<5 by decide)
 have fin:∀{x:Fq},qc x→∃G,some (zt F r2.toNat x)=some G∧G.length≤6∧∀f∈G,qc f:=fun{x} hx=>⟨_,rfl,by rw[ya];omega,lset_all hf hx⟩
 unfold z9
 rw[if_neg (by simp only[decide_eq_true_eq];omega),show app ([]:List Fq) F=some F by rw[zN (by simp;omega)];rfl]
 simp only[Option.bind_some,e2,if_neg n4,if_neg n5,i4,e4,e5,ef,et]
 by_cases c0:r5=0
 ·rw[if_pos (decide_eq_true c0),yg Oz,Option.bind_some]
  unfold cutZ
  rw[if_pos Oz]
  refine⟨_,rfl,by simp;omega,fun x hx=>?_⟩
  rcases List.mem_append.mp hx with hx|hx
  ·exact hf x (List.mem_of_mem_take hx)
  ·exact hf x (List.mem_of_mem_drop hx)
 rw[if_neg (by simp only[decide_eq_true_eq];exact c0)]
 by_cases c1:r5=1
 ·rw[if_pos (decide_eq_true c1)]
  exact fin (fit_turn ok ht)
 rw[if_neg (by simp only[decide_eq_true_eq];exact c1)]
 by_cases c2:r5=2
 ·rw[if_pos (decide_eq_true c2)]
  exact fin (fit_ends ok ok.1 ok.2.1 rfl)
 rw[if_neg (by simp only[decide_eq_true_eq];exact c2)]
 by_cases c3:r5=3
 ·rw[if_pos (decide_eq_true c3)]
  exact fin (fit_ends ok ok.1 ok.2.1 rfl)
 rw[if_neg (by simp only[decide_eq_true_eq];exact c3)]
 by_cases c4:r5=4
 ·rw[if_pos (decide_eq_true c4)]
  exact fin (fit_ends ok ok.1 ok.2.1 rfl)
 rw[if_neg (by simp only[decide_eq_true_eq];exact c4)]
 by_cases c5:r5=5
 ·rw[if_pos (decide_eq_true c5),yg Oz,Option.bind_some,yg Oz,Option.bind_some]
  have ok1:qc (Int.tmod r4 5-1,f.2):=fit_ends ok (in64S (show(Int.tmod r4 5-1).natAbs<_ by omega)) ok.2.1 rfl
  have all:=lset_all (l:=F) (n:=r2.toNat) hf ok1
  obtain⟨f',hfm',ef'⟩:=xi (l:=zt F r2.toNat (Int.tmod r4 5-1,f.2)) g20 (by rw[ya];exact g21)
  have ok':=all f' hfm'
  simp only[ef',Option.bind_some]
  exact⟨_,rfl,by rw[ya,ya];omega,lset_all all (fit_ends ok' ok'.1 (in64S (show(Int.tmod (Int.tdiv r4 5) 5).natAbs<_ by omega)) rfl)⟩
 rw[if_neg (by simp only[decide_eq_true_eq];exact c5),yg Oz,Option.bind_some,zN (by simp;omega),Option.bind_some]
 refine⟨_,rfl,by simp;omega,fun x hx=>?_⟩
 rcases List.mem_append.mp hx with hx|hx
 ·exact hf x hx
 ·rw[List.mem_singleton.mp hx]
  exact fit_ends ok ok.1 ok.2.1 rfl
end Go.Proofs.YtocnbjjmmgolfaaGreat
namespace Go.Proofs.YtocnbjjmmgolfaaGreat
open Go Go.M Go.Proofs.C14
noncomputable section
set_option linter.unusedVariables false
def T18_4c:=zj T25c 18 ⟨[],.bool,1000000,fun _=>livesG⟩
theorem t18_4{I:zT}(hI:zQ I)(hl:DecI I 18 1000000 [] .bool fun _=>livesG):ConI I T18_4c:=ConI.add (t25.i hI) hl
def z4(a0:List Int)(a1:Int)(a2:Int)(a3:List Int):Option Bool:=((z8 a0).bind fun r1=>((z9 r1.2.1 a1 a2).bind fun r2=>((z10 a2 (r1.2.2.length:Int)).bind fun r3=>((app ([]:List Pl) r1.2.2).bind fun l4=>((idx l4 r3).bind fun x5=>((idx l4 r3).bind fun x6=>((idx l4 r3).bind fun x7=>((z21 a3 0 9).bind fun r8=>((i64 (r8-4)).bind fun n9=>((idx l4 r3).bind fun x10=>((ofG n9 4).bind fun r11=>((idx l4 r3).bind fun x12=>((z21 a3 1 9).bind fun r13=>((i64 (r13-4)).bind fun n14=>((idx l4 r3).bind fun x15=>((ofG n14 4).bind fun r16=>((z19 x6.2 (r11,r16)).bind fun r17=>((idx l4 r3).bind fun x18=>((idx l4 r3).bind fun x19=>((app ([]:List Pl) r1.2.2).bind fun l20=>((z22 a3 2).bind fun r21=>((idx l20 r3).bind fun x22=>((idx l20 r3).bind fun x23=>((app ([]:List Pl) r1.2.2).bind fun l24=>((z21 a3 5 100).bind fun r25=>((z23 r25).bind fun r26=>((idx l24 r3).bind fun x27=>((idx l24 r3).bind fun x28=>((xq r1.2.2 0 r3).bind fun l29=>((idx r1.2.2 0).bind fun x30=>((app ([]:List Pl) r1.2.2).bind fun l31=>((app l31 [x30]).bind fun l32=>(zd (fun g33 (x33:Int)=>(if (decide (x33<2))=true then(zd (fun g34 (x34:Int)=>(if (decide (x34<([r1.2.2,(zt l4 (Int.toNat r3) (x19.1,r17)),(zt l20 (Int.toNat r3) r21),(zt l24 (Int.toNat r3) ((r26,x28.1.2),x28.2)),l29,l32].length:Int)))=true then((idx [r1.2.1,r2] x33).bind fun x35=>((idx [r1.2.1,r2] x33).bind fun x36=>((idx [r1.2.2,(zt l4 (Int.toNat r3) (x19.1,r17)),(zt l20 (Int.toNat r3) r21),(zt l24 (Int.toNat r3) ((r26,x28.1.2),x28.2)),l29,l32] x34).bind fun x37=>((idx [r1.2.2,(zt l4 (Int.toNat r3) (x19.1,r17)),(zt l20 (Int.toNat r3) r21),(zt l24 (Int.toNat r3) ((r26,x28.1.2),x28.2)),l29,l32] x34).bind fun x38=>((idx [r1.2.1,r2] x33).bind fun x39=>((idx [r1.2.1,r2] x33).bind fun x40=>((idx [r1.2.2,(zt l4 (Int.toNat r3) (x19.1,r17)),(zt l20 (Int.toNat r3) r21),(zt l24 (Int.toNat r3) ((r26,x28.1.2),x28.2)),l29,l32] x34).bind fun x41=>((idx [r1.2.2,(zt l4 (Int.toNat r3) (x19.1,r17)),(zt l20 (Int.toNat r3) r21),(zt l24 (Int.toNat r3) ((r26,x28.1.2),x28.2)),l29,l32] x34).bind fun x42=>((idx [r1.2.1,r2] x33).bind fun x43=>((idx [r1.2.2,(zt l4 (Int.toNat r3) (x19.1,r17)),(zt l20 (Int.toNat r3) r21),(zt l24 (Int.toNat r3) ((r26,x28.1.2),x28.2)),l29,l32] x34).bind fun x44=>((z24 r1.1 x36 x38).bind fun r45=>((z25 r1.1 x40 x42).bind fun r46=>(if (decide (r45≠r46))=true then some false else((i64 (x34+1)).bind fun n47=>g34 n47))))))))))))))else((i64 (x33+1)).bind fun n48=>g33 n48))) (zb 7) 0)else((livesG).bind fun r49=>some r49))) (zb 3) 0)))))))))))))))))))))))))))))))))
def T4c:=zj T18_4c 4 ⟨[S3,i6,i6,S3],.bool,1318028195002,fun x=>z4 x.1 x.2.1 x.2.2.1 x.2.2.2⟩
theorem t4{I:zT}(hI:zQ I)(hl:DecI I 18 1000000 [] .bool fun _=>livesG):ConI I T4c:=ConI.next hI (Γ:=Γ1) (Hs:=hsF [(4,[hi [] [9,10,15] [(16,false,[.hole])] [] [] [i6] 3,hi [] [16] [(17,false,[.hole])] [] [] [i6] 7])]) (rs:=[1318028195002]) (t18_4 hI hl) rfl fun x=>by kernel_rfl
end
end Go.Proofs.YtocnbjjmmgolfaaGreat
