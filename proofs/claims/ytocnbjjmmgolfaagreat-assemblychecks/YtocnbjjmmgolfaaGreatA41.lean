/- zQ law: ears of quadrilaterals, the reference's (printed by mkLi.py). -/
/- zQ law: how the reference cuts a quadrilateral (printed by mkLj.py). -/
/- zQ law: how the program cuts a quadrilateral (printed by mkLk.py). -/
/- zQ law: the triangles of a quadrilateral (printed by mkLl.py). -/
/- zQ law: points turned and moved. -/
/- zQ law: the cells of a placed piece (printed by mkLn.py). -/
/- zQ law: the cells of a placed piece (printed by mkLo.py). -/
/- zQ law: loops in general; numbers with a denominator and a bound. -/
import Derived.Test.YtocnbjjmmgolfaaGreatA39
import Derived.Test.YtocnbjjmmgolfaaGreatA40
namespace Go.Proofs.YtocnbjjmmgolfaaGreat
open Go Go.M Go.Proofs.C14
set_option linter.unusedSimpArgs false
section
variable{a b c d:Int×Int}
theorem cmpI_ge{m n:Int}:0≤zV m n↔n≤m:=by rcases cmpI_cases m n with h|h|h<;>rw[h.1]<;>omega
theorem z299_4:(z299 [0,1,2,3] 0 (-1)=some 3∧z299 [0,1,2,3] 1 (-1)=some 0∧z299 [0,1,2,3] 2 (-1)=some 1∧z299 [0,1,2,3] 3 (-1)=some 2)∧z299 [0,1,2,3] 0 1=some 1∧z299 [0,1,2,3] 1 1=some 2∧z299 [0,1,2,3] 2 1=some 3∧z299 [0,1,2,3] 3 1=some 0:=by
 unfold z299
 simp[idx,zp,zy]
theorem z297_4:z297 4=some [0,1,2,3]:=by
 unfold z297
 rw[zm]
 kernel_rfl
def xU(w x y z:Int×Int):Bool:=decide (0<zf w x y) && !(decide (0≤zf w x z)&&decide (0≤zf x y z)&&decide (0≤zf y w z))
theorem z313_int(ha:Nr 1000 a)(hb:Nr 1000 b)(hc:Nr 1000 c)(hd:Nr 1000 d):z313 (ptQ a) (ptQ b) (ptQ c) (ptQ d)=some (decide (0≤zf a b d)&&decide (0≤zf b c d)&&decide (0≤zf c a d)):=by
 unfold z313
 simp only[xW ha hb hd,xW hb hc hd,xW hc ha hd,Option.bind_some,cmpI_ge]
 by_cases h1:0≤zf a b d<;>by_cases h2:0≤zf b c d<;>simp[h1,h2]
noncomputable def qm(a0:List (Rat×Rat))(a1:List Int)(r2 x3 r4:Int)(g5:Int→Option Bool)(x5:Int):Option Bool:=(if (decide (x5<(a1.length:Int)))=true then((idx a1 x5).bind fun x6=>(if (decide (x6≠r2))=true then(if (decide (x6≠x3))=true then(if (decide (x6≠r4))=true then((idx a0 r2).bind fun x7=>((idx a0 x3).bind fun x8=>((idx a0 r4).bind fun x9=>((idx a0 x6).bind fun x10=>((z313 x7 x8 x9 x10).bind fun r11=>(if r11=true then some false else((i64 (x5+1)).bind fun n12=>g5 n12)))))))else((i64 (x5+1)).bind fun n13=>g5 n13))else((i64 (x5+1)).bind fun n14=>g5 n14))else((i64 (x5+1)).bind fun n15=>g5 n15)))else some true)
theorem z298_eq(a0:List (Rat×Rat))(a1:List Int)(a2:Int):z298 a0 a1 a2 =  ((z312 a0 a1 a2).bind fun r1=>(if (decide (r1≤0))=true then some false else((z299 a1 a2 (-1)).bind fun r2=>((idx a1 a2).bind fun x3=>((z299 a1 a2 1).bind fun r4=>(zd (qm a0 a1 r2 x3 r4) (zb 12) 0)))))):=rfl
theorem z312_0(ha:Nr 1000 a)(hb:Nr 1000 b)(hc:Nr 1000 c)(hd:Nr 1000 d):z312 [ptQ a,ptQ b,ptQ c,ptQ d] [0,1,2,3] 0=some (zV (zf d a b) 0):=by
 have f:=xW hd ha hb
 unfold z312
 simp[idx,z299_4,f]
theorem earB_00(g:Int→Option Bool):qm [ptQ a,ptQ b,ptQ c,ptQ d] [0,1,2,3] 3 0 1 g 0=g 1:=by
 unfold qm
 simp[idx,zp,zy]
theorem earB_01(g:Int→Option Bool):qm [ptQ a,ptQ b,ptQ c,ptQ d] [0,1,2,3] 3 0 1 g 1=g 2:=by
 unfold qm
 simp[idx,zp,zy]
theorem earB_02{t:Bool}(f:z313 (ptQ d) (ptQ a) (ptQ b) (ptQ c)=some t)(g:Int→Option Bool):qm [ptQ a,ptQ b,ptQ c,ptQ d] [0,1,2,3] 3 0 1 g 2=if t=true then some false else g 3:=by
 unfold qm
 simp[idx,zp,zy,f]
theorem earB_03(g:Int→Option Bool):qm [ptQ a,ptQ b,ptQ c,ptQ d] [0,1,2,3] 3 0 1 g 3=g 4:=by
 unfold qm
 simp[idx,zp,zy]
theorem earB_04(g:Int→Option Bool):qm [ptQ a,ptQ b,ptQ c,ptQ d] [0,1,2,3] 3 0 1 g 4=some true:=by
 unfold qm
 simp
theorem z298_0(ha:Nr 1000 a)(hb:Nr 1000 b)(hc:Nr 1000 c)(hd:Nr 1000 d):z298 [ptQ a,ptQ b,ptQ c,ptQ d] [0,1,2,3] 0=some (xU d a b c):=by
 have f:=z313_int hd ha hb hc
 have e:idx [(0:Int),1,2,3] 0=some 0:=rfl
 unfold xU
 rw[z298_eq,z312_0 ha hb hc hd,Option.bind_some]
 by_cases h:zf d a b≤0
 ·rw[if_pos (by simp[cmpI_le,h])]
  have h2:¬0<zf d a b:=by omega
  simp[h2]
 rw[if_neg (by simp[cmpI_le,h])]
 simp only[z299_4,e,Option.bind_some]
 rw[show decide (0<zf d a b)=true from decide_eq_true Oz,Bool.true_and]
 generalize (decide (0≤zf d a c)&&decide (0≤zf a b c)&&decide (0≤zf b d c))=t at *
 rw[zm]
 rw[za,earB_00]
 rw[za,earB_01]
 rw[za,earB_02 f]
 cases t
 case true=>rfl
 rw[if_neg Uz]
 rw[za,earB_03]
 rw[za,earB_04]
 rfl
theorem z312_1(ha:Nr 1000 a)(hb:Nr 1000 b)(hc:Nr 1000 c)(hd:Nr 1000 d):z312 [ptQ a,ptQ b,ptQ c,ptQ d] [0,1,2,3] 1=some (zV (zf a b c) 0):=by
 have f:=xW ha hb hc
 unfold z312
 simp[idx,z299_4,f]
theorem earB_10(g:Int→Option Bool):qm [ptQ a,ptQ b,ptQ c,ptQ d] [0,1,2,3] 0 1 2 g 0=g 1:=by
 unfold qm
 simp[idx,zp,zy]
theorem earB_11(g:Int→Option Bool):qm [ptQ a,ptQ b,ptQ c,ptQ d] [0,1,2,3] 0 1 2 g 1=g 2:=by
 unfold qm
 simp[idx,zp,zy]
theorem earB_12(g:Int→Option Bool):qm [ptQ a,ptQ b,ptQ c,ptQ d] [0,1,2,3] 0 1 2 g 2=g 3:=by
 unfold qm
 simp[idx,zp,zy]
theorem earB_13{t:Bool}(f:z313 (ptQ a) (ptQ b) (ptQ c) (ptQ d)=some t)(g:Int→Option Bool):qm [ptQ a,ptQ b,ptQ c,ptQ d] [0,1,2,3] 0 1 2 g 3=if t=true then some false else g 4:=by
 unfold qm
 simp[idx,zp,zy,f]
theorem earB_14(g:Int→Option Bool):qm [ptQ a,ptQ b,ptQ c,ptQ d] [0,1,2,3] 0 1 2 g 4=some true:=by
 unfold qm
 simp
theorem z298_1(ha:Nr 1000 a)(hb:Nr 1000 b)(hc:Nr 1000 c)(hd:Nr 1000 d):z298 [ptQ a,ptQ b,ptQ c,ptQ d] [0,1,2,3] 1=some (xU a b c d):=by
 have f:=z313_int ha hb hc hd
 have e:idx [(0:Int),1,2,3] 1=some 1:=rfl
 unfold xU
 rw[z298_eq,z312_1 ha hb hc hd,Option.bind_some]
 by_cases h:zf a b c≤0
 ·rw[if_pos (by simp[cmpI_le,h])]
  have h2:¬0<zf a b c:=by omega
  simp[h2]
 rw[if_neg (by simp[cmpI_le,h])]
 simp only[z299_4,e,Option.bind_some]
 rw[show decide (0<zf a b c)=true from decide_eq_true Oz,Bool.true_and]
 generalize (decide (0≤zf a b d)&&decide (0≤zf b c d)&&decide (0≤zf c a d))=t at *
 rw[zm]
 rw[za,earB_10]
 rw[za,earB_11]
 rw[za,earB_12]
 rw[za,earB_13 f]
 cases t
 case true=>rfl
 rw[if_neg Uz]
 rw[za,earB_14]
 rfl
theorem z312_2(ha:Nr 1000 a)(hb:Nr 1000 b)(hc:Nr 1000 c)(hd:Nr 1000 d):z312 [ptQ a,ptQ b,ptQ c,ptQ d] [0,1,2,3] 2=some (zV (zf b c d) 0):=by
 have f:=xW hb hc hd
 unfold z312
 simp[idx,z299_4,f]
theorem earB_20{t:Bool}(f:z313 (ptQ b) (ptQ c) (ptQ d) (ptQ a)=some t)(g:Int→Option Bool):qm [ptQ a,ptQ b,ptQ c,ptQ d] [0,1,2,3] 1 2 3 g 0=if t=true then some false else g 1:=by
 unfold qm
 simp[idx,zp,zy,f]
theorem earB_21(g:Int→Option Bool):qm [ptQ a,ptQ b,ptQ c,ptQ d] [0,1,2,3] 1 2 3 g 1=g 2:=by
 unfold qm
 simp[idx,zp,zy]
theorem earB_22(g:Int→Option Bool):qm [ptQ a,ptQ b,ptQ c,ptQ d] [0,1,2,3] 1 2 3 g 2=g 3:=by
 unfold qm
 simp[idx,zp,zy]
theorem earB_23(g:Int→Option Bool):qm [ptQ a,ptQ b,ptQ c,ptQ d] [0,1,2,3] 1 2 3 g 3=g 4:=by
 unfold qm
 simp[idx,zp,zy]
theorem earB_24(g:Int→Option Bool):qm [ptQ a,ptQ b,ptQ c,ptQ d] [0,1,2,3] 1 2 3 g 4=some true:=by
 unfold qm
 simp
theorem z298_2(ha:Nr 1000 a)(hb:Nr 1000 b)(hc:Nr 1000 c)(hd:Nr 1000 d):z298 [ptQ a,ptQ b,ptQ c,ptQ d] [0,1,2,3] 2=some (xU b c d a):=by
 have f:=z313_int hb hc hd ha
 have e:idx [(0:Int),1,2,3] 2=some 2:=rfl
 unfold xU
 rw[z298_eq,z312_2 ha hb hc hd,Option.bind_some]
 by_cases h:zf b c d≤0
 ·rw[if_pos (by simp[cmpI_le,h])]
  have h2:¬0<zf b c d:=by omega
  simp[h2]
 rw[if_neg (by simp[cmpI_le,h])]
 simp only[z299_4,e,Option.bind_some]
 rw[show decide (0<zf b c d)=true from decide_eq_true Oz,Bool.true_and]
 generalize (decide (0≤zf b c a)&&decide (0≤zf c d a)&&decide (0≤zf d b a))=t at *
 rw[zm]
 rw[za,earB_20 f]
 cases t
 case true=>rfl
 rw[if_neg Uz]
 rw[za,earB_21]
 rw[za,earB_22]
 rw[za,earB_23]
 rw[za,earB_24]
 rfl
end
end Go.Proofs.YtocnbjjmmgolfaaGreat
namespace Go.Proofs.YtocnbjjmmgolfaaGreat
open Go Go.M Go.Proofs.C14
set_option linter.unusedSimpArgs false
section
variable{a b c d:Int×Int}
theorem z301_4:z301 [0,1,2,3] 0=some [1,2,3]∧z301 [0,1,2,3] 1=some [0,2,3]∧z301 [0,1,2,3] 2=some [0,1,3]∧z301 [0,1,2,3] 3=some [0,1,2]:=by
 refine⟨?_,?_,?_,?_⟩<;>(unfold z301;rw[zm];kernel_rfl)
noncomputable def clrB(a0:List (Rat×Rat))(g1:(Int×List Int)→Option (List Int))(x1:Int×List Int):Option (List Int):=(if (decide (3<(x1.2.length:Int)))=true then(if (decide (x1.1<(x1.2.length:Int)))=true then((z312 a0 x1.2 x1.1).bind fun r2=>(if (decide (r2=0))=true then((z301 x1.2 x1.1).bind fun r3=>g1 (0,r3))else((i64 (x1.1+1)).bind fun n4=>g1 (n4,x1.2))))else some x1.2)else some x1.2)
theorem z300_eq(a0:List (Rat×Rat))(a1:List Int):z300 a0 a1 =  (zd (clrB a0) (zb 12) (0,a1)):=rfl
theorem z300_3{l:List (Rat×Rat)}{x y z:Int}:z300 l [x,y,z]=some [x,y,z]:=by
 have h:∀g,clrB l g (0,[x,y,z])=some [x,y,z]:=fun g=>by unfold clrB;simp
 rw[z300_eq,zm,za,h]
noncomputable def rcutB(a0:List (Rat×Rat))(x3:List Int×List (Int×Int×Int))(g3:(List Int×List (Int×Int×Int))→Option ((List (Int×Int×Int))×Int))(g4:Int→Option ((List (Int×Int×Int))×Int))(x4:Int):Option ((List (Int×Int×Int))×Int):=((i64 ((x3.1.length:Int)-1)).bind fun n5=>(if (decide (x4<n5))=true then((z298 a0 x3.1 x4).bind fun r6=>(if (!r6)=true then((i64 (x4+1)).bind fun n7=>g4 n7)else((idx x3.1 x4).bind fun x8=>((z299 x3.1 x4 (-1)).bind fun r9=>((z299 x3.1 x4 1).bind fun r10=>((app x3.2 [(r9,x8,r10)]).bind fun l11=>((z301 x3.1 x4).bind fun r12=>((z300 a0 r12).bind fun r13=>g3 (r13,l11)))))))))else((idx x3.1 x4).bind fun x14=>((z299 x3.1 x4 (-1)).bind fun r15=>((z299 x3.1 x4 1).bind fun r16=>((app x3.2 [(r15,x14,r16)]).bind fun l17=>((z301 x3.1 x4).bind fun r18=>((z300 a0 r18).bind fun r19=>g3 (r19,l17)))))))))
noncomputable def rcutA(a0:List (Rat×Rat))(g3:(List Int×List (Int×Int×Int))→Option ((List (Int×Int×Int))×Int))(x3:List Int×List (Int×Int×Int)):Option ((List (Int×Int×Int))×Int):=(if (decide (3<(x3.1.length:Int)))=true then(zd (rcutB a0 x3 g3) (zb 12) 0)else((idx x3.1 0).bind fun x20=>((idx x3.1 1).bind fun x21=>((idx x3.1 2).bind fun x22=>((app x3.2 [(x20,x21,x22)]).bind fun l23=>some (l23,0))))))
theorem z280_eq(a0:List (Rat×Rat)):z280 a0 =  ((z92 a0).bind fun r1=>(if (!r1)=true then some ([],1)else((z297 (a0.length:Int)).bind fun r2=>(zd (rcutA a0) (zb 12) (r2,[]))))):=rfl
theorem rcutB_0t(f:z298 [ptQ a,ptQ b,ptQ c,ptQ d] [0,1,2,3] 0=some true)(g:(List Int×List (Int×Int×Int))→Option ((List (Int×Int×Int))×Int))(g4:Int→Option ((List (Int×Int×Int))×Int)):rcutB [ptQ a,ptQ b,ptQ c,ptQ d] ([0,1,2,3],[]) g g4 0=g ([1,2,3],[(3,0,1)]):=by
 unfold rcutB
 simp[idx,zp,zy,f,z299_4,z301_4,z300_3,app]
theorem rcutB_0f(f:z298 [ptQ a,ptQ b,ptQ c,ptQ d] [0,1,2,3] 0=some false)(g:(List Int×List (Int×Int×Int))→Option ((List (Int×Int×Int))×Int))(g4:Int→Option ((List (Int×Int×Int))×Int)):rcutB [ptQ a,ptQ b,ptQ c,ptQ d] ([0,1,2,3],[]) g g4 0=g4 1:=by
 unfold rcutB
 simp[idx,zp,zy,f]
theorem rcutB_1t(f:z298 [ptQ a,ptQ b,ptQ c,ptQ d] [0,1,2,3] 1=some true)(g:(List Int×List (Int×Int×Int))→Option ((List (Int×Int×Int))×Int))(g4:Int→Option ((List (Int×Int×Int))×Int)):rcutB [ptQ a,ptQ b,ptQ c,ptQ d] ([0,1,2,3],[]) g g4 1=g ([0,2,3],[(0,1,2)]):=by
 unfold rcutB
 simp[idx,zp,zy,f,z299_4,z301_4,z300_3,app]
theorem rcutB_1f(f:z298 [ptQ a,ptQ b,ptQ c,ptQ d] [0,1,2,3] 1=some false)(g:(List Int×List (Int×Int×Int))→Option ((List (Int×Int×Int))×Int))(g4:Int→Option ((List (Int×Int×Int))×Int)):rcutB [ptQ a,ptQ b,ptQ c,ptQ d] ([0,1,2,3],[]) g g4 1=g4 2:=by
 unfold rcutB
 simp[idx,zp,zy,f]
theorem rcutB_2t(f:z298 [ptQ a,ptQ b,ptQ c,ptQ d] [0,1,2,3] 2=some true)(g:(List Int×List (Int×Int×Int))→Option ((List (Int×Int×Int))×Int))(g4:Int→Option ((List (Int×Int×Int))×Int)):rcutB [ptQ a,ptQ b,ptQ c,ptQ d] ([0,1,2,3],[]) g g4 2=g ([0,1,3],[(1,2,3)]):=by
 unfold rcutB
 simp[idx,zp,zy,f,z299_4,z301_4,z300_3,app]
theorem rcutB_2f(f:z298 [ptQ a,ptQ b,ptQ c,ptQ d] [0,1,2,3] 2=some false)(g:(List Int×List (Int×Int×Int))→Option ((List (Int×Int×Int))×Int))(g4:Int→Option ((List (Int×Int×Int))×Int)):rcutB [ptQ a,ptQ b,ptQ c,ptQ d] ([0,1,2,3],[]) g g4 2=g4 3:=by
 unfold rcutB
 simp[idx,zp,zy,f]
theorem rcutB_3(g:(List Int×List (Int×Int×Int))→Option ((List (Int×Int×Int))×Int))(g4:Int→Option ((List (Int×Int×Int))×Int)):rcutB [ptQ a,ptQ b,ptQ c,ptQ d] ([0,1,2,3],[]) g g4 3=g ([0,1,2],[(2,3,0)]):=by
 unfold rcutB
 simp[idx,zp,zy,z299_4,z301_4,z300_3,app]
theorem rcutA_3{l:List (Rat×Rat)}{x y z:Int}{t:Int×Int×Int}(g:(List Int×List (Int×Int×Int))→Option ((List (Int×Int×Int))×Int)):rcutA l g ([x,y,z],[t])=some ([t,(x,y,z)],0):=by
 unfold rcutA
 simp[idx,app]
def trisI(a b c d:Int×Int):List (Int×Int×Int):=if xU d a b c=true then [(3,0,1),(1,2,3)]else if xU a b c d=true then [(0,1,2),(0,2,3)]else if xU b c d a=true then [(1,2,3),(0,1,3)]else [(2,3,0),(0,1,2)]
theorem rcutA_4(ha:Nr 1000 a)(hb:Nr 1000 b)(hc:Nr 1000 c)(hd:Nr 1000 d)(g:(List Int×List (Int×Int×Int))→Option ((List (Int×Int×Int))×Int)):rcutA [ptQ a,ptQ b,ptQ c,ptQ d] g ([0,1,2,3],[])=zd (rcutB [ptQ a,ptQ b,ptQ c,ptQ d] ([0,1,2,3],[]) g) 12 0:=by
 unfold rcutA
 rw[zm]
 rfl
theorem z280_int(ha:Nr 1000 a)(hb:Nr 1000 b)(hc:Nr 1000 c)(hd:Nr 1000 d)(hv:quadR a b c d=true):z280 [ptQ a,ptQ b,ptQ c,ptQ d]=some (trisI a b c d,0):=by
 have f0:=z298_0 ha hb hc hd
 have f1:=z298_1 ha hb hc hd
 have f2:=z298_2 ha hb hc hd
 have e:(([ptQ a,ptQ b,ptQ c,ptQ d]:List (Rat×Rat)).length:Int)=4:=rfl
 rw[z280_eq,z92_int ha hb hc hd,hv,Option.bind_some,if_neg Uz,e,z297_4,Option.bind_some,zm]
 unfold trisI
 rw[za,rcutA_4 ha hb hc hd]
 cases h0:xU d a b c
 case true=>rw[h0]at f0;rw[za,rcutB_0t f0,za,rcutA_3];rfl
 rw[h0]at f0
 rw[za,rcutB_0f f0]
 cases h1:xU a b c d
 case true=>rw[h1]at f1;rw[za,rcutB_1t f1,za,rcutA_3];rfl
 rw[h1]at f1
 rw[za,rcutB_1f f1]
 cases h2:xU b c d a
 case true=>rw[h2]at f2;rw[za,rcutB_2t f2,za,rcutA_3];rfl
 rw[h2]at f2
 rw[za,rcutB_2f f2,za,rcutB_3,za,rcutA_3]
 rfl
end
end Go.Proofs.YtocnbjjmmgolfaaGreat
namespace Go.Proofs.YtocnbjjmmgolfaaGreat
open Go Go.M Go.Proofs.C14
set_option linter.unusedSimpArgs false
section
variable{a b c d:Int×Int}
theorem pc43_00(ha:Nr 1000 a)(hb:Nr 1000 b)(hc:Nr 1000 c)(hd:Nr 1000 d)(g5 g35 g43:Int→Option ((List (Int×Int×Int))×Int)):qk (4,[ptQ a,ptQ b,ptQ c,ptQ d],[0,1,2,3]) 0 (ptQ d) (ptQ a) (ptQ b) 2 2 g5 g35 g43 0=if zf d a c<0 then g35 3 else g43 1:=by
 have f:=yf hd ha hc
 unfold qk
 simp[idx,zp,zy,f,cmpI_neg]
theorem pc43_01(ha:Nr 1000 a)(hb:Nr 1000 b)(hc:Nr 1000 c)(hd:Nr 1000 d)(g5 g35 g43:Int→Option ((List (Int×Int×Int))×Int)):qk (4,[ptQ a,ptQ b,ptQ c,ptQ d],[0,1,2,3]) 0 (ptQ d) (ptQ a) (ptQ b) 2 2 g5 g35 g43 1=if zf a b c<0 then g35 3 else g43 2:=by
 have f:=yf ha hb hc
 unfold qk
 simp[idx,zp,zy,f,cmpI_neg]
theorem pc43_02(ha:Nr 1000 a)(hb:Nr 1000 b)(hc:Nr 1000 c)(hd:Nr 1000 d)(g5 g35 g43:Int→Option ((List (Int×Int×Int))×Int)):qk (4,[ptQ a,ptQ b,ptQ c,ptQ d],[0,1,2,3]) 0 (ptQ d) (ptQ a) (ptQ b) 2 2 g5 g35 g43 2=if zf b d c<0 then g35 3 else g43 3:=by
 have f:=yf hb hd hc
 unfold qk
 simp[idx,zp,zy,f,cmpI_neg]
theorem pc43_03(g5 g35 g43:Int→Option ((List (Int×Int×Int))×Int)):qk (4,[ptQ a,ptQ b,ptQ c,ptQ d],[0,1,2,3]) 0 (ptQ d) (ptQ a) (ptQ b) 2 2 g5 g35 g43 3=g5 1:=by
 unfold qk
 simp[zp,zy]
theorem pc35_00(g5 g35:Int→Option ((List (Int×Int×Int))×Int)):xc (4,[ptQ a,ptQ b,ptQ c,ptQ d],[0,1,2,3]) 0 3 1 (ptQ d) (ptQ a) (ptQ b) g5 g35 0=g35 1:=by
 unfold xc
 simp[idx,zp,zy]
theorem pc35_01(g5 g35:Int→Option ((List (Int×Int×Int))×Int)):xc (4,[ptQ a,ptQ b,ptQ c,ptQ d],[0,1,2,3]) 0 3 1 (ptQ d) (ptQ a) (ptQ b) g5 g35 1=g35 2:=by
 unfold xc
 simp[idx,zp,zy]
theorem pc35_02e(g5 g35:Int→Option ((List (Int×Int×Int))×Int)):xc (4,[ptQ a,ptQ b,ptQ c,ptQ d],[0,1,2,3]) 0 3 1 (ptQ d) (ptQ a) (ptQ b) g5 g35 2=zd (qk (4,[ptQ a,ptQ b,ptQ c,ptQ d],[0,1,2,3]) 0 (ptQ d) (ptQ a) (ptQ b) 2 2 g5 g35) (zb 12) 0:=by
 unfold xc
 generalize qk=B
 simp[idx,zp,zy]
theorem pc35_02(ha:Nr 1000 a)(hb:Nr 1000 b)(hc:Nr 1000 c)(hd:Nr 1000 d)(g5 g35:Int→Option ((List (Int×Int×Int))×Int)):xc (4,[ptQ a,ptQ b,ptQ c,ptQ d],[0,1,2,3]) 0 3 1 (ptQ d) (ptQ a) (ptQ b) g5 g35 2=if (decide (0≤zf d a c)&&decide (0≤zf a b c)&&decide (0≤zf b d c))=true then g5 1 else g35 3:=by
 rw[pc35_02e,zm,za,pc43_00 ha hb hc hd]
 by_cases h1:zf d a c<0
 ·have:¬0≤zf d a c:=by omega
  simp only[h1,this,if_true,decide_false,Bool.false_and,Bool.false_eq_true,if_false]
 rw[if_neg h1,za,pc43_01 ha hb hc hd]
 by_cases h2:zf a b c<0
 ·have:¬0≤zf a b c:=by omega
  simp only[h2,this,if_true,decide_false,Bool.false_and,Bool.and_false,Bool.false_eq_true,if_false]
 rw[if_neg h2,za,pc43_02 ha hb hc hd]
 by_cases h3:zf b d c<0
 ·have:¬0≤zf b d c:=by omega
  simp only[h3,this,if_true,decide_false,Bool.false_and,Bool.and_false,Bool.false_eq_true,if_false]
 rw[if_neg h3,za,pc43_03,if_pos]
 simp only[Bool.and_eq_true,decide_eq_true_eq]
 omega
theorem pc35_03(g5 g35:Int→Option ((List (Int×Int×Int))×Int)):xc (4,[ptQ a,ptQ b,ptQ c,ptQ d],[0,1,2,3]) 0 3 1 (ptQ d) (ptQ a) (ptQ b) g5 g35 3=g35 4:=by
 unfold xc
 simp[idx,zp,zy]
theorem pc35_04(g5 g35:Int→Option ((List (Int×Int×Int))×Int)):xc (4,[ptQ a,ptQ b,ptQ c,ptQ d],[0,1,2,3]) 0 3 1 (ptQ d) (ptQ a) (ptQ b) g5 g35 4=some ([(3,0,1),(1,2,3)],0):=by
 unfold xc
 simp[idx,zp,zy,delZ,app]
theorem pc5_0e{s:Int}(f:z241 (ptQ d) (ptQ a) (ptQ b)=some s)(g5:Int→Option ((List (Int×Int×Int))×Int)):pc5 (4,[ptQ a,ptQ b,ptQ c,ptQ d],[0,1,2,3]) g5 0=if s≤0 then g5 1 else zd (xc (4,[ptQ a,ptQ b,ptQ c,ptQ d],[0,1,2,3]) 0 3 1 (ptQ d) (ptQ a) (ptQ b) g5) (zb 12) 0:=by
 unfold pc5
 generalize xc=B
 simp[idx,zp,zy,f]
theorem pc5_0(ha:Nr 1000 a)(hb:Nr 1000 b)(hc:Nr 1000 c)(hd:Nr 1000 d)(g5:Int→Option ((List (Int×Int×Int))×Int)):pc5 (4,[ptQ a,ptQ b,ptQ c,ptQ d],[0,1,2,3]) g5 0=if xU d a b c=true then some ([(3,0,1),(1,2,3)],0)else g5 1:=by
 rw[pc5_0e (yf hd ha hb),zm]
 unfold xU
 by_cases h:zf d a b≤0
 ·have h2:¬0<zf d a b:=by omega
  rw[if_pos (cmpI_le.mpr h)]
  simp only[h2,decide_false,Bool.false_and,Bool.false_eq_true,if_false]
 rw[if_neg (fun e=>h (cmpI_le.mp e)),show decide (0<zf d a b)=true from decide_eq_true Oz,Bool.true_and]
 have e:=pc35_02 ha hb hc hd g5
 generalize (decide (0≤zf d a c)&&decide (0≤zf a b c)&&decide (0≤zf b d c))=t at *
 rw[za,pc35_00]
 rw[za,pc35_01]
 rw[za,e]
 cases t
 case true=>rw[if_pos rfl,if_neg Uz]
 rw[if_neg Uz,if_pos Uz]
 rw[za,pc35_03]
 rw[za,pc35_04]
theorem pc43_10(ha:Nr 1000 a)(hb:Nr 1000 b)(hc:Nr 1000 c)(hd:Nr 1000 d)(g5 g35 g43:Int→Option ((List (Int×Int×Int))×Int)):qk (4,[ptQ a,ptQ b,ptQ c,ptQ d],[0,1,2,3]) 1 (ptQ a) (ptQ b) (ptQ c) 3 3 g5 g35 g43 0=if zf a b d<0 then g35 4 else g43 1:=by
 have f:=yf ha hb hd
 unfold qk
 simp[idx,zp,zy,f,cmpI_neg]
theorem pc43_11(ha:Nr 1000 a)(hb:Nr 1000 b)(hc:Nr 1000 c)(hd:Nr 1000 d)(g5 g35 g43:Int→Option ((List (Int×Int×Int))×Int)):qk (4,[ptQ a,ptQ b,ptQ c,ptQ d],[0,1,2,3]) 1 (ptQ a) (ptQ b) (ptQ c) 3 3 g5 g35 g43 1=if zf b c d<0 then g35 4 else g43 2:=by
 have f:=yf hb hc hd
 unfold qk
 simp[idx,zp,zy,f,cmpI_neg]
theorem pc43_12(ha:Nr 1000 a)(hb:Nr 1000 b)(hc:Nr 1000 c)(hd:Nr 1000 d)(g5 g35 g43:Int→Option ((List (Int×Int×Int))×Int)):qk (4,[ptQ a,ptQ b,ptQ c,ptQ d],[0,1,2,3]) 1 (ptQ a) (ptQ b) (ptQ c) 3 3 g5 g35 g43 2=if zf c a d<0 then g35 4 else g43 3:=by
 have f:=yf hc ha hd
 unfold qk
 simp[idx,zp,zy,f,cmpI_neg]
theorem pc43_13(g5 g35 g43:Int→Option ((List (Int×Int×Int))×Int)):qk (4,[ptQ a,ptQ b,ptQ c,ptQ d],[0,1,2,3]) 1 (ptQ a) (ptQ b) (ptQ c) 3 3 g5 g35 g43 3=g5 2:=by
 unfold qk
 simp[zp,zy]
theorem pc35_10(g5 g35:Int→Option ((List (Int×Int×Int))×Int)):xc (4,[ptQ a,ptQ b,ptQ c,ptQ d],[0,1,2,3]) 1 0 2 (ptQ a) (ptQ b) (ptQ c) g5 g35 0=g35 1:=by
 unfold xc
 simp[idx,zp,zy]
theorem pc35_11(g5 g35:Int→Option ((List (Int×Int×Int))×Int)):xc (4,[ptQ a,ptQ b,ptQ c,ptQ d],[0,1,2,3]) 1 0 2 (ptQ a) (ptQ b) (ptQ c) g5 g35 1=g35 2:=by
 unfold xc
 simp[idx,zp,zy]
theorem pc35_12(g5 g35:Int→Option ((List (Int×Int×Int))×Int)):xc (4,[ptQ a,ptQ b,ptQ c,ptQ d],[0,1,2,3]) 1 0 2 (ptQ a) (ptQ b) (ptQ c) g5 g35 2=g35 3:=by
 unfold xc
 simp[idx,zp,zy]
theorem pc35_13e(g5 g35:Int→Option ((List (Int×Int×Int))×Int)):xc (4,[ptQ a,ptQ b,ptQ c,ptQ d],[0,1,2,3]) 1 0 2 (ptQ a) (ptQ b) (ptQ c) g5 g35 3=zd (qk (4,[ptQ a,ptQ b,ptQ c,ptQ d],[0,1,2,3]) 1 (ptQ a) (ptQ b) (ptQ c) 3 3 g5 g35) (zb 12) 0:=by
 unfold xc
 generalize qk=B
 simp[idx,zp,zy]
theorem pc35_13(ha:Nr 1000 a)(hb:Nr 1000 b)(hc:Nr 1000 c)(hd:Nr 1000 d)(g5 g35:Int→Option ((List (Int×Int×Int))×Int)):xc (4,[ptQ a,ptQ b,ptQ c,ptQ d],[0,1,2,3]) 1 0 2 (ptQ a) (ptQ b) (ptQ c) g5 g35 3=if (decide (0≤zf a b d)&&decide (0≤zf b c d)&&decide (0≤zf c a d))=true then g5 2 else g35 4:=by
 rw[pc35_13e,zm,za,pc43_10 ha hb hc hd]
 by_cases h1:zf a b d<0
 ·have:¬0≤zf a b d:=by omega
  simp only[h1,this,if_true,decide_false,Bool.false_and,Bool.false_eq_true,if_false]
 rw[if_neg h1,za,pc43_11 ha hb hc hd]
 by_cases h2:zf b c d<0
 ·have:¬0≤zf b c d:=by omega
  simp only[h2,this,if_true,decide_false,Bool.false_and,Bool.and_false,Bool.false_eq_true,if_false]
 rw[if_neg h2,za,pc43_12 ha hb hc hd]
 by_cases h3:zf c a d<0
 ·have:¬0≤zf c a d:=by omega
  simp only[h3,this,if_true,decide_false,Bool.false_and,Bool.and_false,Bool.false_eq_true,if_false]
 rw[if_neg h3,za,pc43_13,if_pos]
 simp only[Bool.and_eq_true,decide_eq_true_eq]
 omega
theorem pc35_14(g5 g35:Int→Option ((List (Int×Int×Int))×Int)):xc (4,[ptQ a,ptQ b,ptQ c,ptQ d],[0,1,2,3]) 1 0 2 (ptQ a) (ptQ b) (ptQ c) g5 g35 4=some ([(0,1,2),(0,2,3)],0):=by
 unfold xc
 simp[idx,zp,zy,delZ,app]
theorem pc5_1e{s:Int}(f:z241 (ptQ a) (ptQ b) (ptQ c)=some s)(g5:Int→Option ((List (Int×Int×Int))×Int)):pc5 (4,[ptQ a,ptQ b,ptQ c,ptQ d],[0,1,2,3]) g5 1=if s≤0 then g5 2 else zd (xc (4,[ptQ a,ptQ b,ptQ c,ptQ d],[0,1,2,3]) 1 0 2 (ptQ a) (ptQ b) (ptQ c) g5) (zb 12) 0:=by
 unfold pc5
 generalize xc=B
 simp[idx,zp,zy,f]
theorem pc5_1(ha:Nr 1000 a)(hb:Nr 1000 b)(hc:Nr 1000 c)(hd:Nr 1000 d)(g5:Int→Option ((List (Int×Int×Int))×Int)):pc5 (4,[ptQ a,ptQ b,ptQ c,ptQ d],[0,1,2,3]) g5 1=if xU a b c d=true then some ([(0,1,2),(0,2,3)],0)else g5 2:=by
 rw[pc5_1e (yf ha hb hc),zm]
 unfold xU
 by_cases h:zf a b c≤0
 ·have h2:¬0<zf a b c:=by omega
  rw[if_pos (cmpI_le.mpr h)]
  simp only[h2,decide_false,Bool.false_and,Bool.false_eq_true,if_false]
 rw[if_neg (fun e=>h (cmpI_le.mp e)),show decide (0<zf a b c)=true from decide_eq_true Oz,Bool.true_and]
 have e:=pc35_13 ha hb hc hd g5
 generalize (decide (0≤zf a b d)&&decide (0≤zf b c d)&&decide (0≤zf c a d))=t at *
 rw[za,pc35_10]
 rw[za,pc35_11]
 rw[za,pc35_12]
 rw[za,e]
 cases t
 case true=>rw[if_pos rfl,if_neg Uz]
 rw[if_neg Uz,if_pos Uz]
 rw[za,pc35_14]
theorem pc43_20(ha:Nr 1000 a)(hb:Nr 1000 b)(hc:Nr 1000 c)(hd:Nr 1000 d)(g5 g35 g43:Int→Option ((List (Int×Int×Int))×Int)):qk (4,[ptQ a,ptQ b,ptQ c,ptQ d],[0,1,2,3]) 2 (ptQ b) (ptQ c) (ptQ d) 0 0 g5 g35 g43 0=if zf b c a<0 then g35 1 else g43 1:=by
 have f:=yf hb hc ha
 unfold qk
 simp[idx,zp,zy,f,cmpI_neg]
theorem pc43_21(ha:Nr 1000 a)(hb:Nr 1000 b)(hc:Nr 1000 c)(hd:Nr 1000 d)(g5 g35 g43:Int→Option ((List (Int×Int×Int))×Int)):qk (4,[ptQ a,ptQ b,ptQ c,ptQ d],[0,1,2,3]) 2 (ptQ b) (ptQ c) (ptQ d) 0 0 g5 g35 g43 1=if zf c d a<0 then g35 1 else g43 2:=by
 have f:=yf hc hd ha
 unfold qk
 simp[idx,zp,zy,f,cmpI_neg]
theorem pc43_22(ha:Nr 1000 a)(hb:Nr 1000 b)(hc:Nr 1000 c)(hd:Nr 1000 d)(g5 g35 g43:Int→Option ((List (Int×Int×Int))×Int)):qk (4,[ptQ a,ptQ b,ptQ c,ptQ d],[0,1,2,3]) 2 (ptQ b) (ptQ c) (ptQ d) 0 0 g5 g35 g43 2=if zf d b a<0 then g35 1 else g43 3:=by
 have f:=yf hd hb ha
 unfold qk
 simp[idx,zp,zy,f,cmpI_neg]
theorem pc43_23(g5 g35 g43:Int→Option ((List (Int×Int×Int))×Int)):qk (4,[ptQ a,ptQ b,ptQ c,ptQ d],[0,1,2,3]) 2 (ptQ b) (ptQ c) (ptQ d) 0 0 g5 g35 g43 3=g5 3:=by
 unfold qk
 simp[zp,zy]
theorem pc35_20e(g5 g35:Int→Option ((List (Int×Int×Int))×Int)):xc (4,[ptQ a,ptQ b,ptQ c,ptQ d],[0,1,2,3]) 2 1 3 (ptQ b) (ptQ c) (ptQ d) g5 g35 0=zd (qk (4,[ptQ a,ptQ b,ptQ c,ptQ d],[0,1,2,3]) 2 (ptQ b) (ptQ c) (ptQ d) 0 0 g5 g35) (zb 12) 0:=by
 unfold xc
 generalize qk=B
 simp[idx,zp,zy]
theorem pc35_20(ha:Nr 1000 a)(hb:Nr 1000 b)(hc:Nr 1000 c)(hd:Nr 1000 d)(g5 g35:Int→Option ((List (Int×Int×Int))×Int)):xc (4,[ptQ a,ptQ b,ptQ c,ptQ d],[0,1,2,3]) 2 1 3 (ptQ b) (ptQ c) (ptQ d) g5 g35 0=if (decide (0≤zf b c a)&&decide (0≤zf c d a)&&decide (0≤zf d b a))=true then g5 3 else g35 1:=by
 rw[pc35_20e,zm,za,pc43_20 ha hb hc hd]
 by_cases h1:zf b c a<0
 ·have:¬0≤zf b c a:=by omega
  simp only[h1,this,if_true,decide_false,Bool.false_and,Bool.false_eq_true,if_false]
 rw[if_neg h1,za,pc43_21 ha hb hc hd]
 by_cases h2:zf c d a<0
 ·have:¬0≤zf c d a:=by omega
  simp only[h2,this,if_true,decide_false,Bool.false_and,Bool.and_false,Bool.false_eq_true,if_false]
 rw[if_neg h2,za,pc43_22 ha hb hc hd]
 by_cases h3:zf d b a<0
 ·have:¬0≤zf d b a:=by omega
  simp only[h3,this,if_true,decide_false,Bool.false_and,Bool.and_false,Bool.false_eq_true,if_false]
 rw[if_neg h3,za,pc43_23,if_pos]
 simp only[Bool.and_eq_true,decide_eq_true_eq]
 omega
theorem pc35_21(g5 g35:Int→Option ((List (Int×Int×Int))×Int)):xc (4,[ptQ a,ptQ b,ptQ c,ptQ d],[0,1,2,3]) 2 1 3 (ptQ b) (ptQ c) (ptQ d) g5 g35 1=g35 2:=by
 unfold xc
 simp[idx,zp,zy]
theorem pc35_22(g5 g35:Int→Option ((List (Int×Int×Int))×Int)):xc (4,[ptQ a,ptQ b,ptQ c,ptQ d],[0,1,2,3]) 2 1 3 (ptQ b) (ptQ c) (ptQ d) g5 g35 2=g35 3:=by
 unfold xc
 simp[idx,zp,zy]
theorem pc35_23(g5 g35:Int→Option ((List (Int×Int×Int))×Int)):xc (4,[ptQ a,ptQ b,ptQ c,ptQ d],[0,1,2,3]) 2 1 3 (ptQ b) (ptQ c) (ptQ d) g5 g35 3=g35 4:=by
 unfold xc
 simp[idx,zp,zy]
theorem pc35_24(g5 g35:Int→Option ((List (Int×Int×Int))×Int)):xc (4,[ptQ a,ptQ b,ptQ c,ptQ d],[0,1,2,3]) 2 1 3 (ptQ b) (ptQ c) (ptQ d) g5 g35 4=some ([(1,2,3),(0,1,3)],0):=by
 unfold xc
 simp[idx,zp,zy,delZ,app]
theorem pc5_2e{s:Int}(f:z241 (ptQ b) (ptQ c) (ptQ d)=some s)(g5:Int→Option ((List (Int×Int×Int))×Int)):pc5 (4,[ptQ a,ptQ b,ptQ c,ptQ d],[0,1,2,3]) g5 2=if s≤0 then g5 3 else zd (xc (4,[ptQ a,ptQ b,ptQ c,ptQ d],[0,1,2,3]) 2 1 3 (ptQ b) (ptQ c) (ptQ d) g5) (zb 12) 0:=by
 unfold pc5
 generalize xc=B
 simp[idx,zp,zy,f]
theorem pc5_2(ha:Nr 1000 a)(hb:Nr 1000 b)(hc:Nr 1000 c)(hd:Nr 1000 d)(g5:Int→Option ((List (Int×Int×Int))×Int)):pc5 (4,[ptQ a,ptQ b,ptQ c,ptQ d],[0,1,2,3]) g5 2=if xU b c d a=true then some ([(1,2,3),(0,1,3)],0)else g5 3:=by
 rw[pc5_2e (yf hb hc hd),zm]
 unfold xU
 by_cases h:zf b c d≤0
 ·have h2:¬0<zf b c d:=by omega
  rw[if_pos (cmpI_le.mpr h)]
  simp only[h2,decide_false,Bool.false_and,Bool.false_eq_true,if_false]
 rw[if_neg (fun e=>h (cmpI_le.mp e)),show decide (0<zf b c d)=true from decide_eq_true Oz,Bool.true_and]
 have e:=pc35_20 ha hb hc hd g5
 generalize (decide (0≤zf b c a)&&decide (0≤zf c d a)&&decide (0≤zf d b a))=t at *
 rw[za,e]
 cases t
 case true=>rw[if_pos rfl,if_neg Uz]
 rw[if_neg Uz,if_pos Uz]
 rw[za,pc35_21]
 rw[za,pc35_22]
 rw[za,pc35_23]
 rw[za,pc35_24]
theorem pc5_3(g5:Int→Option ((List (Int×Int×Int))×Int)):pc5 (4,[ptQ a,ptQ b,ptQ c,ptQ d],[0,1,2,3]) g5 3=some ([(2,3,0),(0,1,2)],0):=by
 unfold pc5
 generalize xc=B
 simp[idx,zp,zy,delZ,app]
theorem pc2_0{l:List (Rat×Rat)}(g:(Int×(List (Rat×Rat))×List Int)→Option ((List (Int×Int×Int))×Int)):pc2 [ptQ a,ptQ b,ptQ c,ptQ d] g (0,l,[])=g (1,l,[0]):=by
 unfold pc2
 generalize pc5=B
 simp[zp,zy,app]
theorem pc2_1{l:List (Rat×Rat)}(g:(Int×(List (Rat×Rat))×List Int)→Option ((List (Int×Int×Int))×Int)):pc2 [ptQ a,ptQ b,ptQ c,ptQ d] g (1,l,[0])=g (2,l,[0,1]):=by
 unfold pc2
 generalize pc5=B
 simp[zp,zy,app]
theorem pc2_2{l:List (Rat×Rat)}(g:(Int×(List (Rat×Rat))×List Int)→Option ((List (Int×Int×Int))×Int)):pc2 [ptQ a,ptQ b,ptQ c,ptQ d] g (2,l,[0,1])=g (3,l,[0,1,2]):=by
 unfold pc2
 generalize pc5=B
 simp[zp,zy,app]
theorem pc2_3{l:List (Rat×Rat)}(g:(Int×(List (Rat×Rat))×List Int)→Option ((List (Int×Int×Int))×Int)):pc2 [ptQ a,ptQ b,ptQ c,ptQ d] g (3,l,[0,1,2])=g (4,l,[0,1,2,3]):=by
 unfold pc2
 generalize pc5=B
 simp[zp,zy,app]
theorem pc2_4{l:List (Rat×Rat)}(g:(Int×(List (Rat×Rat))×List Int)→Option ((List (Int×Int×Int))×Int)):pc2 [ptQ a,ptQ b,ptQ c,ptQ d] g (4,l,[0,1,2,3])=zd (pc5 (4,l,[0,1,2,3])) (zb 12) 0:=by
 unfold pc2
 generalize pc5=B
 simp
theorem z263_int(ha:Nr 1000 a)(hb:Nr 1000 b)(hc:Nr 1000 c)(hd:Nr 1000 d)(hv:quadP a b c d=true):z263 [ptQ a,ptQ b,ptQ c,ptQ d]=some (trisI a b c d,0):=by
 unfold z263
 rw[z194_int ha hb hc hd,hv,Option.bind_some,if_neg Uz,zm]
 rw[za,pc2_0,za,pc2_1,za,pc2_2,za,pc2_3,za,pc2_4,zm]
 rw[za,pc5_0 ha hb hc hd,za,pc5_1 ha hb hc hd,za,pc5_2 ha hb hc hd,za,pc5_3]
 unfold trisI
 cases xU d a b c
 case true=>rfl
 cases xU a b c d
 case true=>rfl
 cases xU b c d a<;>rfl
end
end Go.Proofs.YtocnbjjmmgolfaaGreat
namespace Go.Proofs.YtocnbjjmmgolfaaGreat
open Go Go.M Go.Proofs.C14
set_option linter.unusedSimpArgs false
section
variable{a b c d:Int×Int}
def trisV(a b c d:Int×Int):List (List (Int×Int)):=if xU d a b c=true then [[d,a,b],[b,c,d]]else if xU a b c d=true then [[a,b,c],[a,c,d]]else if xU b c d a=true then [[b,c,d],[a,b,d]]else [[c,d,a],[a,b,c]]
def trisQ(l:List (List (Int×Int))):List (List (Rat×Rat)):=l.map fun t=>t.map ptQ
noncomputable def yC(a0:List (Rat×Rat))(r1:(List (Int×Int×Int))×Int)(g2:(Int×List (List (Rat×Rat)))→Option ((List (List (Rat×Rat)))×Int))(x2:Int×List (List (Rat×Rat))):Option ((List (List (Rat×Rat)))×Int):=(if (decide (x2.1<(r1.1.length:Int)))=true then((idx r1.1 x2.1).bind fun x3=>((idx a0 x3.1).bind fun x4=>((idx r1.1 x2.1).bind fun x5=>((idx a0 x5.2.1).bind fun x6=>((idx r1.1 x2.1).bind fun x7=>((idx a0 x7.2.2).bind fun x8=>((app x2.2 [[x4,x6,x8]]).bind fun l9=>((i64 (x2.1+1)).bind fun n10=>g2 (n10,l9)))))))))else some (x2.2,r1.2))
theorem z251_eq(a0:List (Rat×Rat)):z251 a0 =  ((z280 a0).bind fun r1=>(zd (yC a0 r1) (zb 12) (0,[]))):=rfl
theorem of251B_00(g:(Int×List (List (Rat×Rat)))→Option ((List (List (Rat×Rat)))×Int)):yC [ptQ a,ptQ b,ptQ c,ptQ d] ([(3,0,1),(1,2,3)],0) g (0,[])=g (1,[[ptQ d,ptQ a,ptQ b]]):=by
 unfold yC
 simp[idx,zp,zy,app]
theorem of251B_01(g:(Int×List (List (Rat×Rat)))→Option ((List (List (Rat×Rat)))×Int)):yC [ptQ a,ptQ b,ptQ c,ptQ d] ([(3,0,1),(1,2,3)],0) g (1,[[ptQ d,ptQ a,ptQ b]])=g (2,[[ptQ d,ptQ a,ptQ b],[ptQ b,ptQ c,ptQ d]]):=by
 unfold yC
 simp[idx,zp,zy,app]
theorem of251B_02(g:(Int×List (List (Rat×Rat)))→Option ((List (List (Rat×Rat)))×Int)):yC [ptQ a,ptQ b,ptQ c,ptQ d] ([(3,0,1),(1,2,3)],0) g (2,[[ptQ d,ptQ a,ptQ b],[ptQ b,ptQ c,ptQ d]])=some ([[ptQ d,ptQ a,ptQ b],[ptQ b,ptQ c,ptQ d]],0):=by
 unfold yC
 simp
theorem of251B_10(g:(Int×List (List (Rat×Rat)))→Option ((List (List (Rat×Rat)))×Int)):yC [ptQ a,ptQ b,ptQ c,ptQ d] ([(0,1,2),(0,2,3)],0) g (0,[])=g (1,[[ptQ a,ptQ b,ptQ c]]):=by
 unfold yC
 simp[idx,zp,zy,app]
theorem of251B_11(g:(Int×List (List (Rat×Rat)))→Option ((List (List (Rat×Rat)))×Int)):yC [ptQ a,ptQ b,ptQ c,ptQ d] ([(0,1,2),(0,2,3)],0) g (1,[[ptQ a,ptQ b,ptQ c]])=g (2,[[ptQ a,ptQ b,ptQ c],[ptQ a,ptQ c,ptQ d]]):=by
 unfold yC
 simp[idx,zp,zy,app]
theorem of251B_12(g:(Int×List (List (Rat×Rat)))→Option ((List (List (Rat×Rat)))×Int)):yC [ptQ a,ptQ b,ptQ c,ptQ d] ([(0,1,2),(0,2,3)],0) g (2,[[ptQ a,ptQ b,ptQ c],[ptQ a,ptQ c,ptQ d]])=some ([[ptQ a,ptQ b,ptQ c],[ptQ a,ptQ c,ptQ d]],0):=by
 unfold yC
 simp
theorem of251B_20(g:(Int×List (List (Rat×Rat)))→Option ((List (List (Rat×Rat)))×Int)):yC [ptQ a,ptQ b,ptQ c,ptQ d] ([(1,2,3),(0,1,3)],0) g (0,[])=g (1,[[ptQ b,ptQ c,ptQ d]]):=by
 unfold yC
 simp[idx,zp,zy,app]
theorem of251B_21(g:(Int×List (List (Rat×Rat)))→Option ((List (List (Rat×Rat)))×Int)):yC [ptQ a,ptQ b,ptQ c,ptQ d] ([(1,2,3),(0,1,3)],0) g (1,[[ptQ b,ptQ c,ptQ d]])=g (2,[[ptQ b,ptQ c,ptQ d],[ptQ a,ptQ b,ptQ d]]):=by
 unfold yC
 simp[idx,zp,zy,app]
theorem of251B_22(g:(Int×List (List (Rat×Rat)))→Option ((List (List (Rat×Rat)))×Int)):yC [ptQ a,ptQ b,ptQ c,ptQ d] ([(1,2,3),(0,1,3)],0) g (2,[[ptQ b,ptQ c,ptQ d],[ptQ a,ptQ b,ptQ d]])=some ([[ptQ b,ptQ c,ptQ d],[ptQ a,ptQ b,ptQ d]],0):=by
 unfold yC
 simp
theorem of251B_30(g:(Int×List (List (Rat×Rat)))→Option ((List (List (Rat×Rat)))×Int)):yC [ptQ a,ptQ b,ptQ c,ptQ d] ([(2,3,0),(0,1,2)],0) g (0,[])=g (1,[[ptQ c,ptQ d,ptQ a]]):=by
 unfold yC
 simp[idx,zp,zy,app]
theorem of251B_31(g:(Int×List (List (Rat×Rat)))→Option ((List (List (Rat×Rat)))×Int)):yC [ptQ a,ptQ b,ptQ c,ptQ d] ([(2,3,0),(0,1,2)],0) g (1,[[ptQ c,ptQ d,ptQ a]])=g (2,[[ptQ c,ptQ d,ptQ a],[ptQ a,ptQ b,ptQ c]]):=by
 unfold yC
 simp[idx,zp,zy,app]
theorem of251B_32(g:(Int×List (List (Rat×Rat)))→Option ((List (List (Rat×Rat)))×Int)):yC [ptQ a,ptQ b,ptQ c,ptQ d] ([(2,3,0),(0,1,2)],0) g (2,[[ptQ c,ptQ d,ptQ a],[ptQ a,ptQ b,ptQ c]])=some ([[ptQ c,ptQ d,ptQ a],[ptQ a,ptQ b,ptQ c]],0):=by
 unfold yC
 simp
theorem z251_int(ha:Nr 1000 a)(hb:Nr 1000 b)(hc:Nr 1000 c)(hd:Nr 1000 d)(hv:quadR a b c d=true):z251 [ptQ a,ptQ b,ptQ c,ptQ d]=some (trisQ (trisV a b c d),0):=by
 rw[z251_eq,z280_int ha hb hc hd hv,Option.bind_some,zm]
 unfold trisI trisV
 cases xU d a b c
 case true=>simp only[if_true];rw[za,of251B_00,za,of251B_01,za,of251B_02];rfl
 cases xU a b c d
 case true=>simp only[if_true,if_false,Bool.false_eq_true];rw[za,of251B_10,za,of251B_11,za,of251B_12];rfl
 cases xU b c d a
 case true=>simp only[if_true,if_false,Bool.false_eq_true];rw[za,of251B_20,za,of251B_21,za,of251B_22];rfl
 simp only[if_false,Bool.false_eq_true]
 rw[za,of251B_30,za,of251B_31,za,of251B_32]
 rfl
end
end Go.Proofs.YtocnbjjmmgolfaaGreat
namespace Go.Proofs.YtocnbjjmmgolfaaGreat
open Go Go.M Go.Proofs.C14
set_option linter.unusedSimpArgs false
theorem z121_twoQ{x y:Rat}(hx:Sm x)(hy:Sm y):z121 [x,y]=some (x+y):=by
 have h0:xn 0 x=some x:=by rw[yr Uz hx,Rat.zero_add]
 have h1:=yr hx hy
 unfold z121
 rw[zm,za]
 simp[idx,zp,h0]
 rw[za]
 simp[zp,h1]
 rw[za]
 simp
def qy(t p:Rat×Rat):Rat×Rat:=(t.1*p.1-t.2*p.2,t.2*p.1+t.1*p.2)
structure RotOK(t p:Rat×Rat):Prop where
 t1:Sm t.1
 t2:Sm t.2
 p1:Sm p.1
 p2:Sm p.2
 m1:Sm (t.1*p.1)
 m2:Sm (t.2*p.2)
 m3:Sm (t.2*p.1)
 m4:Sm (t.1*p.2)
theorem z40_rot{t p:Rat×Rat}(h:RotOK t p):z40 t p=some (qy t p):=by
 unfold z40
 simp only[yU h.t1 h.p1,yU h.t2 h.p2,yU h.t2 h.p1,yU h.t1 h.p2,Option.bind_some,qd h.m1 h.m2,yr h.m3 h.m4]
 rfl
theorem z125_rot{t p:Rat×Rat}(h:RotOK t p):z125 t p=some (qy t p):=by
 unfold z125
 simp only[yU h.t1 h.p1,yU h.t2 h.p2,yU h.t2 h.p1,yU h.t1 h.p2,Option.bind_some,xf h.m2,z121_twoQ h.m1 h.m2.neg,z121_twoQ h.m3 h.m4]
 unfold qy
 rw[Rat.sub_eq_add_neg]
end Go.Proofs.YtocnbjjmmgolfaaGreat
namespace Go.Proofs.YtocnbjjmmgolfaaGreat
open Go Go.M Go.Proofs.C14
set_option linter.unusedSimpArgs false
def xI(v:Pl)(p:Rat×Rat):Rat×Rat:=((qy v.1 p).1+v.2.1,(qy v.1 p).2+v.2.2)
structure PutOK(v:Pl)(p:Rat×Rat):Prop where
 r:RotOK v.1 p
 r1:Sm (qy v.1 p).1
 r2:Sm (qy v.1 p).2
 v1:Sm v.2.1
 v2:Sm v.2.2
theorem z264_put{v:Pl}{p:Rat×Rat}(h:PutOK v p):z264 v p=some (xI v p):=by
 unfold z264 z158
 rw[z125_rot h.r,Option.bind_some,yr h.r1 h.v1,Option.bind_some,yr h.r2 h.v2]
 rfl
theorem put_ref{v:Pl}{p:Rat×Rat}(h:PutOK v p):z40 v.1 p=some (qy v.1 p)∧z19 (qy v.1 p) v.2=some (xI v p):=by
 refine⟨z40_rot h.r,?_⟩
 unfold z19
 rw[yr h.r1 h.v1,Option.bind_some,yr h.r2 h.v2]
 rfl
noncomputable def mv252B(a0:Pl)(a1:List (Rat×Rat))(g1:(Int×List (Rat×Rat))→Option (List (Rat×Rat)))(x1:Int×List (Rat×Rat)):Option (List (Rat×Rat)):=(if (decide (x1.1<(a1.length:Int)))=true then((idx a1 x1.1).bind fun x2=>((z40 a0.1 x2).bind fun r3=>((z19 r3 a0.2).bind fun r4=>((app x1.2 [r4]).bind fun l5=>((i64 (x1.1+1)).bind fun n6=>g1 (n6,l5))))))else some x1.2)
theorem z252_eq(a0:(Rat×Rat)×Rat×Rat)(a1:List (Rat×Rat)):z252 a0 a1 =  (zd (mv252B a0 a1) (zb 12) (0,[])):=rfl
theorem mv252B_0{v:Pl}{p q r:Rat×Rat}(h:PutOK v p)(g:(Int×List (Rat×Rat))→Option (List (Rat×Rat))):mv252B v [p,q,r] g (0,[])=g (1,[xI v p]):=by
 have f:=put_ref h
 unfold mv252B
 simp[idx,zp,zy,f,app]
theorem mv252B_1{v:Pl}{p q r:Rat×Rat}(h:PutOK v q)(g:(Int×List (Rat×Rat))→Option (List (Rat×Rat))):mv252B v [p,q,r] g (1,[xI v p])=g (2,[xI v p,xI v q]):=by
 have f:=put_ref h
 unfold mv252B
 simp[idx,zp,zy,f,app]
theorem mv252B_2{v:Pl}{p q r:Rat×Rat}(h:PutOK v r)(g:(Int×List (Rat×Rat))→Option (List (Rat×Rat))):mv252B v [p,q,r] g (2,[xI v p,xI v q])=g (3,[xI v p,xI v q,xI v r]):=by
 have f:=put_ref h
 unfold mv252B
 simp[idx,zp,zy,f,app]
theorem mv252B_3{v:Pl}{p q r:Rat×Rat}{l:List (Rat×Rat)}(g:(Int×List (Rat×Rat))→Option (List (Rat×Rat))):mv252B v [p,q,r] g (3,l)=some l:=by
 unfold mv252B
 simp
theorem z252_put{v:Pl}{p q r:Rat×Rat}(hp:PutOK v p)(hq:PutOK v q)(hr:PutOK v r):z252 v [p,q,r]=some [xI v p,xI v q,xI v r]:=by
 rw[z252_eq,zm,za,mv252B_0 hp,za,mv252B_1 hq,za,mv252B_2 hr,za,mv252B_3]
noncomputable def mv225B(a0:Pl)(a1:List (Rat×Rat))(g1:(Int×List (Rat×Rat))→Option (List (Rat×Rat)))(x1:Int×List (Rat×Rat)):Option (List (Rat×Rat)):=(if (decide (x1.1<(a1.length:Int)))=true then((idx a1 x1.1).bind fun x2=>((z264 a0 x2).bind fun r3=>((app x1.2 [r3]).bind fun l4=>((i64 (x1.1+1)).bind fun n5=>g1 (n5,l4)))))else some x1.2)
theorem z225_eq(a0:(Rat×Rat)×Rat×Rat)(a1:List (Rat×Rat)):z225 a0 a1 =  (zd (mv225B a0 a1) (zb 12) (0,[])):=rfl
theorem mv225B_0{v:Pl}{p q r:Rat×Rat}(h:PutOK v p)(g:(Int×List (Rat×Rat))→Option (List (Rat×Rat))):mv225B v [p,q,r] g (0,[])=g (1,[xI v p]):=by
 have f:=z264_put h
 unfold mv225B
 simp[idx,zp,zy,f,app]
theorem mv225B_1{v:Pl}{p q r:Rat×Rat}(h:PutOK v q)(g:(Int×List (Rat×Rat))→Option (List (Rat×Rat))):mv225B v [p,q,r] g (1,[xI v p])=g (2,[xI v p,xI v q]):=by
 have f:=z264_put h
 unfold mv225B
 simp[idx,zp,zy,f,app]
theorem mv225B_2{v:Pl}{p q r:Rat×Rat}(h:PutOK v r)(g:(Int×List (Rat×Rat))→Option (List (Rat×Rat))):mv225B v [p,q,r] g (2,[xI v p,xI v q])=g (3,[xI v p,xI v q,xI v r]):=by
 have f:=z264_put h
 unfold mv225B
 simp[idx,zp,zy,f,app]
theorem mv225B_3{v:Pl}{p q r:Rat×Rat}{l:List (Rat×Rat)}(g:(Int×List (Rat×Rat))→Option (List (Rat×Rat))):mv225B v [p,q,r] g (3,l)=some l:=by
 unfold mv225B
 simp
theorem z225_put{v:Pl}{p q r:Rat×Rat}(hp:PutOK v p)(hq:PutOK v q)(hr:PutOK v r):z225 v [p,q,r]=some [xI v p,xI v q,xI v r]:=by
 rw[z225_eq,zm,za,mv225B_0 hp,za,mv225B_1 hq,za,mv225B_2 hr,za,mv225B_3]
end Go.Proofs.YtocnbjjmmgolfaaGreat
namespace Go.Proofs.YtocnbjjmmgolfaaGreat
open Go Go.M Go.Proofs.C14
set_option linter.unusedSimpArgs false
section
variable{a b c d:Int×Int}
def cellsQ(v:Pl)(l:List (List (Int×Int))):List (List (Rat×Rat)):=l.map fun t=>t.map fun p=>xI v (ptQ p)
noncomputable def clRB(a1:Pl)(r2:List (List (Rat×Rat))×Int)(g3:(Int×List (List (Rat×Rat)))→Option (List (List (Rat×Rat))))(x3:Int×List (List (Rat×Rat))):Option (List (List (Rat×Rat))):=(if (decide (x3.1<(r2.1.length:Int)))=true then((idx r2.1 x3.1).bind fun x4=>((z252 a1 x4).bind fun r5=>((app x3.2 [r5]).bind fun l6=>((i64 (x3.1+1)).bind fun n7=>g3 (n7,l6)))))else some x3.2)
theorem z209_eq(a0:Int×Int×(List (Int×Int))×List Bool×List Int×Rat×Rat×Rat×Rat×Rat)(a1:(Rat×Rat)×Rat×Rat):z209 a0 a1 =  ((z93 a0).bind fun r1=>((z251 r1).bind fun r2=>(zd (clRB a1 r2) (zb 12) (0,[])))):=rfl
theorem clRB_0{v:Pl}{t1 t2 u:List (Rat×Rat)}(f:z252 v t1=some u)(g:(Int×List (List (Rat×Rat)))→Option (List (List (Rat×Rat)))):clRB v ([t1,t2],0) g (0,[])=g (1,[u]):=by
 unfold clRB
 simp[idx,zp,zy,f,app]
theorem clRB_1{v:Pl}{t1 t2 u w:List (Rat×Rat)}(f:z252 v t2=some u)(g:(Int×List (List (Rat×Rat)))→Option (List (List (Rat×Rat)))):clRB v ([t1,t2],0) g (1,[w])=g (2,[w,u]):=by
 unfold clRB
 simp[idx,zp,zy,f,app]
theorem clRB_2{v:Pl}{t1 t2:List (Rat×Rat)}{l:List (List (Rat×Rat))}(g:(Int×List (List (Rat×Rat)))→Option (List (List (Rat×Rat)))):clRB v ([t1,t2],0) g (2,l)=some l:=by
 unfold clRB
 simp
theorem z209_int(ha:Nr 1000 a)(hb:Nr 1000 b)(hc:Nr 1000 c)(hd:Nr 1000 d){p:Pc}(hp:p.2.2.1=[a,b,c,d]){v:Pl}(hv:quadR a b c d=true)(ka:PutOK v (ptQ a))(kb:PutOK v (ptQ b))(kc:PutOK v (ptQ c))(kd:PutOK v (ptQ d)):z209 p v=some (cellsQ v (trisV a b c d)):=by
 rw[z209_eq,z93_int hp ha hb hc hd,Option.bind_some,z251_int ha hb hc hd hv,Option.bind_some,zm]
 unfold trisV trisQ cellsQ
 cases xU d a b c
 case true=>
  simp only[if_true,if_false,Bool.false_eq_true,List.map_cons,List.map_nil]
  rw[za,clRB_0 (z252_put kd ka kb),za,clRB_1 (z252_put kb kc kd),za,clRB_2]
 cases xU a b c d
 case true=>
  simp only[if_true,if_false,Bool.false_eq_true,List.map_cons,List.map_nil]
  rw[za,clRB_0 (z252_put ka kb kc),za,clRB_1 (z252_put ka kc kd),za,clRB_2]
 cases xU b c d a
 case true=>
  simp only[if_true,if_false,Bool.false_eq_true,List.map_cons,List.map_nil]
  rw[za,clRB_0 (z252_put kb kc kd),za,clRB_1 (z252_put ka kb kd),za,clRB_2]
 simp only[if_true,if_false,Bool.false_eq_true,List.map_cons,List.map_nil]
 rw[za,clRB_0 (z252_put kc kd ka),za,clRB_1 (z252_put ka kb kc),za,clRB_2]
noncomputable def clPM(a1:Pl)(x3:Int×List (List (Rat×Rat)))(g10:(Int×List (List (Rat×Rat)))→Option (List (List (Rat×Rat))))(x10:Int×List (List (Rat×Rat))):Option (List (List (Rat×Rat))):=(if (decide (x10.1<(x3.2.length:Int)))=true then((idx x10.2 x10.1).bind fun x11=>((idx x10.2 x10.1).bind fun x12=>((z225 a1 x12).bind fun r13=>((idx x10.2 x10.1).bind fun x14=>((idx x10.2 x10.1).bind fun x15=>((i64 (x10.1+1)).bind fun n16=>g10 (n16,(zt x10.2 (Int.toNat x10.1) r13))))))))else some x10.2)
noncomputable def clPB(a1:Pl)(r1:List (Rat×Rat))(r2:List (Int×Int×Int)×Int)(g3:(Int×List (List (Rat×Rat)))→Option (List (List (Rat×Rat))))(x3:Int×List (List (Rat×Rat))):Option (List (List (Rat×Rat))):=(if (decide (x3.1<(r2.1.length:Int)))=true then((idx r2.1 x3.1).bind fun x4=>((idx r1 x4.1).bind fun x5=>((idx r1 x4.2.1).bind fun x6=>((idx r1 x4.2.2).bind fun x7=>((app x3.2 [[x5,x6,x7]]).bind fun l8=>((i64 (x3.1+1)).bind fun n9=>g3 (n9,l8)))))))else(zd (clPM a1 x3) (zb 12) (0,x3.2)))
theorem z162_eq(a0:Int×Int×(List (Int×Int))×List Bool×List Int×Rat×Rat×Rat×Rat×Rat)(a1:(Rat×Rat)×Rat×Rat):z162 a0 a1 =  ((z154 a0).bind fun r1=>((z263 r1).bind fun r2=>(zd (clPB a1 r1 r2) (zb 12) (0,[])))):=rfl
theorem clPB_00{v:Pl}(g:(Int×List (List (Rat×Rat)))→Option (List (List (Rat×Rat)))):clPB v [ptQ a,ptQ b,ptQ c,ptQ d] ([(3,0,1),(1,2,3)],0) g (0,[])=g (1,[[ptQ d,ptQ a,ptQ b]]):=by
 unfold clPB
 generalize clPM=B
 simp[idx,zp,zy,app]
theorem clPB_01{v:Pl}(g:(Int×List (List (Rat×Rat)))→Option (List (List (Rat×Rat)))):clPB v [ptQ a,ptQ b,ptQ c,ptQ d] ([(3,0,1),(1,2,3)],0) g (1,[[ptQ d,ptQ a,ptQ b]])=g (2,[[ptQ d,ptQ a,ptQ b],[ptQ b,ptQ c,ptQ d]]):=by
 unfold clPB
 generalize clPM=B
 simp[idx,zp,zy,app]
theorem clPB_10{v:Pl}(g:(Int×List (List (Rat×Rat)))→Option (List (List (Rat×Rat)))):clPB v [ptQ a,ptQ b,ptQ c,ptQ d] ([(0,1,2),(0,2,3)],0) g (0,[])=g (1,[[ptQ a,ptQ b,ptQ c]]):=by
 unfold clPB
 generalize clPM=B
 simp[idx,zp,zy,app]
theorem clPB_11{v:Pl}(g:(Int×List (List (Rat×Rat)))→Option (List (List (Rat×Rat)))):clPB v [ptQ a,ptQ b,ptQ c,ptQ d] ([(0,1,2),(0,2,3)],0) g (1,[[ptQ a,ptQ b,ptQ c]])=g (2,[[ptQ a,ptQ b,ptQ c],[ptQ a,ptQ c,ptQ d]]):=by
 unfold clPB
 generalize clPM=B
 simp[idx,zp,zy,app]
theorem clPB_20{v:Pl}(g:(Int×List (List (Rat×Rat)))→Option (List (List (Rat×Rat)))):clPB v [ptQ a,ptQ b,ptQ c,ptQ d] ([(1,2,3),(0,1,3)],0) g (0,[])=g (1,[[ptQ b,ptQ c,ptQ d]]):=by
 unfold clPB
 generalize clPM=B
 simp[idx,zp,zy,app]
theorem clPB_21{v:Pl}(g:(Int×List (List (Rat×Rat)))→Option (List (List (Rat×Rat)))):clPB v [ptQ a,ptQ b,ptQ c,ptQ d] ([(1,2,3),(0,1,3)],0) g (1,[[ptQ b,ptQ c,ptQ d]])=g (2,[[ptQ b,ptQ c,ptQ d],[ptQ a,ptQ b,ptQ d]]):=by
 unfold clPB
 generalize clPM=B
 simp[idx,zp,zy,app]
theorem clPB_30{v:Pl}(g:(Int×List (List (Rat×Rat)))→Option (List (List (Rat×Rat)))):clPB v [ptQ a,ptQ b,ptQ c,ptQ d] ([(2,3,0),(0,1,2)],0) g (0,[])=g (1,[[ptQ c,ptQ d,ptQ a]]):=by
 unfold clPB
 generalize clPM=B
 simp[idx,zp,zy,app]
theorem clPB_31{v:Pl}(g:(Int×List (List (Rat×Rat)))→Option (List (List (Rat×Rat)))):clPB v [ptQ a,ptQ b,ptQ c,ptQ d] ([(2,3,0),(0,1,2)],0) g (1,[[ptQ c,ptQ d,ptQ a]])=g (2,[[ptQ c,ptQ d,ptQ a],[ptQ a,ptQ b,ptQ c]]):=by
 unfold clPB
 generalize clPM=B
 simp[idx,zp,zy,app]
theorem clPB_2{v:Pl}{l1:List (Rat×Rat)}{l2:List (Int×Int×Int)}(h:l2.length=2){l:List (List (Rat×Rat))}(g:(Int×List (List (Rat×Rat)))→Option (List (List (Rat×Rat)))):clPB v l1 (l2,0) g (2,l)=zd (clPM v (2,l)) (zb 12) (0,l):=by
 unfold clPB
 generalize clPM=B
 simp[h]
theorem clPM_0{v:Pl}{t1 t2 u:List (Rat×Rat)}(f:z225 v t1=some u)(g:(Int×List (List (Rat×Rat)))→Option (List (List (Rat×Rat)))):clPM v (2,[t1,t2]) g (0,[t1,t2])=g (1,[u,t2]):=by
 unfold clPM
 simp[idx,zp,zy,f,zt]
theorem clPM_1{v:Pl}{t1 t2 u w:List (Rat×Rat)}(f:z225 v t2=some u)(g:(Int×List (List (Rat×Rat)))→Option (List (List (Rat×Rat)))):clPM v (2,[t1,t2]) g (1,[w,t2])=g (2,[w,u]):=by
 unfold clPM
 simp[idx,zp,zy,f,zt]
theorem clPM_2{v:Pl}{t1 t2:List (Rat×Rat)}{l:List (List (Rat×Rat))}(g:(Int×List (List (Rat×Rat)))→Option (List (List (Rat×Rat)))):clPM v (2,[t1,t2]) g (2,l)=some l:=by
 unfold clPM
 simp
theorem z162_int(ha:Nr 1000 a)(hb:Nr 1000 b)(hc:Nr 1000 c)(hd:Nr 1000 d){p:Pc}(hp:p.2.2.1=[a,b,c,d]){v:Pl}(hv:quadP a b c d=true)(ka:PutOK v (ptQ a))(kb:PutOK v (ptQ b))(kc:PutOK v (ptQ c))(kd:PutOK v (ptQ d)):z162 p v=some (cellsQ v (trisV a b c d)):=by
 rw[z162_eq,z154_int hp ha hb hc hd,Option.bind_some,z263_int ha hb hc hd hv,Option.bind_some,zm]
 unfold trisI trisV cellsQ
 cases xU d a b c
 case true=>
  simp only[if_true,if_false,Bool.false_eq_true,List.map_cons,List.map_nil]
  rw[za,clPB_00,za,clPB_01,za,clPB_2 rfl,zm,za,clPM_0 (z225_put kd ka kb),za,clPM_1 (z225_put kb kc kd),za,clPM_2]
 cases xU a b c d
 case true=>
  simp only[if_true,if_false,Bool.false_eq_true,List.map_cons,List.map_nil]
  rw[za,clPB_10,za,clPB_11,za,clPB_2 rfl,zm,za,clPM_0 (z225_put ka kb kc),za,clPM_1 (z225_put ka kc kd),za,clPM_2]
 cases xU b c d a
 case true=>
  simp only[if_true,if_false,Bool.false_eq_true,List.map_cons,List.map_nil]
  rw[za,clPB_20,za,clPB_21,za,clPB_2 rfl,zm,za,clPM_0 (z225_put kb kc kd),za,clPM_1 (z225_put ka kb kd),za,clPM_2]
 simp only[if_true,if_false,Bool.false_eq_true,List.map_cons,List.map_nil]
 rw[za,clPB_30,za,clPB_31,za,clPB_2 rfl,zm,za,clPM_0 (z225_put kc kd ka),za,clPM_1 (z225_put ka kb kc),za,clPM_2]
end
end Go.Proofs.YtocnbjjmmgolfaaGreat
namespace Go.Proofs.YtocnbjjmmgolfaaGreat
open Go Go.M Go.Proofs.C14
set_option linter.unusedSimpArgs false
theorem loop_rel{σ σ' ρ ρ':Type}{B:(σ→Option ρ)→σ→Option ρ}{B':(σ'→Option ρ')→σ'→Option ρ'}{n:Nat}(R:Nat→σ→σ'→Prop)(Q:Option ρ→Option ρ'→Prop)
  (hs:∀i x x' g g',i<n→R i x x'→(∀y y',R (i+1) y y'→Q (g y) (g' y'))→Q (B g x) (B' g' x')) (he:∀x x' g g',R n x x'→Q (B g x) (B' g' x')) :
  ∀(m i k k':Nat) (x:σ) (x':σ'),i+m=n→m<k→m<k'→R i x x'→Q (zd B k x) (zd B' k' x')
 |0,i,k+1,k'+1,x,x',h,_,_,hI=>by rw[za,za];exact he x x' _ _ (by obtain rfl:i=n:=h;exact hI)
 |m+1,i,k+1,k'+1,x,x',h,hk,hk',hI=>by rw[za,za];exact hs i x x' _ _ Oz hI fun y y' hy=>loop_rel R Q hs he m (i+1) k k' y y' Oz Oz Oz hy
theorem qq{σ σ' ρ ρ':Type}{B:(σ→Option ρ)→σ→Option ρ}{B':(σ'→Option ρ')→σ'→Option ρ'}(n:Nat)(R:Nat→σ→σ'→Prop)(Q:Option ρ→Option ρ'→Prop){k k':Nat}{x:σ}{x':σ'}(hk:n<k)(hk':n<k')(h0:R 0 x x')
  (hs:∀i x x' g g',i<n→R i x x'→(∀y y',R (i+1) y y'→Q (g y) (g' y'))→Q (B g x) (B' g' x')) (he:∀x x' g g',R n x x'→Q (B g x) (B' g' x')):Q (zd B (zb k) x) (zd B' (zb k') x'):=by
 rw[zm,zm]
 exact loop_rel R Q hs he n 0 k k' x x' Oz hk hk' h0
abbrev QV(d B:Nat)(x:Rat):Prop:=QB d (d*B) x
def SB(d B:Nat):Prop:=0<d∧d*(B+1)<500000000
theorem QV.sm{d B:Nat}{x:Rat}(h:QV d B x)(g:SB d B):Sm x:=by
 obtain⟨g1,g2⟩:=g
 rw[Nat.mul_add,Nat.mul_one]at g2
 exact QB.sm h ⟨g1,by omega,by omega⟩
theorem QV.add{d B C:Nat}{x y:Rat}(h:QV d B x)(g:QV d C y):QV d (B+C) (x+y):=by
 have:=QB.add h g
 rw[←Nat.mul_add]at this
 exact this
theorem QV.sub{d B C:Nat}{x y:Rat}(h:QV d B x)(g:QV d C y):QV d (B+C) (x-y):=by
 have:=QB.sub h g
 rw[←Nat.mul_add]at this
 exact this
theorem QV.neg{d B:Nat}{x:Rat}(h:QV d B x):QV d B (-x):=QB.neg h
theorem QV.mul{d e B C:Nat}{x y:Rat}(h:QV d B x)(g:QV e C y):QV (d*e) (B*C) (x*y):=by
 have:=QB.mul h g
 rw[show d*B*(e*C)=d*e*(B*C)by ac_rfl]at this
 exact this
theorem QV.up{d B k:Nat}{x:Rat}(h:QV d B x):QV (d*k) B x:=by
 have:=QB.up (k:=k) h
 rw[show d*B*k=d*k*B by ac_rfl]at this
 exact this
theorem QV.le{d B C:Nat}{x:Rat}(h:QV d B x)(g:B≤C):QV d C x:=QB.le h (Nat.mul_le_mul_left _ g)
theorem QV.int{n:Int}{B:Nat}(h:n.natAbs≤B):QV 1 B (qI n):=by
 show QB 1 (1*B) _
 rw[Nat.one_mul]
 exact QB.int h
def V2(d B:Nat)(v:Rat×Rat):Prop:=QV d B v.1∧QV d B v.2
theorem V2.up{d B k:Nat}{v:Rat×Rat}(h:V2 d B v):V2 (d*k) B v:=⟨h.1.up,h.2.up⟩
theorem V2.le{d B C:Nat}{v:Rat×Rat}(h:V2 d B v)(g:B≤C):V2 d C v:=⟨h.1.le g,h.2.le g⟩
def addV(a b:Rat×Rat):Rat×Rat:=(a.1+b.1,a.2+b.2)
def subV(a b:Rat×Rat):Rat×Rat:=(a.1-b.1,a.2-b.2)
def yb(a b:Rat×Rat):Rat:=a.1*b.1+a.2*b.2
theorem V2.add{d B C:Nat}{v w:Rat×Rat}(h:V2 d B v)(g:V2 d C w):V2 d (B+C) (addV v w):=⟨h.1.add g.1,h.2.add g.2⟩
theorem V2.sub{d B C:Nat}{v w:Rat×Rat}(h:V2 d B v)(g:V2 d C w):V2 d (B+C) (subV v w):=⟨h.1.sub g.1,h.2.sub g.2⟩
theorem V2.dot{d e B C:Nat}{v w:Rat×Rat}(h:V2 d B v)(g:V2 e C w):QV (d*e) (B*C+B*C) (yb v w):=(h.1.mul g.1).add (h.2.mul g.2)
theorem V2.rot{d e C:Nat}{t p:Rat×Rat}(h:V2 d 1 t)(g:V2 e C p):V2 (d*e) (C+C) (qy t p):=by
 have h1:=h.1.mul g.1
 have h2:=h.2.mul g.2
 have h3:=h.2.mul g.1
 have h4:=h.1.mul g.2
 rw[Nat.one_mul]at h1 h2 h3 h4
 exact⟨h1.sub h2,h3.add h4⟩
theorem rot_ok{d e C:Nat}{t p:Rat×Rat}(h:V2 d 1 t)(g:V2 e C p)(h1:SB d 1)(h2:SB e C)(h3:SB (d*e) C):RotOK t p:=by
 have m:∀{x y:Rat},QV d 1 x→QV e C y→Sm (x*y):=fun hx hy=>by
  have:=hx.mul hy
  rw[Nat.one_mul]at this
  exact this.sm h3
 exact⟨h.1.sm h1,h.2.sm h1,g.1.sm h2,g.2.sm h2,m h.1 g.1,m h.2 g.2,m h.2 g.1,m h.1 g.2⟩
def Kd(K:Nat):Prop:=0<K∧K≤25
theorem Kd.s0{K B:Nat}(h:Kd K)(g:25*(B+1)<500000000):SB K B:=⟨h.1,Nat.lt_of_le_of_lt (Nat.mul_le_mul_right _ h.2) g⟩
theorem Kd.s1{K c B:Nat}(h:Kd K)(g:0<c∧25*c*(B+1)<500000000):SB (K*c) B:=⟨Nat.mul_pos h.1 g.1,Nat.lt_of_le_of_lt (Nat.mul_le_mul_right _ (Nat.mul_le_mul_right _ h.2)) g.2⟩
theorem Kd.s2{K c B:Nat}(h:Kd K)(g:0<c∧625*c*(B+1)<500000000):SB (K*(K*c)) B:=⟨Nat.mul_pos h.1 (Nat.mul_pos h.1 g.1),by
 have:K*(K*c)≤25*(25*c):=Nat.mul_le_mul h.2 (Nat.mul_le_mul_right _ h.2)
 refine Nat.lt_of_le_of_lt (Nat.mul_le_mul_right _ this) ?_
 rw[show 25*(25*c)=625*c by omega]
 exact g.2⟩
section
variable{a b:Rat×Rat}
theorem z39_v{d B C:Nat}(ha:V2 d B a)(hb:V2 d C b)(h:SB d B)(g:SB d C):z39 a b=some (subV a b):=by
 unfold z39
 rw[qd (ha.1.sm h) (hb.1.sm g),qd (ha.2.sm h) (hb.2.sm g)]
 rfl
theorem z126_v{d B C:Nat}(ha:V2 d B a)(hb:V2 d C b)(h:SB d B)(g:SB d C):z126 a b=some (subV a b):=by
 unfold z126
 rw[qd (ha.1.sm h) (hb.1.sm g),qd (ha.2.sm h) (hb.2.sm g)]
 rfl
theorem z257_v{d e B C:Nat}(ha:V2 d B a)(hb:V2 e C b)(h:SB d B)(g:SB e C)(hg:SB (d*e) (B*C)):z257 a b=some (yb a b):=by
 unfold z257
 rw[yU (ha.1.sm h) (hb.1.sm g),yU (ha.2.sm h) (hb.2.sm g)]
 simp only[Option.bind_some]
 rw[z121_twoQ ((ha.1.mul hb.1).sm hg) ((ha.2.mul hb.2).sm hg)]
 rfl
theorem z265_v{d e B C:Nat}(ha:V2 d B a)(hb:V2 e C b)(h:SB d B)(g:SB e C)(hg:SB (d*e) (B*C)):z265 a b=some (yb a b):=by
 unfold z265
 rw[yU (ha.1.sm h) (hb.1.sm g),yU (ha.2.sm h) (hb.2.sm g)]
 simp only[Option.bind_some]
 rw[yr ((ha.1.mul hb.1).sm hg) ((ha.2.mul hb.2).sm hg)]
 rfl
end
theorem cmpQ_cases(x y:Rat):cmpQ x y = -1∧x<y∨cmpQ x y=1∧y<x∧¬x<y∨cmpQ x y=0∧¬x<y∧¬y<x:=by
 unfold cmpQ
 by_cases h:x<y
 ·simp[h]
 ·by_cases g:y<x<;>simp[h,g]
theorem cmpQ_neg{x y:Rat}:cmpQ x y<0↔x<y:=by rcases cmpQ_cases x y with h|h|h<;>rw[h.1]<;>simp[h.2]
theorem cmpQ_m1{x y:Rat}:cmpQ x y = -1↔x<y:=by rcases cmpQ_cases x y with h|h|h<;>rw[h.1]<;>simp[h.2]
theorem cmpQ_p1{x y:Rat}:cmpQ x y=1↔y<x:=by
 rcases cmpQ_cases x y with h|h|h<;>rw[h.1]<;>simp[h.2]
 have:=h.2
 grind
theorem cmpQ_pos{x y:Rat}:0<cmpQ x y↔y<x:=by
 rcases cmpQ_cases x y with h|h|h<;>rw[h.1]<;>simp[h.2]
 have:=h.2
 grind
end Go.Proofs.YtocnbjjmmgolfaaGreat
