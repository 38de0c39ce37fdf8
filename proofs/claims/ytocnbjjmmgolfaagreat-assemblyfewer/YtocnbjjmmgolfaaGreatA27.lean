/- zJ law: how the program cuts a quadrilateral (printed by mkLk.py). -/
import Derived.Test.YtocnbjjmmgolfaaGreatA26
import Derived.Test.YtocnbjjmmgolfaaGreatA24
set_option linter.unusedSimpArgs false
set_option linter.unusedVariables false
set_option linter.unusedSectionVars false
namespace Go.Proofs.YtocnbjjmmgolfaaGreat
open Go Go.M Go.Proofs.C14
def uF(w x y z:Int×Int):Bool:=decide (0<zl w x y) && !(decide (0≤zl w x z)&&decide (0≤zl x y z)&&decide (0≤zl y w z))
def trisI(a b c d:Int×Int):List (Int×Int×Int):=if uF d a b c=true then [(3,0,1),(1,2,3)]else if uF a b c d=true then [(0,1,2),(0,2,3)]else if uF b c d a=true then [(1,2,3),(0,1,3)]else [(2,3,0),(0,1,2)]
def VY(a b c d:Int×Int):List (List (Int×Int)):=if uF d a b c=true then [[d,a,b],[b,c,d]]else if uF a b c d=true then [[a,b,c],[a,c,d]]else if uF b c d a=true then [[b,c,d],[a,b,d]]else [[c,d,a],[a,b,c]]
section
variable{a b c d:Int×Int}
theorem pc43_00(ha:Nr 1000 a)(hb:Nr 1000 b)(hc:Nr 1000 c)(hd:Nr 1000 d)(h e g:Int→Option ((List (Int×Int×Int))×Int)):vh (4,[ptQ a,ptQ b,ptQ c,ptQ d],[0,1,2,3]) 0 (ptQ d) (ptQ a) (ptQ b) 2 2 h e g 0=if zl d a c<0 then e 3 else g 1:=by
 have f:=yY hd ha hc
 unfold vh
 simp[idx,zL,yh,f,kF]
theorem pc43_01(ha:Nr 1000 a)(hb:Nr 1000 b)(hc:Nr 1000 c)(hd:Nr 1000 d)(h e g:Int→Option ((List (Int×Int×Int))×Int)):vh (4,[ptQ a,ptQ b,ptQ c,ptQ d],[0,1,2,3]) 0 (ptQ d) (ptQ a) (ptQ b) 2 2 h e g 1=if zl a b c<0 then e 3 else g 2:=by
 have f:=yY ha hb hc
 unfold vh
 simp[idx,zL,yh,f,kF]
theorem pc43_02(ha:Nr 1000 a)(hb:Nr 1000 b)(hc:Nr 1000 c)(hd:Nr 1000 d)(h e g:Int→Option ((List (Int×Int×Int))×Int)):vh (4,[ptQ a,ptQ b,ptQ c,ptQ d],[0,1,2,3]) 0 (ptQ d) (ptQ a) (ptQ b) 2 2 h e g 2=if zl b d c<0 then e 3 else g 3:=by
 have f:=yY hb hd hc
 unfold vh
 simp[idx,zL,yh,f,kF]
theorem pc43_03(g e f:Int→Option ((List (Int×Int×Int))×Int)):vh (4,[ptQ a,ptQ b,ptQ c,ptQ d],[0,1,2,3]) 0 (ptQ d) (ptQ a) (ptQ b) 2 2 g e f 3=g 1:=by
 unfold vh
 simp[zL,yh]
theorem pc35_00(f e:Int→Option ((List (Int×Int×Int))×Int)):qC (4,[ptQ a,ptQ b,ptQ c,ptQ d],[0,1,2,3]) 0 3 1 (ptQ d) (ptQ a) (ptQ b) f e 0=e 1:=by
 unfold qC
 simp[idx,zL,yh]
theorem pc35_01(f e:Int→Option ((List (Int×Int×Int))×Int)):qC (4,[ptQ a,ptQ b,ptQ c,ptQ d],[0,1,2,3]) 0 3 1 (ptQ d) (ptQ a) (ptQ b) f e 1=e 2:=by
 unfold qC
 simp[idx,zL,yh]
theorem pc35_02e(f e:Int→Option ((List (Int×Int×Int))×Int)):qC (4,[ptQ a,ptQ b,ptQ c,ptQ d],[0,1,2,3]) 0 3 1 (ptQ d) (ptQ a) (ptQ b) f e 2=zj (vh (4,[ptQ a,ptQ b,ptQ c,ptQ d],[0,1,2,3]) 0 (ptQ d) (ptQ a) (ptQ b) 2 2 f e) (zi 12) 0:=by
 unfold qC
 generalize vh=B
 simp[idx,zL,yh]
theorem pc35_02(ha:Nr 1000 a)(hb:Nr 1000 b)(hc:Nr 1000 c)(hd:Nr 1000 d)(f e:Int→Option ((List (Int×Int×Int))×Int)):qC (4,[ptQ a,ptQ b,ptQ c,ptQ d],[0,1,2,3]) 0 3 1 (ptQ d) (ptQ a) (ptQ b) f e 2=if (decide (0≤zl d a c)&&decide (0≤zl a b c)&&decide (0≤zl b d c))=true then f 1 else e 3:=by
 rw[pc35_02e,zC,ze,pc43_00 ha hb hc hd]
 by_cases h1:zl d a c<0
 ·have:¬0≤zl d a c:=by omega
  simp only[h1,this,dO,dP,eX,aW,cK]
 rw[aE h1,ze,pc43_01 ha hb hc hd]
 by_cases h2:zl a b c<0
 ·have:¬0≤zl a b c:=by omega
  simp only[h2,this,dO,dP,eX,Bool.and_false,aW,cK]
 rw[aE h2,ze,pc43_02 ha hb hc hd]
 by_cases g:zl b d c<0
 ·have:¬0≤zl b d c:=by omega
  simp only[g,this,dO,dP,eX,Bool.and_false,aW,cK]
 rw[aE g,ze,pc43_03,aG]
 simp only[aF,aB]
 omega
theorem pc35_03(f e:Int→Option ((List (Int×Int×Int))×Int)):qC (4,[ptQ a,ptQ b,ptQ c,ptQ d],[0,1,2,3]) 0 3 1 (ptQ d) (ptQ a) (ptQ b) f e 3=e 4:=by
 unfold qC
 simp[idx,zL,yh]
theorem pc35_04(f e:Int→Option ((List (Int×Int×Int))×Int)):qC (4,[ptQ a,ptQ b,ptQ c,ptQ d],[0,1,2,3]) 0 3 1 (ptQ d) (ptQ a) (ptQ b) f e 4=some ([(3,0,1),(1,2,3)],0):=by
 unfold qC
 simp[idx,zL,yh,zcE,app]
theorem pc5_0e{s:Int}(f:jL (ptQ d) (ptQ a) (ptQ b)=some s)(e:Int→Option ((List (Int×Int×Int))×Int)):pc5 (4,[ptQ a,ptQ b,ptQ c,ptQ d],[0,1,2,3]) e 0=if s≤0 then e 1 else zj (qC (4,[ptQ a,ptQ b,ptQ c,ptQ d],[0,1,2,3]) 0 3 1 (ptQ d) (ptQ a) (ptQ b) e) (zi 12) 0:=by
 unfold pc5
 generalize qC=B
 simp[idx,zL,yh,f]
theorem pc5_0(ha:Nr 1000 a)(hb:Nr 1000 b)(hc:Nr 1000 c)(hd:Nr 1000 d)(f:Int→Option ((List (Int×Int×Int))×Int)):pc5 (4,[ptQ a,ptQ b,ptQ c,ptQ d],[0,1,2,3]) f 0=if uF d a b c=true then some ([(3,0,1),(1,2,3)],0)else f 1:=by
 rw[pc5_0e (yY hd ha hb),zC]
 unfold uF
 by_cases h:zl d a b≤0
 ·have h2:¬0<zl d a b:=by omega
  rw[aG (cmpI_le.mpr h)]
  simp only[h2,dP,eX,aW,cK]
 rw[aE (fun e=>h (cmpI_le.mp e)),show decide (0<zl d a b)=true from aH Oz,Bool.true_and]
 have e:=pc35_02 ha hb hc hd f
 generalize (decide (0≤zl d a c)&&decide (0≤zl a b c)&&decide (0≤zl b d c))=t at *
 rw[ze,pc35_00]
 rw[ze,pc35_01]
 rw[ze,e]
 cases t
 case true=>rw[aG rfl,aE Uz]
 rw[aE Uz,aG Uz]
 rw[ze,pc35_03]
 rw[ze,pc35_04]
theorem pc43_10(ha:Nr 1000 a)(hb:Nr 1000 b)(hc:Nr 1000 c)(hd:Nr 1000 d)(h e g:Int→Option ((List (Int×Int×Int))×Int)):vh (4,[ptQ a,ptQ b,ptQ c,ptQ d],[0,1,2,3]) 1 (ptQ a) (ptQ b) (ptQ c) 3 3 h e g 0=if zl a b d<0 then e 4 else g 1:=by
 have f:=yY ha hb hd
 unfold vh
 simp[idx,zL,yh,f,kF]
theorem pc43_11(ha:Nr 1000 a)(hb:Nr 1000 b)(hc:Nr 1000 c)(hd:Nr 1000 d)(h e g:Int→Option ((List (Int×Int×Int))×Int)):vh (4,[ptQ a,ptQ b,ptQ c,ptQ d],[0,1,2,3]) 1 (ptQ a) (ptQ b) (ptQ c) 3 3 h e g 1=if zl b c d<0 then e 4 else g 2:=by
 have f:=yY hb hc hd
 unfold vh
 simp[idx,zL,yh,f,kF]
theorem pc43_12(ha:Nr 1000 a)(hb:Nr 1000 b)(hc:Nr 1000 c)(hd:Nr 1000 d)(h e g:Int→Option ((List (Int×Int×Int))×Int)):vh (4,[ptQ a,ptQ b,ptQ c,ptQ d],[0,1,2,3]) 1 (ptQ a) (ptQ b) (ptQ c) 3 3 h e g 2=if zl c a d<0 then e 4 else g 3:=by
 have f:=yY hc ha hd
 unfold vh
 simp[idx,zL,yh,f,kF]
theorem pc43_13(g e f:Int→Option ((List (Int×Int×Int))×Int)):vh (4,[ptQ a,ptQ b,ptQ c,ptQ d],[0,1,2,3]) 1 (ptQ a) (ptQ b) (ptQ c) 3 3 g e f 3=g 2:=by
 unfold vh
 simp[zL,yh]
theorem pc35_10(f e:Int→Option ((List (Int×Int×Int))×Int)):qC (4,[ptQ a,ptQ b,ptQ c,ptQ d],[0,1,2,3]) 1 0 2 (ptQ a) (ptQ b) (ptQ c) f e 0=e 1:=by
 unfold qC
 simp[idx,zL,yh]
theorem pc35_11(f e:Int→Option ((List (Int×Int×Int))×Int)):qC (4,[ptQ a,ptQ b,ptQ c,ptQ d],[0,1,2,3]) 1 0 2 (ptQ a) (ptQ b) (ptQ c) f e 1=e 2:=by
 unfold qC
 simp[idx,zL,yh]
theorem pc35_12(f e:Int→Option ((List (Int×Int×Int))×Int)):qC (4,[ptQ a,ptQ b,ptQ c,ptQ d],[0,1,2,3]) 1 0 2 (ptQ a) (ptQ b) (ptQ c) f e 2=e 3:=by
 unfold qC
 simp[idx,zL,yh]
theorem pc35_13e(f e:Int→Option ((List (Int×Int×Int))×Int)):qC (4,[ptQ a,ptQ b,ptQ c,ptQ d],[0,1,2,3]) 1 0 2 (ptQ a) (ptQ b) (ptQ c) f e 3=zj (vh (4,[ptQ a,ptQ b,ptQ c,ptQ d],[0,1,2,3]) 1 (ptQ a) (ptQ b) (ptQ c) 3 3 f e) (zi 12) 0:=by
 unfold qC
 generalize vh=B
 simp[idx,zL,yh]
theorem pc35_13(ha:Nr 1000 a)(hb:Nr 1000 b)(hc:Nr 1000 c)(hd:Nr 1000 d)(f e:Int→Option ((List (Int×Int×Int))×Int)):qC (4,[ptQ a,ptQ b,ptQ c,ptQ d],[0,1,2,3]) 1 0 2 (ptQ a) (ptQ b) (ptQ c) f e 3=if (decide (0≤zl a b d)&&decide (0≤zl b c d)&&decide (0≤zl c a d))=true then f 2 else e 4:=by
 rw[pc35_13e,zC,ze,pc43_10 ha hb hc hd]
 by_cases h1:zl a b d<0
 ·have:¬0≤zl a b d:=by omega
  simp only[h1,this,dO,dP,eX,aW,cK]
 rw[aE h1,ze,pc43_11 ha hb hc hd]
 by_cases h2:zl b c d<0
 ·have:¬0≤zl b c d:=by omega
  simp only[h2,this,dO,dP,eX,Bool.and_false,aW,cK]
 rw[aE h2,ze,pc43_12 ha hb hc hd]
 by_cases g:zl c a d<0
 ·have:¬0≤zl c a d:=by omega
  simp only[g,this,dO,dP,eX,Bool.and_false,aW,cK]
 rw[aE g,ze,pc43_13,aG]
 simp only[aF,aB]
 omega
theorem pc35_14(f e:Int→Option ((List (Int×Int×Int))×Int)):qC (4,[ptQ a,ptQ b,ptQ c,ptQ d],[0,1,2,3]) 1 0 2 (ptQ a) (ptQ b) (ptQ c) f e 4=some ([(0,1,2),(0,2,3)],0):=by
 unfold qC
 simp[idx,zL,yh,zcE,app]
theorem pc5_1e{s:Int}(f:jL (ptQ a) (ptQ b) (ptQ c)=some s)(e:Int→Option ((List (Int×Int×Int))×Int)):pc5 (4,[ptQ a,ptQ b,ptQ c,ptQ d],[0,1,2,3]) e 1=if s≤0 then e 2 else zj (qC (4,[ptQ a,ptQ b,ptQ c,ptQ d],[0,1,2,3]) 1 0 2 (ptQ a) (ptQ b) (ptQ c) e) (zi 12) 0:=by
 unfold pc5
 generalize qC=B
 simp[idx,zL,yh,f]
theorem pc5_1(ha:Nr 1000 a)(hb:Nr 1000 b)(hc:Nr 1000 c)(hd:Nr 1000 d)(f:Int→Option ((List (Int×Int×Int))×Int)):pc5 (4,[ptQ a,ptQ b,ptQ c,ptQ d],[0,1,2,3]) f 1=if uF a b c d=true then some ([(0,1,2),(0,2,3)],0)else f 2:=by
 rw[pc5_1e (yY ha hb hc),zC]
 unfold uF
 by_cases h:zl a b c≤0
 ·have h2:¬0<zl a b c:=by omega
  rw[aG (cmpI_le.mpr h)]
  simp only[h2,dP,eX,aW,cK]
 rw[aE (fun e=>h (cmpI_le.mp e)),show decide (0<zl a b c)=true from aH Oz,Bool.true_and]
 have e:=pc35_13 ha hb hc hd f
 generalize (decide (0≤zl a b d)&&decide (0≤zl b c d)&&decide (0≤zl c a d))=t at *
 rw[ze,pc35_10]
 rw[ze,pc35_11]
 rw[ze,pc35_12]
 rw[ze,e]
 cases t
 case true=>rw[aG rfl,aE Uz]
 rw[aE Uz,aG Uz]
 rw[ze,pc35_14]
theorem pc43_20(ha:Nr 1000 a)(hb:Nr 1000 b)(hc:Nr 1000 c)(hd:Nr 1000 d)(h e g:Int→Option ((List (Int×Int×Int))×Int)):vh (4,[ptQ a,ptQ b,ptQ c,ptQ d],[0,1,2,3]) 2 (ptQ b) (ptQ c) (ptQ d) 0 0 h e g 0=if zl b c a<0 then e 1 else g 1:=by
 have f:=yY hb hc ha
 unfold vh
 simp[idx,zL,yh,f,kF]
theorem pc43_21(ha:Nr 1000 a)(hb:Nr 1000 b)(hc:Nr 1000 c)(hd:Nr 1000 d)(h e g:Int→Option ((List (Int×Int×Int))×Int)):vh (4,[ptQ a,ptQ b,ptQ c,ptQ d],[0,1,2,3]) 2 (ptQ b) (ptQ c) (ptQ d) 0 0 h e g 1=if zl c d a<0 then e 1 else g 2:=by
 have f:=yY hc hd ha
 unfold vh
 simp[idx,zL,yh,f,kF]
theorem pc43_22(ha:Nr 1000 a)(hb:Nr 1000 b)(hc:Nr 1000 c)(hd:Nr 1000 d)(h e g:Int→Option ((List (Int×Int×Int))×Int)):vh (4,[ptQ a,ptQ b,ptQ c,ptQ d],[0,1,2,3]) 2 (ptQ b) (ptQ c) (ptQ d) 0 0 h e g 2=if zl d b a<0 then e 1 else g 3:=by
 have f:=yY hd hb ha
 unfold vh
 simp[idx,zL,yh,f,kF]
theorem pc43_23(g e f:Int→Option ((List (Int×Int×Int))×Int)):vh (4,[ptQ a,ptQ b,ptQ c,ptQ d],[0,1,2,3]) 2 (ptQ b) (ptQ c) (ptQ d) 0 0 g e f 3=g 3:=by
 unfold vh
 simp[zL,yh]
theorem pc35_20e(f e:Int→Option ((List (Int×Int×Int))×Int)):qC (4,[ptQ a,ptQ b,ptQ c,ptQ d],[0,1,2,3]) 2 1 3 (ptQ b) (ptQ c) (ptQ d) f e 0=zj (vh (4,[ptQ a,ptQ b,ptQ c,ptQ d],[0,1,2,3]) 2 (ptQ b) (ptQ c) (ptQ d) 0 0 f e) (zi 12) 0:=by
 unfold qC
 generalize vh=B
 simp[idx,zL,yh]
theorem pc35_20(ha:Nr 1000 a)(hb:Nr 1000 b)(hc:Nr 1000 c)(hd:Nr 1000 d)(f e:Int→Option ((List (Int×Int×Int))×Int)):qC (4,[ptQ a,ptQ b,ptQ c,ptQ d],[0,1,2,3]) 2 1 3 (ptQ b) (ptQ c) (ptQ d) f e 0=if (decide (0≤zl b c a)&&decide (0≤zl c d a)&&decide (0≤zl d b a))=true then f 3 else e 1:=by
 rw[pc35_20e,zC,ze,pc43_20 ha hb hc hd]
 by_cases h1:zl b c a<0
 ·have:¬0≤zl b c a:=by omega
  simp only[h1,this,dO,dP,eX,aW,cK]
 rw[aE h1,ze,pc43_21 ha hb hc hd]
 by_cases h2:zl c d a<0
 ·have:¬0≤zl c d a:=by omega
  simp only[h2,this,dO,dP,eX,Bool.and_false,aW,cK]
 rw[aE h2,ze,pc43_22 ha hb hc hd]
 by_cases g:zl d b a<0
 ·have:¬0≤zl d b a:=by omega
  simp only[g,this,dO,dP,eX,Bool.and_false,aW,cK]
 rw[aE g,ze,pc43_23,aG]
 simp only[aF,aB]
 omega
theorem pc35_21(f e:Int→Option ((List (Int×Int×Int))×Int)):qC (4,[ptQ a,ptQ b,ptQ c,ptQ d],[0,1,2,3]) 2 1 3 (ptQ b) (ptQ c) (ptQ d) f e 1=e 2:=by
 unfold qC
 simp[idx,zL,yh]
theorem pc35_22(f e:Int→Option ((List (Int×Int×Int))×Int)):qC (4,[ptQ a,ptQ b,ptQ c,ptQ d],[0,1,2,3]) 2 1 3 (ptQ b) (ptQ c) (ptQ d) f e 2=e 3:=by
 unfold qC
 simp[idx,zL,yh]
theorem pc35_23(f e:Int→Option ((List (Int×Int×Int))×Int)):qC (4,[ptQ a,ptQ b,ptQ c,ptQ d],[0,1,2,3]) 2 1 3 (ptQ b) (ptQ c) (ptQ d) f e 3=e 4:=by
 unfold qC
 simp[idx,zL,yh]
theorem pc35_24(f e:Int→Option ((List (Int×Int×Int))×Int)):qC (4,[ptQ a,ptQ b,ptQ c,ptQ d],[0,1,2,3]) 2 1 3 (ptQ b) (ptQ c) (ptQ d) f e 4=some ([(1,2,3),(0,1,3)],0):=by
 unfold qC
 simp[idx,zL,yh,zcE,app]
theorem pc5_2e{s:Int}(f:jL (ptQ b) (ptQ c) (ptQ d)=some s)(e:Int→Option ((List (Int×Int×Int))×Int)):pc5 (4,[ptQ a,ptQ b,ptQ c,ptQ d],[0,1,2,3]) e 2=if s≤0 then e 3 else zj (qC (4,[ptQ a,ptQ b,ptQ c,ptQ d],[0,1,2,3]) 2 1 3 (ptQ b) (ptQ c) (ptQ d) e) (zi 12) 0:=by
 unfold pc5
 generalize qC=B
 simp[idx,zL,yh,f]
theorem pc5_2(ha:Nr 1000 a)(hb:Nr 1000 b)(hc:Nr 1000 c)(hd:Nr 1000 d)(f:Int→Option ((List (Int×Int×Int))×Int)):pc5 (4,[ptQ a,ptQ b,ptQ c,ptQ d],[0,1,2,3]) f 2=if uF b c d a=true then some ([(1,2,3),(0,1,3)],0)else f 3:=by
 rw[pc5_2e (yY hb hc hd),zC]
 unfold uF
 by_cases h:zl b c d≤0
 ·have h2:¬0<zl b c d:=by omega
  rw[aG (cmpI_le.mpr h)]
  simp only[h2,dP,eX,aW,cK]
 rw[aE (fun e=>h (cmpI_le.mp e)),show decide (0<zl b c d)=true from aH Oz,Bool.true_and]
 have e:=pc35_20 ha hb hc hd f
 generalize (decide (0≤zl b c a)&&decide (0≤zl c d a)&&decide (0≤zl d b a))=t at *
 rw[ze,e]
 cases t
 case true=>rw[aG rfl,aE Uz]
 rw[aE Uz,aG Uz]
 rw[ze,pc35_21]
 rw[ze,pc35_22]
 rw[ze,pc35_23]
 rw[ze,pc35_24]
theorem pc5_3(e:Int→Option ((List (Int×Int×Int))×Int)):pc5 (4,[ptQ a,ptQ b,ptQ c,ptQ d],[0,1,2,3]) e 3=some ([(2,3,0),(0,1,2)],0):=by
 unfold pc5
 generalize qC=B
 simp[idx,zL,yh,zcE,app]
theorem pc2_0{l:List (Rat×Rat)}(g:(Int×(List (Rat×Rat))×List Int)→Option ((List (Int×Int×Int))×Int)):pc2 [ptQ a,ptQ b,ptQ c,ptQ d] g (0,l,[])=g (1,l,[0]):=by
 unfold pc2
 generalize pc5=B
 simp[zL,yh,app]
theorem pc2_1{l:List (Rat×Rat)}(g:(Int×(List (Rat×Rat))×List Int)→Option ((List (Int×Int×Int))×Int)):pc2 [ptQ a,ptQ b,ptQ c,ptQ d] g (1,l,[0])=g (2,l,[0,1]):=by
 unfold pc2
 generalize pc5=B
 simp[zL,yh,app]
theorem pc2_2{l:List (Rat×Rat)}(g:(Int×(List (Rat×Rat))×List Int)→Option ((List (Int×Int×Int))×Int)):pc2 [ptQ a,ptQ b,ptQ c,ptQ d] g (2,l,[0,1])=g (3,l,[0,1,2]):=by
 unfold pc2
 generalize pc5=B
 simp[zL,yh,app]
theorem pc2_3{l:List (Rat×Rat)}(g:(Int×(List (Rat×Rat))×List Int)→Option ((List (Int×Int×Int))×Int)):pc2 [ptQ a,ptQ b,ptQ c,ptQ d] g (3,l,[0,1,2])=g (4,l,[0,1,2,3]):=by
 unfold pc2
 generalize pc5=B
 simp[zL,yh,app]
theorem pc2_4{l:List (Rat×Rat)}(g:(Int×(List (Rat×Rat))×List Int)→Option ((List (Int×Int×Int))×Int)):pc2 [ptQ a,ptQ b,ptQ c,ptQ d] g (4,l,[0,1,2,3])=zj (pc5 (4,l,[0,1,2,3])) (zi 12) 0:=by
 unfold pc2
 generalize pc5=B
 simp
theorem z263_int(ha:Nr 1000 a)(hb:Nr 1000 b)(hc:Nr 1000 c)(hd:Nr 1000 d)(hv:Km a b c d=true):z263 [ptQ a,ptQ b,ptQ c,ptQ d]=some (trisI a b c d,0):=by
 unfold z263
 rw[zaL ha hb hc hd,hv,aA,aE Uz,zC]
 rw[ze,pc2_0,ze,pc2_1,ze,pc2_2,ze,pc2_3,ze,pc2_4,zC]
 rw[ze,pc5_0 ha hb hc hd,ze,pc5_1 ha hb hc hd,ze,pc5_2 ha hb hc hd,ze,pc5_3]
 unfold trisI
 cases uF d a b c
 case true=>rfl
 cases uF a b c d
 case true=>rfl
 cases uF b c d a<;>rfl
end
theorem YS{x y:Rat}(hx:Sm x)(a:Sm y):Qc [x,y]=some (x+y):=by
 have h0:qG 0 x=some x:=by rw[xu Uz hx,Rat.zero_add]
 have h1:=xu hx a
 unfold Qc
 rw[zC,ze]
 simp[idx,zL,h0]
 rw[ze]
 simp[zL,h1]
 rw[ze]
 simp
theorem z121_twoW{x y:Rat}(hx:Sg x)(a:Sg y):Qc [x,y]=some (x+y):=by
 have h0:qG 0 x=some x:=by rw[zgV ⟨by decide,by decide⟩ hx,Rat.zero_add]
 have h1:=zgV hx a
 unfold Qc
 rw[zC,ze]
 simp[idx,zL,h0]
 rw[ze]
 simp[zL,h1]
 rw[ze]
 simp
def xI(t p:Rat×Rat):Rat×Rat:=(t.1*p.1-t.2*p.2,t.2*p.1+t.1*p.2)
structure RotOK(t p:Rat×Rat):Prop where
 t1:Sm t.1
 t2:Sm t.2
 p1:Sm p.1
 p2:Sm p.2
 m1:Sm (t.1*p.1)
 m2:Sm (t.2*p.2)
 m3:Sm (t.2*p.1)
 m4:Sm (t.1*p.2)
theorem Jl{t p:Rat×Rat}(h:RotOK t p):z40 t p=some (xI t p):=by
 unfold z40
 simp only[qK h.t1 h.p1,qK h.t2 h.p2,qK h.t2 h.p1,qK h.t1 h.p2,aA,vr h.m1 h.m2,xu h.m3 h.m4]
 rfl
theorem uN{t p:Rat×Rat}(h:RotOK t p):zdy t p=some (xI t p):=by
 unfold zdy
 simp only[qK h.t1 h.p1,qK h.t2 h.p2,qK h.t2 h.p1,qK h.t1 h.p2,aA,kK h.m2,YS h.m1 h.m2.neg,YS h.m3 h.m4]
 unfold xI
 rw[Rat.sub_eq_add_neg]
theorem jE{U:Wd}{I:zU}{f:FuncId}{args:Array Value}{s:St}{k:Nat}{τ:Ty}{r:τ.T}{Q:Value→St→Prop}(h:zdm U I f args s k τ r)(c:∀v s' D,HL [] s s' D k→RepV (U.x D) τ v r→Q v s'):∃v s',vm Tryz.prog I f args s v s'∧Q v s':=by
 obtain⟨v,s',a,D,H,hv⟩:=h
 exact⟨v,s',a,c v s' D H hv⟩
theorem d105:qz 105 7 [T36] T36 fun x=>z105 x:=t105 105 _ rfl
theorem d67:qz 67 11960 [T36,T36] T36 fun x=>z67 x.1 x.2:=t67 67 _ rfl
theorem pow5{i:Nat}(h:i≤5):25 ^ i≤9765625:=bH (Nat.pow_le_pow_right Uz h) Uz
theorem zbI{f:Nat}(h7:f+1≤7):25 ^ (7-(f+1))*25=25 ^ (7-f):=by rw[show 7-f=(7-(f+1))+1 by omega,Nat.pow_succ]
theorem Vz{e:Nat→Int×Int}{T:Nat→Q2}{k:Nat}{r:List Nat}{v:Int}{t:Q2}:xZ e T (k::r) v t=xZ e T r (oth e k v) (aft t (if (e k).1=v then T k else bck (T k))):=rfl
theorem Tn.sm{D:Nat}{t:Q2}(h:Tn D t)(hD:D<500000000):Sm t.1∧Sm t.2:=by
 obtain⟨h1,h2⟩:=h.bd
 exact⟨⟨by have:=h1.1;omega,by have:=h1.2;omega⟩,⟨by have:=h2.1;omega,by have:=h2.2;omega⟩⟩
theorem back_ok{t:Q2}(h:Sm t.1∧Sm t.2):z105 t=some (bck t):=by
 unfold z105
 rw[kK h.2]
 rfl
theorem smB{q:Rat}{N D:Nat}(h:Bd q N D)(b:N<500000000)(a:D<500000000):Sm q:=⟨cA h.1 b,cA h.2 a⟩
theorem zdi{D:Nat}{t u:Q2}(h:Tn D t)(g:Tn 25 u)(hD:D*25≤244140625):z67 t u=some (aft t u):=by
 obtain⟨h1,h2⟩:=h.bd
 obtain⟨g1,g2⟩:=g.bd
 have e:D<500000000:=by omega
 have e2:D*25<500000000:=by omega
 unfold z67
 rw[uN ⟨smB h1 e e,smB h2 e e,smB g1 Uz Uz,smB g2 Uz Uz,smB (h1.mul g1) e2 e2,smB (h2.mul g2) e2 e2,smB (h2.mul g1) e2 e2,smB (h1.mul g2) e2 e2⟩]
 rfl
theorem bf36:Vu Tryz.prog 36=some ([.bool false,.slice none 0 0,.bool false,.slice none 0 0,.bool false,.slice none 0 0,.bool false,.slice none 0 0],[(0,4),(4,4)]):=by kernel_rfl
theorem zcy:wA Tryz.prog 22=some (true,0,1):=by kernel_rfl
theorem el24:wA Tryz.prog 24=some (true,0,29):=by kernel_rfl
theorem el92:wA Tryz.prog 92=some (false,12,1):=by kernel_rfl
theorem fb104:vE Tryz.f104 (Tryz.f104.body.getD .skip) 7=true:=by kernel_rfl
theorem fc104:xG Tryz.prog 104=true:=by kernel_rfl
theorem fc105:xG Tryz.prog 105=true:=by kernel_rfl
theorem fc67:xG Tryz.prog 67=true:=by kernel_rfl
theorem JS:Zw Tryz.prog 40 0=some 0:=by kernel_rfl
theorem KD:Zw Tryz.prog 40 1=some 1:=by kernel_rfl
theorem zea:Zw Tryz.prog 40 5=some 5:=by kernel_rfl
theorem of94_0:Zw Tryz.prog 94 0=some 0:=by kernel_rfl
theorem KC:Zw Tryz.prog 94 1=some 1:=by kernel_rfl
theorem sh145:zV Tryz.prog 145=some (none):=by kernel_rfl
theorem Q5:zV Tryz.prog 22=some (none):=by kernel_rfl
theorem sh24:zV Tryz.prog 24=some (none):=by kernel_rfl
theorem sh3:zV Tryz.prog 3=some (none):=by kernel_rfl
theorem uC:zV Tryz.prog 36=some (some 8):=by kernel_rfl
theorem sh40:zV Tryz.prog 40=some (some 29):=by kernel_rfl
theorem sh91:zV Tryz.prog 91=some (none):=by kernel_rfl
theorem zdG:qX Tryz.prog 22=some 1:=by kernel_rfl
theorem Zs:qX Tryz.prog 36=some 8:=by kernel_rfl
theorem sz40:qX Tryz.prog 40=some 29:=by kernel_rfl
theorem YV:Tryz.prog.underlying 22=some (.slice 3):=by kernel_rfl
theorem zaJ:jk Tryz.prog 36=some [.bool false,.slice none 0 0,.bool false,.slice none 0 0,.bool false,.slice none 0 0,.bool false,.slice none 0 0]:=by kernel_rfl
theorem zf40:jk Tryz.prog 40=some [.int .i64 0,.int .i64 0,.int .i64 0,.int .i64 0,.int .i64 0,.bool false,.slice none 0 0,.bool false,.slice none 0 0,.bool false,.slice none 0 0,.bool false,.slice none 0 0,.bool false,.slice none 0 0,.bool false,.slice none 0 0,.bool false,.slice none 0 0,.bool false,.slice none 0 0,.bool false,.slice none 0 0,.bool false,.slice none 0 0,.bool false,.slice none 0 0,.bool false,.slice none 0 0]:=by kernel_rfl
def PostK1(U:Wd)(s:St)(bW:Nat)(W:List Nat)(k:Nat)(r0:List Nat)(r:Option (List Nat))(q:Q2)(v:Value)(s':St):Prop:=∃(D':Hp') (a:Value) (D:Hp') (t8:List Value),v=.tuple ⟨[.agg ⟨t8⟩,.bool r.isSome]⟩∧HL W s s' ((bW,.cells [a] 22)::(D'++D)) k∧Wy D' a (r0++r.getD [])∧Rep (U.x D) T36 t8 q
set_option maxHeartbeats 4000000 in
set_option maxRecDepth 10000 in
theorem walk1_ok{I:zU}(hI:zJ I){bTo bT bW bS bt:Nat}{vl:Value}{cF:List Value}{va:Int→Value}{L:List (List Value)}{l:List Fq}{tr:List Nat}{w:Int}(hE:∀k,k<l.length→0≤(eds l k).1∧(eds l k).1<(eds l k).2∧(eds l k).2<12)(hT:∀k,k<l.length→Tn 25 (trn l k))(hlt:∀k∈tr,k<l.length)(h6:tr.length≤6)(hc0:zE cF 0=some vl)(hcv:∀v:Int,0≤v→v<12→zE cF (1+v.toNat)=some (va v)) :
 ∀(f:Nat) (hf7:f≤7) {s:St} (hf:Fine s) {U:Wd} {Dw:Hp'} {vw:Value} {r0:List Nat} (HA:HL (bW::Dw.map Prod.fst) s s ((bW,.cells [vw] 22)::Dw) 0) (q:Wy Dw vw r0) (hr0:r0.length+f≤20) (hK:KnW s (bW::Dw.map Prod.fst) U) (o:Sts s (bW::Dw.map Prod.fst) (Stat bTo bT bW bS bt vl cF va L (eds l) tr w)) (hF:FitsC U L l) {at_ last:Int} (h0:0≤at_) (h1:at_<12) {t:Q2} {c:List Value} (ht:Tn (25 ^ (7-f)) t) (r:Rep U T36 c t) (Q:Tm (eds l) tr f at_ last) (hroom:s.next+ul 110000 f≤zw),
 ∃v' s',vm Tryz.prog I 104 #[.int .i64 at_,.int .i64 last,.agg ⟨c⟩,.pointer (some ⟨bTo,0,none⟩),.pointer (some ⟨bT,0,none⟩),.pointer (some ⟨bW,0,none⟩),.pointer (some ⟨bS,0,none⟩)] s v' s'∧PostK1 U s bW (bW::Dw.map Prod.fst) (ul 110000 f) r0 (dfs (eds l) tr f at_ w last) (wres (eds l) (trn l) at_ t (dfs (eds l) tr f at_ w last)) v' s':=by
 intro f
 induction f
 case zero=>intro _ s _ U Dw vw r0 _ _ _ _ _ _ at_ last _ _ t c _ _ h;exact absurd h id
 rename_i f ih
 intro hf7 s hf U Dw vw r0 HA q hr0 hK o hF at_ last h0 h1 t c ht r Q hroom
 have M:c.length=8:=Rep.len (τ:=T36) r
 have hcp:=Rep.plain (τ:=T36) r
 rw[Nat.add_comm]at hroom
 have hcs:ul 110000 (f+1)=7*110000+6*ul 110000 f:=by simp only[ul];omega
 have H:HL (bW::Dw.map Prod.fst) s s ((bW,.cells [vw] 22)::(Dw++[])) 0:=by rw[bL];exact HA
 have hb2S:=(o _ _ _ HA).lS
 obtain⟨al,ll,cl,hvle,hll⟩:=(o _ _ _ HA).sl.isSlice
 subst hvle
 rw[hF.len]at hll
 subst hll
 replace r:=Rep.mono (τ:=T36) (xL (D:=[])) r
 refine qB 7 (hI 104) Tryz.func104 rfl fb104 rfl ?_
 refine zg (Qt H rfl Oz (fun b9 s1 H=>?_))
 refine xT H zaJ Oz (fun b10 s2 H=>?_)
 refine zM (zb (zH (zg (zf rfl (yc sh3 rfl (o _ _ _ H).gTo rfl (Xe rfl rfl (fun h=>?_) (fun h=>?_)))))))
 ·refine zb (yK rfl (zg (qo uC rfl H.own1 (xJ M) (xn (vs:=c) H Zs rfl rfl (xm M) hcp (yO (by rw[M];rfl)) Oz (fun s3 H=>?_)))))
  refine zM (zb (qF (qm (xC (zal uC rfl H.own0 (xJ M) rfl ?_)))))
  rw[dfs,aG Oz]
  refine⟨Dw,vw,[],_,rfl,H.drop0.drop0.up Oz,by rw[bJ,bL];exact q,?_⟩
  exact r
 refine zb (ye rfl (yo (zn (zH ?_))))
 have hva:=(o _ _ _ H).adj at_ h0 h1
 obtain⟨aa,na,ca,hve,hna⟩:=hva.isSlice
 rw[bN,wP]at hna
 subst hna
 have hvw:¬at_=w:=by omega
 have hal:=zgT (e:=eds l) (tr:=tr) (v:=at_)
 have hvl:∀N,SlD N (va at_) (nts (adj (eds l) tr at_))→SlD N (.slice aa (adj (eds l) tr at_).length ca) (nts (adj (eds l) tr at_)):=fun N h=>by rw[←hve];exact h
 refine zg (yc sh91 rfl (o _ _ _ H).gT rfl (zf rfl (ky rfl (zy KC rfl (ju el92 rfl rfl Oz Oz (yc Q5 rfl (o _ _ _ H).gF (by rw[show 0+1+at_.toNat*1=1+at_.toNat by omega];exact hcv at_ h0 h1) ?_))))))
 refine qV YV rfl rfl hve (wx (zb (yj (kN (fun k F s1=>∃(G:FF) (i m:Nat) (vw2:Value) (Dw2 Φ:Hp'),F=lay G [(0,.int .i64 at_),(1,.int .i64 last),(3,.pointer (some ⟨bTo,0,none⟩)),(4,.pointer (some ⟨bT,0,none⟩)),(5,.pointer (some ⟨bW,0,none⟩)),(6,.pointer (some ⟨bS,0,none⟩)),(9,.pointer (some ⟨b9,0,none⟩)),(10,.pointer (some ⟨b10,0,none⟩)),(28,.slice aa (adj (eds l) tr at_).length ca),(29,.int .i64 ((adj (eds l) tr at_).length:Int)),(30,.int .i64 (i:Int))]∧HL (bW::Dw.map Prod.fst) s s1 ((b10,.cells [.bool false,.slice none 0 0,.bool false,.slice none 0 0,.bool false,.slice none 0 0,.bool false,.slice none 0 0] 36)::(b9,.cells c 36)::(bW,.cells [vw2] 22)::(Dw2++Φ)) m∧m≤2+i*(110000+ul 110000 f)∧i≤(adj (eds l) tr at_).length∧k=(adj (eds l) tr at_).length-i∧Wy Dw2 vw2 r0∧Rep (U.x Φ) T36 c t∧(adj (eds l) tr at_).findSome? (stp (eds l) tr f at_ w last)=((adj (eds l) tr at_).drop i).findSome? (stp (eds l) tr f at_ w last)) ?_ (adj (eds l) tr at_).length _ _ ?_))))
 rotate_left
 ·exact⟨_,0,_,_,_,_,slots ⟨rfl,rfl,rfl,rfl,rfl,rfl,rfl,rfl,hve,rfl,rfl,trivial⟩,H,by omega,by omega,by omega,q,r,rfl⟩
 rintro k F s1 ⟨G,i,m,vw2,Dw2,Φ,rfl,H,hm,hi,rfl,q,r,hs⟩
 refine zg (kz rfl rfl (fun h=>?_) (fun h=>?_))
 ·refine zb (zH (yK rfl (yo (zn (zH (yj ?_))))))
  have hii:i<(adj (eds l) tr at_).length:=by omega
  obtain⟨b1,off1,c1_,he1,hg1,hb1,hc1⟩:=(hvl _ ((o _ _ _ H).adj at_ h0 h1)).atD (i:=(i:Int)) (k:=i) rfl (by rw[wP];omega)
  subst he1
  rw[nts_getD hii]at hc1
  obtain⟨Y,hinc⟩:=adj_mem (jz (y:=0) hii)
  have hkl:=hlt _ Y
  generalize W:(adj (eds l) tr at_).getD i 0=j at *
  have hq:=hF.fit j hkl
  have hqt:=hT j hkl
  obtain⟨e0,e3,e4⟩:=hE j hkl
  have e1:(eds l j).1=(l.getD j default).1:=rfl
  have e2:(eds l j).2=(l.getD j default).2.1:=rfl
  rw[e1]at e0 e3
  rw[e2]at e3 e4
  obtain⟨t1,hct,E⟩:=hq.t
  have ht8:t1.length=8:=Rep.len (τ:=T36) E
  have htp:=Rep.plain (τ:=T36) E
  replace E:=Rep.mono (τ:=T36) (xL (D:=Φ)) E
  unfold Inc at hinc
  rw[e1,e2]at hinc
  have hml:=bM (110000+ul 110000 f) (show i≤5 by omega)
  refine zg (z5 zcy rfl rfl Oz Oz (yc sh3 rfl hg1 hc1 (z3 rfl (zb ?_))))
  obtain⟨b2,off2,c2_,he2,hg2,hb2,hc9⟩:=zey ((o _ _ _ H).sl) hF hkl
  subst he2
  refine zg (yc sh91 rfl (o _ _ _ H).gT rfl (ky rfl (zy of94_0 rfl (yc sh24 rfl (o _ _ _ H).gF hc0 (zf rfl (z5 el24 rfl rfl Oz Oz (qo sh40 rfl hg2 hc9 (xT H zf40 Oz (fun b14 s4 H=>?_)))))))))
  refine xn (vs:=L.getD j []) H sz40 rfl rfl (xm hq.len) hq.plain (yO (by rw[hq.len];rfl)) Oz (fun N H=>?_)
  refine zb (zH (zg (zf rfl (zf rfl (Xe rfl rfl (fun h=>?_) (fun h=>?_))))))
  ·refine zb (yK rfl (qt (xF (xH (zn (zQ (xU rfl rfl (by unfold yv;omega) (zf rfl (zb (yz (⟨(adj (eds l) tr at_).length-(i+1),by omega,_,i+1,_,_,_,Φ,slots ⟨rfl,rfl,rfl,rfl,rfl,rfl,rfl,rfl,rfl,rfl,rfl,trivial⟩,H.drop0,by rw[dK,eB];omega,by omega,rfl,q,r,?_⟩)))))))))))
   refine je 0 Oz hs ?_
   rw[W]
   exact zfK (.inl Oz)
  refine zb (ye rfl (yo (zn (vP [⟨0,0,.light,[3]⟩,⟨1,1,.light,[3]⟩,⟨2,0,.light,[1]⟩,⟨3,4,.light,[1]⟩,⟨4,0,.whole,[1,3]⟩,⟨5,19,.light,[3]⟩,⟨6,63,.whole,[]⟩] Z0 Z0 (za rfl rfl (zy KD rfl ⟨rfl,(yI rfl rfl sh3 rfl H.own0 (H.lim0 Oz) hq.b (za rfl rfl (zy zea rfl ⟨rfl,(kY rfl rfl uC rfl H.own0 (H.lim0 Oz) hct (yr rfl rfl (xT (Fine.pr H.fine (jH H.lt0 (jH H.lt0 zdg))).hl zaJ (H.rm (k:=1) Oz) (fun b16 s5 Hc=>?_))))⟩)))⟩))))))
  have H:=H.call (HL.wider H.fine (aM _) (fun _ h=>bF _ h) Hc)
  clear Hc
  refine za rfl rfl (z3 rfl ⟨rfl,(vo (vs:=t1) (fr:=[]) H rfl rfl Zs rfl rfl (xm ht8) htp (yO (by rw[ht8];rfl)) rfl Z2 Oz (fun s6 H=>?_))⟩)
  refine yT (zH (zg (zf rfl (zy KD rfl (yc sh3 rfl H.own1 hq.b (Xe rfl rfl (fun h=>?_) (fun h=>?_)))))))
  ·refine zb (yK rfl (uk [⟨0,0,.light,[3]⟩,⟨1,1,.light,[3]⟩,⟨2,0,.light,[1]⟩,⟨3,4,.light,[1]⟩,⟨4,12,.whole,[1]⟩,⟨5,31,.light,[]⟩,⟨6,63,.whole,[]⟩] Z0 Z0 (za rfl rfl (zy JS rfl ⟨rfl,(yI rfl rfl sh3 rfl H.own1 (H.lim1 Oz) hq.a (za rfl rfl (zy zea rfl ⟨rfl,(kY rfl rfl uC rfl H.own1 (H.lim1 Oz) hct (yr rfl rfl (ym rfl fc105 rfl (jE (d105 hI (Fine.pr H.fine (jH H.lt1 zdg)) ((knWX (P:=[_,_,_,_,_]) hK H).heap rfl (aM _)) (x:=trn l j) ⟨_,rfl,_,rfl,E⟩ (back_ok (Tn.sm hqt Uz)) (H.rm Oz)) (fun v9 N D9 Hc hv9=>?_)))))⟩)))⟩))))
   have Hc:=HL.wider H.fine (aM _) (fun _ h=>bF _ h) Hc
   obtain⟨Φ,J,kd,H⟩:=ZA (U:=U) [_,_,_,_,_] H Hc
   replace r:=Rep.mono (τ:=T36) J r
   replace E:=Rep.mono (τ:=T36) J E
   obtain⟨cb,rfl,R⟩:=hv9
   have hb8:cb.length=8:=Rep.len (τ:=T36) R
   have hbp:=Rep.plain (τ:=T36) R
   replace R:=Rep.mono (τ:=T36) kd R
   clear Hc J kd
   refine za rfl rfl (z3 rfl ⟨rfl,(vo (vs:=cb) (fr:=[]) H rfl rfl Zs rfl rfl (xm hb8) hbp (yO (by rw[hb8,ht8])) rfl Z2 Oz (fun s7 H=>?_))⟩)
   refine yT (zn (zg (yc Q5 rfl H.own4 rfl (zf rfl (xO (c:=[.int _ _]) H uP rfl rfl Oz (fun b59 s8 H=>?_))))))
   have hgt:=H.own0
   have H:=HL.mid (A:=[_,_,_,_,_]) (B:=Dw2) (C:=Φ) H.drop0
   refine Xd H q uP YV rfl rfl rfl (qE hgt rfl) Oz Oz (fun DX v9 N q H=>?_)
   obtain⟨a9,c9,rfl⟩:=q.isSlice
   have H:=HL.mid (A:=DX) (B:=[_,_,_,_,_]) (C:=Φ) H
   simp only[bU,cG]at H
   refine WA (vs:=[.slice _ _ _]) H zdG rfl rfl rfl rfl rfl Oz (fun N H=>?_)
   refine zb (zH ?_)
   have hf2:1≤f:=by rcases f with _|f;exact absurd (Q j Y Oz (by unfold Inc;omega)) id;omega
   have hp5:25 ^ (7-(f+1))≤9765625:=pow5 Oz
   have hb2:=hb2S
   refine vP [⟨0,0,.light,[3,4,10]⟩,⟨1,0,.light,[0,3,4,10]⟩,⟨2,0,.light,[0,3,4,10]⟩,⟨3,0,.light,[0,4,10]⟩,⟨4,0,.light,[0,3,10]⟩,⟨10,0,.new,[0,3,4]⟩,⟨5,24,.whole,[0,10]⟩,⟨6,63,.whole,[10]⟩,⟨7,127,.light,[10]⟩,⟨8,255,.light,[10]⟩,⟨9,255,.light,[10]⟩,⟨11,1535,.whole,[]⟩,⟨12,4095,.light,[]⟩] Z0 Z0 (yI rfl rfl sh145 rfl (o _ _ _ H).gS (by have:=H.most;omega) rfl (za rfl rfl (zf rfl ⟨rfl,(za rfl rfl (zf rfl ⟨rfl,(kY rfl rfl uC rfl H.own3 (H.lim3 Oz) (xJ M) (kY rfl rfl uC rfl H.own0 (H.lim0 Oz) (xJ hb8) (dr_new rfl rfl H zaJ Oz (fun b17 s10 H=>?_))))⟩))⟩)))
   refine yr rfl rfl (ym rfl fc67 rfl (jE (d67 hI (Fine.pr H.fine (jH X9 (jH H.lt0 zdg))) ((knWX (P:=[_,_,_,_,_,_]) hK H).heap rfl (aM _)) (x:=(t,bck (trn l j))) ⟨_,_,rfl,⟨_,rfl,r⟩,_,rfl,_,rfl,R⟩ (zdi ht hqt.bck (show 25 ^ (7-(f+1))*25≤244140625 by omega)) (H.rm Oz)) (fun v9 N D9 Hc hv9=>?_)))
   have Hc:=HL.wider H.fine (aM _) (fun _ h=>bF _ h) Hc
   obtain⟨Φ,J,kd,H⟩:=ZA (U:=U) [_,_,_,_,_,_] H Hc
   replace r:=Rep.mono (τ:=T36) J r
   replace E:=Rep.mono (τ:=T36) J E
   obtain⟨ca,rfl,K⟩:=hv9
   replace K:=Rep.mono (τ:=T36) kd K
   clear Hc J kd
   refine yr rfl rfl (ym rfl fc104 rfl ?_)
   have O:=HL.mid (A:=[_,_,_,_,_]) (B:=_::DX) (C:=Φ) H
   have HN:=HL.narrow (D:=_::DX) (X:=[b17]) O (by intro q9 hq9 V;rw[aX]at V;exact(List.pairwise_cons.mp H.dist).1 q9 (by simp only[aN,aU]at hq9 ⊢;rcases hq9 with h|h<;>simp[h]) V.symm) (by intro p hp;rw[aX]at hp;subst hp;exact H.lt0)
   have eo:oth (eds l) j at_=(l.getD j default).1:=by unfold oth;omega
   have Z:=Q j Y Oz (by unfold Inc;omega)
   rw[eo]at Z
   have ht9:Tn (25 ^ (7-f)) (aft t (bck (trn l j))):=by rw[←zbI hf7];exact ht.aft hqt.bck
   obtain⟨_,N,hr,Dw3,vw3,D8,t8,rfl,Hc,d,n⟩:=ih Oz HN.fine HN q W9 ((KnW.in hK O (Φ:=Φ) (fun _ h=>bF _ h)).narrow H.fine) ((Sts.in o O).narrow (fun _ _ h h1 h2=>h.heap h1 h2) H.fine) (hF.mono xL) (at_:=(l.getD j default).1) (last:=(j:Int)) Oz Oz ht9 K Z (H.rm Oz)
   refine⟨_,_,hr,?_⟩
   clear hr
   have H:=HL.callK (A:=_::DX) (L:=[_,_,_,_,_]++Φ) O (HL.wider H.fine (aM _) (fun _ h=>bF _ h) Hc)
   clear Hc HN O
   obtain⟨Φ,J,kd,H⟩:=QS (U:=U) H
   replace r:=Rep.mono (τ:=T36) J r
   replace n:=Rep.mono (τ:=T36) kd n
   clear J kd
   have g:t8.length=8:=Rep.len (τ:=T36) n
   have z:=Rep.plain (τ:=T36) n
   revert n g z
   generalize t8=cw
   intro n g z
   have u:=stp_on (tr:=tr) (f:=f) (w:=w) (show(j:Int)≠last by omega) (show Inc (eds l) j at_ by unfold Inc;omega)
   rw[eo]at u
   rcases hd:dfs (eds l) tr f ((l.getD j default).1) w (j:Int)with _|r9
   ·rw[hd]at d n
    simp only[Option.getD_none,bJ]at d
    refine za rfl rfl (vU rfl ⟨rfl,(za rfl rfl (yA rfl rfl ⟨rfl,(za rfl rfl (yA rfl rfl ⟨rfl,(vo (vs:=cw) (fr:=[]) H rfl rfl Zs rfl rfl (xm g) z (yO (by rw[g];rfl)) rfl Z2 Oz (fun s11 H=>?_))⟩))⟩))⟩)
    refine za rfl rfl (xi rfl ⟨rfl,(yT (zg (xv rfl (zb (ye rfl (yo (zn ?_)))))))⟩)
    rw[bL]at d
    obtain⟨bw2,cw2,rest2,rfl,rfl,S,hcw3⟩:=d.snoc
    refine zQ (yc Q5 rfl H.own5 rfl (yc Q5 rfl H.own5 rfl (qV YV rfl rfl rfl (v6 rfl rfl (by unfold yv;omega) (Kt (m:=r0.length) uP rfl rfl Oz H.own6 Oz (Wz (vs:=[.slice _ _ _]) H zdG rfl rfl rfl rfl rfl Oz (fun s12 H=>?_)))))))
    refine zb (y8 (zn (zQ (xU rfl rfl (by unfold yv;omega) (zf rfl (zb (yz (⟨(adj (eds l) tr at_).length-(i+1),by omega,_,i+1,_,_,_,Φ,slots ⟨rfl,rfl,rfl,rfl,rfl,rfl,rfl,rfl,rfl,rfl,rfl,trivial⟩,H.drop0.drop0.drop0,by rw[dK,eB];omega,by omega,rfl,.block bw2 cw2 _ rest2 r0 rfl S,r,?_⟩))))))))
    refine je 0 Oz hs ?_
    rw[W]
    rw[u,hd]
    rfl
   rw[hd]at d n
   simp only[Option.getD_none,bJ]at d
   refine za rfl rfl (vU rfl ⟨rfl,(za rfl rfl (yA rfl rfl ⟨rfl,(za rfl rfl (yA rfl rfl ⟨rfl,(vo (vs:=cw) (fr:=[]) H rfl rfl Zs rfl rfl (xm g) z (yO (by rw[g];rfl)) rfl Z2 Oz (fun s13 H=>?_))⟩))⟩))⟩)
   refine za rfl rfl (xi rfl ⟨rfl,(yT (zg (xv rfl (zb (yK rfl (zg (qo uC rfl H.own0 (xJ g) (WB (vs:=cw) H Zs rfl rfl (xm g) z (yO (by rw[g];rfl)) Oz (fun s14 H=>?_)))))))))⟩)
   refine zM (zb (qF (qm (ve (qm (uX (ve (qm (xC (zal uC rfl H.own3 (xJ g) rfl ?_))))))))))
   have T:dfs (eds l) tr (f+1) at_ w last=some (j::r9):=by rw[zar hvw,VB,YE 0 Oz hs (by rw[W,u,hd];rfl)]
   rw[T]
   refine⟨Dw3,vw3,Φ,_,rfl,H.drop0.drop0.drop0.drop0.drop0.up Oz,by rw[bJ];rw[bE]at d;exact d,?_⟩
   have ew:wres (eds l) (trn l) at_ t (some (j::r9))=wres (eds l) (trn l) ((l.getD j default).1) (aft t (bck (trn l j))) (some r9):=by show xZ (eds l) (trn l) (j::r9) at_ t=_;rw[Vz,eo,aE Oz];rfl
   rw[ew]
   exact n
  refine zb (ye rfl (yo (zn (zg (yc Q5 rfl H.own4 rfl (zf rfl (xO (c:=[.int _ _]) H uP rfl rfl Oz (fun b59 s15 H=>?_))))))))
  have hgt:=H.own0
  have H:=HL.mid (A:=[_,_,_,_,_]) (B:=Dw2) (C:=Φ) H.drop0
  refine Xd H q uP YV rfl rfl rfl (qE hgt rfl) Oz Oz (fun DX v9 N q H=>?_)
  obtain⟨a9,c9,rfl⟩:=q.isSlice
  have H:=HL.mid (A:=DX) (B:=[_,_,_,_,_]) (C:=Φ) H
  simp only[bU,cG]at H
  refine WA (vs:=[.slice _ _ _]) H zdG rfl rfl rfl rfl rfl Oz (fun s16 H=>?_)
  refine zb (zH ?_)
  have hf2:1≤f:=by rcases f with _|f;exact absurd (Q j Y Oz (by unfold Inc;omega)) id;omega
  have hp5:25 ^ (7-(f+1))≤9765625:=pow5 Oz
  have hb2:=hb2S
  refine vP [⟨0,0,.light,[3,4,10]⟩,⟨1,0,.light,[0,3,4,10]⟩,⟨2,0,.light,[0,3,4,10]⟩,⟨3,0,.light,[0,4,10]⟩,⟨4,0,.light,[0,3,10]⟩,⟨10,0,.new,[0,3,4]⟩,⟨5,24,.whole,[0,10]⟩,⟨6,63,.whole,[10]⟩,⟨7,127,.light,[10]⟩,⟨8,255,.light,[10]⟩,⟨9,255,.light,[10]⟩,⟨11,1535,.whole,[]⟩,⟨12,4095,.light,[]⟩] Z0 Z0 (yI rfl rfl sh145 rfl (o _ _ _ H).gS (by have:=H.most;omega) rfl (za rfl rfl (zf rfl ⟨rfl,(za rfl rfl (zf rfl ⟨rfl,(kY rfl rfl uC rfl H.own3 (H.lim3 Oz) (xJ M) (kY rfl rfl uC rfl H.own0 (H.lim0 Oz) (xJ ht8) (dr_new rfl rfl H zaJ Oz (fun b17 s17 H=>?_))))⟩))⟩)))
  refine yr rfl rfl (ym rfl fc67 rfl (jE (d67 hI (Fine.pr H.fine (jH X9 (jH H.lt0 zdg))) ((knWX (P:=[_,_,_,_,_,_]) hK H).heap rfl (aM _)) (x:=(t,trn l j)) ⟨_,_,rfl,⟨_,rfl,r⟩,_,rfl,_,rfl,E⟩ (zdi ht hqt (show 25 ^ (7-(f+1))*25≤244140625 by omega)) (H.rm Oz)) (fun v9 N D9 Hc hv9=>?_)))
  have Hc:=HL.wider H.fine (aM _) (fun _ h=>bF _ h) Hc
  obtain⟨Φ,J,kd,H⟩:=ZA (U:=U) [_,_,_,_,_,_] H Hc
  replace r:=Rep.mono (τ:=T36) J r
  obtain⟨ca,rfl,K⟩:=hv9
  replace K:=Rep.mono (τ:=T36) kd K
  clear Hc J kd
  refine yr rfl rfl (ym rfl fc104 rfl ?_)
  have O:=HL.mid (A:=[_,_,_,_,_]) (B:=_::DX) (C:=Φ) H
  have HN:=HL.narrow (D:=_::DX) (X:=[b17]) O (by intro q9 hq9 V;rw[aX]at V;exact(List.pairwise_cons.mp H.dist).1 q9 (by simp only[aN,aU]at hq9 ⊢;rcases hq9 with h|h<;>simp[h]) V.symm) (by intro p hp;rw[aX]at hp;subst hp;exact H.lt0)
  have eo:oth (eds l) j at_=(l.getD j default).2.1:=by unfold oth;omega
  have Z:=Q j Y Oz (by unfold Inc;omega)
  rw[eo]at Z
  have ht9:Tn (25 ^ (7-f)) (aft t (trn l j)):=by rw[←zbI hf7];exact ht.aft hqt
  obtain⟨_,N,hr,Dw3,vw3,D8,t8,rfl,Hc,d,n⟩:=ih Oz HN.fine HN q W9 ((KnW.in hK O (Φ:=Φ) (fun _ h=>bF _ h)).narrow H.fine) ((Sts.in o O).narrow (fun _ _ h h1 h2=>h.heap h1 h2) H.fine) (hF.mono xL) (at_:=(l.getD j default).2.1) (last:=(j:Int)) Oz Oz ht9 K Z (H.rm Oz)
  refine⟨_,_,hr,?_⟩
  clear hr
  have H:=HL.callK (A:=_::DX) (L:=[_,_,_,_,_]++Φ) O (HL.wider H.fine (aM _) (fun _ h=>bF _ h) Hc)
  clear Hc HN O
  obtain⟨Φ,J,kd,H⟩:=QS (U:=U) H
  replace r:=Rep.mono (τ:=T36) J r
  replace n:=Rep.mono (τ:=T36) kd n
  clear J kd
  have g:t8.length=8:=Rep.len (τ:=T36) n
  have z:=Rep.plain (τ:=T36) n
  revert n g z
  generalize t8=cw
  intro n g z
  have u:=stp_on (tr:=tr) (f:=f) (w:=w) (show(j:Int)≠last by omega) (show Inc (eds l) j at_ by unfold Inc;omega)
  rw[eo]at u
  rcases hd:dfs (eds l) tr f ((l.getD j default).2.1) w (j:Int)with _|r9
  ·rw[hd]at d n
   simp only[Option.getD_none,bJ]at d
   refine za rfl rfl (vU rfl ⟨rfl,(za rfl rfl (yA rfl rfl ⟨rfl,(za rfl rfl (yA rfl rfl ⟨rfl,(vo (vs:=cw) (fr:=[]) H rfl rfl Zs rfl rfl (xm g) z (yO (by rw[g];rfl)) rfl Z2 Oz (fun s18 H=>?_))⟩))⟩))⟩)
   refine za rfl rfl (xi rfl ⟨rfl,(yT (zg (xv rfl (zb (ye rfl (yo (zn ?_)))))))⟩)
   rw[bL]at d
   obtain⟨bw2,cw2,rest2,rfl,rfl,S,hcw3⟩:=d.snoc
   refine zQ (yc Q5 rfl H.own5 rfl (yc Q5 rfl H.own5 rfl (qV YV rfl rfl rfl (v6 rfl rfl (by unfold yv;omega) (Kt (m:=r0.length) uP rfl rfl Oz H.own6 Oz (Wz (vs:=[.slice _ _ _]) H zdG rfl rfl rfl rfl rfl Oz (fun s19 H=>?_)))))))
   refine zb (y8 (zn (zQ (xU rfl rfl (by unfold yv;omega) (zf rfl (zb (yz (⟨(adj (eds l) tr at_).length-(i+1),by omega,_,i+1,_,_,_,Φ,slots ⟨rfl,rfl,rfl,rfl,rfl,rfl,rfl,rfl,rfl,rfl,rfl,trivial⟩,H.drop0.drop0.drop0,by rw[dK,eB];omega,by omega,rfl,.block bw2 cw2 _ rest2 r0 rfl S,r,?_⟩))))))))
   refine je 0 Oz hs ?_
   rw[W]
   rw[u,hd]
   rfl
  rw[hd]at d n
  simp only[Option.getD_none,bJ]at d
  refine za rfl rfl (vU rfl ⟨rfl,(za rfl rfl (yA rfl rfl ⟨rfl,(za rfl rfl (yA rfl rfl ⟨rfl,(vo (vs:=cw) (fr:=[]) H rfl rfl Zs rfl rfl (xm g) z (yO (by rw[g];rfl)) rfl Z2 Oz (fun s20 H=>?_))⟩))⟩))⟩)
  refine za rfl rfl (xi rfl ⟨rfl,(yT (zg (xv rfl (zb (yK rfl (zg (qo uC rfl H.own0 (xJ g) (WB (vs:=cw) H Zs rfl rfl (xm g) z (yO (by rw[g];rfl)) Oz (fun s21 H=>?_)))))))))⟩)
  refine zM (zb (qF (qm (ve (qm (uX (ve (qm (xC (zal uC rfl H.own3 (xJ g) rfl ?_))))))))))
  have T:dfs (eds l) tr (f+1) at_ w last=some (j::r9):=by rw[zar hvw,VB,YE 0 Oz hs (by rw[W,u,hd];rfl)]
  rw[T]
  refine⟨Dw3,vw3,Φ,_,rfl,H.drop0.drop0.drop0.drop0.drop0.up Oz,by rw[bJ];rw[bE]at d;exact d,?_⟩
  have ew:wres (eds l) (trn l) at_ t (some (j::r9))=wres (eds l) (trn l) ((l.getD j default).2.1) (aft t (trn l j)) (some r9):=by show xZ (eds l) (trn l) (j::r9) at_ t=_;rw[Vz,eo,aG Oz];rfl
  rw[ew]
  exact n
 refine zb (zH (ye rfl (qt (xF (xo (xH (zn ?_)))))))
 have hml:=bM (110000+ul 110000 f) (show i≤6 by omega)
 refine zg (Kw (c:=[.bool _,.slice _ _ _,.bool _,.slice _ _ _,.bool _,.slice _ _ _,.bool _,.slice _ _ _]) bf36 rfl (xn (vs:=[.bool _,.slice _ _ _,.bool _,.slice _ _ _,.bool _,.slice _ _ _,.bool _,.slice _ _ _]) H Zs rfl rfl rfl rfl rfl Oz (fun s22 H=>?_)))
 refine zM (zb (qF (xC (zal uC rfl H.own0 rfl rfl ?_))))
 have hml:=bM (110000+ul 110000 f) (show i≤6 by omega)
 have T:dfs (eds l) tr (f+1) at_ w last=none:=by rw[zar hvw,VB,zah Oz hs]
 rw[T]
 refine⟨Dw2,vw2,Φ,_,rfl,H.drop0.drop0.up Oz,by rw[Option.getD_none,bL];exact q,⟨_,_,rfl,rat0,rat0⟩⟩
theorem fb45:vE Tryz.f45 (Tryz.f45.body.getD .skip) 3=true:=by kernel_rfl
theorem fc65:xG Tryz.prog 65=true:=by kernel_rfl
theorem sz145:qX Tryz.prog 145=some 1:=by kernel_rfl
theorem zf145:jk Tryz.prog 145=some [.nilFunc]:=by kernel_rfl
theorem zf22:jk Tryz.prog 22=some [.slice none 0 0]:=by kernel_rfl
theorem d65:qz 65 242 [] T36 fun _=>z65:=t65 65 _ rfl
theorem z65_ok:z65=some z7:=by
 unfold z65
 rw[show ofG 1 1=some 1 from(aG Uz).trans (congrArg some Uz)]
 rfl
def PostWk(U:Wd)(s:St)(k:Nat)(r:Option (List Nat))(q:Q2)(v:Value)(s':St):Prop:=∃(a:Hp') (b:Value) (D:Hp') (t8:List Value),v=.tuple ⟨[b,.agg ⟨t8⟩,.bool r.isSome]⟩∧HL [] s s' (a++D) k∧Wy a b (r.getD [])∧Rep (U.x D) T36 t8 q
theorem zaS{W:List Nat}{s0 s:St}{n:Nat}{U:Wd}{p q0 a b c:Nat×MObj}{A D Φ:Hp'}(H:HL W s0 s ((p::(A++D))++(q0::a::b::c::Φ)) n):∃Φ',WLe (U.x Φ) (U.x Φ')∧WLe ((U.x Φ).x D) (U.x Φ')∧HL W s0 s (q0::a::p::(A++Φ')) n:=by
 refine⟨D++Φ,vD (dG _ _),uO (dG _ _) (List.subset_append_left _ _),?_⟩
 have H2:=HL.mid (A:=p::(A++D)) (B:=[q0,a,b,c]) (C:=Φ) H
 have e:(p::(A++D))++Φ=p::(A++(D++Φ)):=by simp
 rw[e]at H2
 exact H2.sub (.cons_cons _ (.cons_cons _ (.cons _ (.cons _ (.refl _)))))
set_option maxHeartbeats 4000000 in
set_option maxRecDepth 10000 in
theorem zaT{I:zU}(p:zJ I){s:St}(hf:Fine s){U:Wd}(Q:Knw s U){bt:Nat}{vl:Value}{cF:List Value}{va:Int→Value}{L:List (List Value)}{l:List Fq}{tr:List Nat}(W:∀k,k<l.length→0≤(eds l k).1∧(eds l k).1<(eds l k).2∧(eds l k).2<12)(Z:∀k,k<l.length→Tn 25 (trn l k))(F:∀k∈tr,k<l.length)(V:tr.length≤6)(o:Fo (eds l) tr)(r:zE cF 0=some vl)(u:∀v:Int,0≤v→v<12→zE cF (1+v.toNat)=some (va v))(y:s.get bt=some (.cells cF 94))(E:bt<s.next)(i:∀v:Int,0≤v→v<12→SlD s (va v) (nts (adj (eds l) tr v)))(hl:Sl s 40 29 vl L)(Y:FitsC U L l){v w:Int}(J:0≤v)(K:v<12)(hroom:43200000000+s.next≤zw) :
 ∃v' s',vm Tryz.prog I 45 #[.pointer (some ⟨bt,0,none⟩),.int .i64 v,.int .i64 w] s v' s'∧PostWk U s 43200000000 (way (eds l) tr v w) (wres (eds l) (trn l) v z7 (way (eds l) tr v w)) v' s':=by
 have H:=hf.hl
 have t:=cost_mono 110000 (show tr.length+1≤7 by omega)
 rw[cost7]at t
 refine qB 3 (p 45) Tryz.func45 rfl fb45 rfl ?_
 refine zg (op_boxP H rfl Oz (fun j s1 H=>?_))
 refine zfZ H rfl Oz (fun m s2 H=>?_)
 refine xT H zf22 Oz (fun n s3 H=>?_)
 refine xT H zaJ Oz (fun b7 s4 H=>?_)
 refine zM (zb (zg (xT H zf145 Oz (fun g s5 H=>?_))))
 refine zb (zg (XM (xn (vs:=[.func (.func 104) #[] #[.pointer (some ⟨m,0,none⟩),.pointer (some ⟨j,0,none⟩),.pointer (some ⟨n,0,none⟩),.pointer (some ⟨g,0,none⟩)]]) H sz145 rfl rfl rfl rfl rfl Oz (fun S H=>?_))))
 refine zb (vP [⟨0,0,.light,[]⟩,⟨1,0,.light,[0]⟩,⟨2,0,.whole,[0]⟩,⟨3,7,.whole,[]⟩,⟨4,15,.light,[]⟩,⟨5,31,.light,[]⟩,⟨6,31,.light,[]⟩,⟨7,63,.whole,[]⟩,⟨8,255,.light,[]⟩] Z0 Z0 (yI rfl rfl sh145 rfl H.own0 (H.lim0 Oz) rfl (za rfl rfl (zf rfl ⟨rfl,(yr rfl rfl (ym rfl fc65 rfl (jE (d65 p (Fine.pr H.fine (jH H.lt0 zdg)) ((knWX (P:=[_,_,_,_,_]) (A:=[]) Q.w H).heap rfl (aM _)) (x:=()) rfl z65_ok (H.rm Oz)) (fun v9 S D9 Hc M=>?_))))⟩))))
 have Hc:=HL.wider H.fine (aM _) (fun _ h=>bF _ h) Hc
 obtain⟨Φ,N,kd,H⟩:=ZA (U:=U) (A:=[]) [_,_,_,_,_] H Hc
 have H:HL [] s _ (_::_::_::_::_::Φ) _:=H
 obtain⟨ca,rfl,e⟩:=M
 replace e:=Rep.mono (τ:=T36) kd e
 clear Hc N kd
 refine yr rfl rfl (ym rfl fc104 rfl ?_)
 have f:=HL.mid (A:=[_,_]) (B:=[_]) (C:=_::_::Φ) H
 have HN:=HL.narrow (D:=[_]) (X:=[]) f (by intro q hq z;cases z) V1
 have G:1≤25 ^ (7-(tr.length+1)):=Nat.one_le_pow _ _ Uz
 obtain⟨_,S,R,Dw3,vw3,D8,t8,rfl,Hc,c,a⟩:=walk1_ok p (bTo:=m) (bT:=j) (bW:=n) (bS:=g) (bt:=bt) (cF:=cF) (va:=va) (w:=w) (L:=L) (l:=l) W Z F V r u (tr.length+1) Oz HN.fine HN (r0:=[]) .nil (by simp only[List.length_nil];omega) ((KnW.in Q.w f (Φ:=Φ) Z8).narrow H.fine) (fun s8 L8 n8 T=>(by have H9:=HL.callK f T;exact⟨(H9.own (m,_) Y8).1,(H9.own (j,_) Y8).1,(H9.own (g,_) Y8).1,(H9.own (g,.cells [.func (.func 104) #[] #[.pointer (some ⟨m,0,none⟩),.pointer (some ⟨j,0,none⟩),.pointer (some ⟨n,0,none⟩),.pointer (some ⟨g,0,none⟩)]] 145) Y8).2.1,H9.old E y,fun v h0 h1=>(i v h0 h1).kept H9,hl.kept H9⟩)) (Y.mono xL) (at_:=v) (last:= -1) J K (tn_still.le G) e (o.tm v (-1)) (H.rm Oz)
 refine⟨_,_,R,?_⟩
 clear R
 have H:=HL.callK (A:=[_]) (L:=_::_::_::_::Φ) f (HL.wider H.fine (aM _) (fun _ h=>h) Hc)
 clear Hc HN f
 obtain⟨Φ,N,kd,H⟩:=zaS (U:=U) H
 replace a:=Rep.mono (τ:=T36) kd a
 clear N kd
 have b:t8.length=8:=Rep.len (τ:=T36) a
 have d:=Rep.plain (τ:=T36) a
 revert a b d
 generalize t8=O
 intro a b d
 rw[cG]at c
 obtain⟨a9,c9,rfl⟩:=c.isSlice
 refine za rfl rfl (vU rfl ⟨rfl,(za rfl rfl (yA rfl rfl ⟨rfl,(za rfl rfl (yA rfl rfl ⟨rfl,(Xo (vs:=O) (fr:=[]) H rfl rfl Zs rfl rfl (xm b) d (yO (by rw[b];rfl)) rfl Z2 Oz (fun s6 H=>?_))⟩))⟩))⟩)
 refine za rfl rfl (xi rfl ⟨rfl,(yT (vP [⟨0,0,.light,[1]⟩,⟨1,0,.light,[0]⟩,⟨2,0,.light,[0,1]⟩,⟨3,1,.whole,[1]⟩,⟨4,11,.whole,[]⟩,⟨5,31,.light,[]⟩] Z0 Z0 (yI rfl rfl Q5 rfl H.own2 (H.lim2 Oz) rfl (kY rfl rfl uC rfl H.own1 (H.lim1 Oz) (xJ b) (za rfl rfl (xv rfl ⟨rfl,(Xn (vs:=[.slice _ _ _]) (fr:=[_]) H rfl rfl zdG rfl rfl rfl rfl rfl rfl Z2 Oz (fun s7 H=>?_))⟩))))))⟩)
 refine Xo (vs:=O) (fr:=[]) H rfl rfl Zs rfl rfl (xm b) d (yO rfl) rfl Z2 Oz (fun s8 H=>?_)
 refine za rfl rfl (xi rfl ⟨rfl,(yT (qF (xC (end_sct Q5 rfl H.own2 rfl uC rfl H.own1 (xJ b) rfl ?_))))⟩)
 exact⟨Dw3,_,Φ,_,rfl,H.drop0.drop0.drop0.up Oz,c,a⟩
theorem WL{α:Type}:∀{l a a' b:List α},xK l a=some a'→xK l (a++b)=some (a'++b)
 | [],_,_,_,h=>by simp only[xK,bC]at h ⊢;rw[h]
 |_::_,[],_,_,h=>by simp[xK]at h
 |v::l,x::a,a',b,h=>by
  simp only[xK,bU]at h ⊢
  split at h
  ·next r c=>rw[WL c];cases h;rfl
  ·cases h
theorem zbW{α:Type}:∀{j:Nat} {l a a' b:List α},yM j l a=some a'→yM j l (a++b)=some (a'++b)
 |0,_,_,_,_,h=>WL h
 |_+1,_,[],_,_,h=>by simp[yM]at h
 |j+1,l,x::a,a',b,h=>by
  simp only[yM,bU]at h ⊢
  split at h
  ·next r c=>rw[zbW c];cases h;rfl
  ·cases h
theorem fb236:vE Tryz.f236 (Tryz.f236.body.getD .skip) 1=true:=by kernel_rfl
theorem fc236:xG Tryz.prog 236=true:=by kernel_rfl
theorem sz3:qX Tryz.prog 3=some 1:=by kernel_rfl
set_option maxHeartbeats 4000000 in
theorem isNaN_ok{I:zU}(a:zJ I){s:St}{n:Int}:∃v' s',vm Tryz.prog I 236 #[.int .i64 n] s v' s'∧(v'=.bool false∧s'=s):=by
 refine qB 1 (a 236) Tryz.func236 rfl fb236 rfl ?_
 refine zg (zM (zb (zg (zf rfl (zf rfl (op_neq rfl rfl (fun h=>False.elim (h rfl)) (fun h=>?_)))))))
 refine xi rfl (zb (qF (xC (uA ?_))))
 exact⟨rfl,rfl⟩
section
variable{P:Program}{I:zU}{F:FF}{s:St}{Q:FF→St→Prop}{d:Option Tmp}{ty:TypeId}{pos:String}{af:Array Edge}{g:Option (Nat×Bool)}
theorem zbP{src dst:TypeId}{x:Operand}{kd:IntKind}{a:Int}{u:TypeDesc}(hu:P.underlying src=some u)(hd:P.underlying dst=some (.int .u64))(hx:zd F x=.int kd a)(h:InU a)(k:Q (upd F d (.int .u64 a)) s):OpW P I ⟨d,.convert src dst x,ty,pos,af,g⟩ F s Q:=
 XN hu hd hx (by rw[QP h];exact k)
end
theorem fb182:vE Tryz.f182 (Tryz.f182.body.getD .skip) 2=true:=by kernel_rfl
theorem fb176:vE Tryz.f176 (Tryz.f176.body.getD .skip) 3=true:=by kernel_rfl
theorem fc182:xG Tryz.prog 182=true:=by kernel_rfl
theorem fb107:vE Tryz.f107 (Tryz.f107.body.getD .skip) 4=true:=by kernel_rfl
theorem fc176:xG Tryz.prog 176=true:=by kernel_rfl
theorem fb48:vE Tryz.f48 (Tryz.f48.body.getD .skip) 1=true:=by kernel_rfl
theorem fc107:xG Tryz.prog 107=true:=by kernel_rfl
theorem fc108:xG Tryz.prog 108=true:=by kernel_rfl
theorem un150:Tryz.prog.underlying 150=some (.int .u64):=by kernel_rfl
section
variable{P:Program}{I:zU}{F:FF}{s:St}{Q:FF→St→Prop}{d:Option Tmp}{ty:TypeId}{pos:String}{af:Array Edge}{g:Option (Nat×Bool)}
end
section
variable{P:Program}{I:zU}{f:FuncId}{args:Array Value}{s:St}{Q:Value→St→Prop}
theorem callLt{a b:Int}(h:∃v s',vm P I f args s v s'∧(v=.bool (decide (a<b))∧s'=s))(c0:¬a<b→Q (.bool false) s)(c1:a<b→Q (.bool true) s):∃v s',vm P I f args s v s'∧Q v s':=by
 obtain⟨v,s',e,rfl,rfl⟩:=h
 by_cases c:a<b
 ·rw[aH c]at e;exact⟨_,_,e,c1 c⟩
 ·rw[aZ c]at e;exact⟨_,_,e,c0 c⟩
end
theorem YY:∀{L:List Int} {j:Nat},j+1<L.length→((L.set (j+1) (L.getD j 0)).set j (L.getD (j+1) 0)).Perm L
 | [],_,h=>by simp at h
 | [x],_,h=>by simp at h
 |x::y::L,0,_=>by simpa using List.Perm.swap x y L
 |x::y::L,j+1,h=>by
  have:=YY (L:=y::L) (j:=j) (by simpa using h)
  simpa using this.cons x
theorem zfM{L:List Int}{i j:Nat}{x:Int}(hi:i<L.length):(L.set i x).getD j 0=if j=i then x else L.getD j 0:=by
 rw[aC,List.getElem?_set]
 by_cases h:i=j
 ·subst h;simp[hi]
 ·rw[aE h,aE (Ne.symm h),aC]
def But(L:List Int)(i j:Nat):Prop:=∀p q,p<q→q≤i→(p≠j→q≠j→L.getD p 0≤L.getD q 0)∧(p=j→L.getD j 0≤L.getD q 0)
def Srt(L:List Int)(i:Nat):Prop:=∀p q,p<q→q<i→L.getD p 0≤L.getD q 0
theorem Srt.but{L:List Int}{i:Nat}(h:Srt L i):But L i i:=fun p q a hqi=>⟨fun _ hq=>h p q a Oz,fun hp=>by omega⟩
theorem But.srt{L:List Int}{i j:Nat}(h:But L i j)(hj:j=0∨¬L.getD j 0<L.getD (j-1) 0):Srt L (i+1):=fun p q a hqi=>by
 by_cases hp:p=j
 ·exact hp▸(h p q a Oz).2 hp
 ·by_cases c:q=j
  ·subst c
   rcases hj with rfl|hj
   ·omega
   ·by_cases b:p=q-1
    ·rw[b];omega
    ·have:=(h p (q-1) Oz Oz).1 hp Oz;omega
  ·exact(h p q a Oz).1 hp c
theorem But.swap{L:List Int}{i j:Nat}(h:But L i (j+1))(hj:L.getD (j+1) 0<L.getD j 0)(hl:j+1<L.length):But ((L.set (j+1) (L.getD j 0)).set j (L.getD (j+1) 0)) i j:=fun p q l c=>by
 have e:∀k,((L.set (j+1) (L.getD j 0)).set j (L.getD (j+1) 0)).getD k 0=if k=j then L.getD (j+1) 0 else if k=j+1 then L.getD j 0 else L.getD k 0:=fun k=>by
  rw[zfM V3,zfM hl]
 rw[e,e,e]
 refine⟨fun hp m=>?_,fun hp=>?_⟩
 ·rw[aE hp,aE m]
  by_cases b:p=j+1
  ·rw[aG b,aE Oz]
   exact(h j q Oz c).1 Oz Oz
  ·rw[aE b]
   by_cases a:q=j+1
   ·rw[aG a]
    exact(h p j Oz Oz).1 b Oz
   ·rw[aE a]
    exact(h p q l c).1 b a
 ·subst hp
  rw[aG rfl,aE Oz]
  by_cases a:q=p+1
  ·rw[aG a];omega
  ·rw[aE a]
   exact(h (p+1) q Oz c).2 rfl
theorem Srt.pw{L:List Int}(h:Srt L L.length):L.Pairwise (·≤·):=by
 rw[List.pairwise_iff_getElem]
 intro p q hp b a
 have:=h p q a b
 rwa[aC,aC,aD hp,aD b]at this
theorem j8{L:List Int}{rest:List Value}{k m:Nat}(hk:k<L.length)(a:m=k):zE (xj L++rest) m=some (.int .i64 (L.getD k 0)):=by
 subst a
 have h1:=WM hk
 rw[zG]at h1 ⊢
 rw[cD (by rw[uY];exact hk)]
 exact h1
theorem KQ{x:Int}{L:List Int}{rest:List Value}{k m:Nat}(hk:k<L.length)(a:m=k):yM m [.int .i64 x] (xj L++rest)=some (xj (L.set k x)++rest):=zbW (zeg hk a)
set_option maxHeartbeats 4000000 in
set_option maxRecDepth 10000 in
theorem less_ok{I:zU}(c:zJ I){s:St}{a b:Int}:∃v' s',vm Tryz.prog I 182 #[.int .i64 a,.int .i64 b] s v' s'∧(v'=.bool (decide (a<b))∧s'=s):=by
 refine qB 2 (c 182) Tryz.func182 rfl fb182 rfl ?_
 refine zg (zM (zb (zg (zf rfl (ym rfl fc236 rfl ?_)))))
 obtain⟨_,_,e,rfl,rfl⟩:=isNaN_ok (s:=s) (n:=a) c
 refine⟨_,_,e,?_⟩
 clear e
 refine xv rfl (xD rfl (xD rfl (xD rfl (gG rfl (xv rfl (zf rfl (zf rfl (kz rfl rfl (fun h=>?_) (fun h=>?_)))))))))
 ·refine wk rfl rfl (xi rfl (zb (qF (xC (uA (⟨congrArg Value.bool ?_,rfl⟩))))))
  exact(aH Oz).symm
 refine wk rfl rfl (xi rfl (zb (qF (xC (uA (⟨congrArg Value.bool ?_,rfl⟩))))))
 exact(aZ Oz).symm
set_option maxHeartbeats 4000000 in
set_option maxRecDepth 10000 in
theorem J4{I:zU}(o:zJ I){s0 s:St}{c m cap:Nat}{L0:List Int}{rest:List Value}{R:Hp'}(H:HL [] s0 s ((c,.cells (xj L0++rest) tI)::R) m)(h12:L0.length≤12)(hroom:m+1+s0.next≤zw) :
 ∃v' s',vm Tryz.prog I 176 #[.slice (some ⟨c,0,none⟩) L0.length cap,.int .i64 0,.int .i64 (L0.length:Int)] s v' s'∧(∃L,v'=.tuple ⟨[]⟩∧HL [] s0 s' ((c,.cells (xj L++rest) tI)::R) m∧L.Perm L0∧L.Pairwise (·≤·)):=by
 refine qB 3 (o 176) Tryz.func176 rfl fb176 rfl ?_
 refine zg (zf rfl (xU rfl rfl (by unfold yv;omega) (z3 rfl (zb (yj (kN (fun k F s1=>∃(G:FF) (i:Nat) (L:List Int),F=lay G [(0,.slice (some ⟨c,0,none⟩) L0.length cap),(1,.int .i64 0),(2,.int .i64 (L0.length:Int)),(6,.int .i64 (i:Int))]∧HL [] s0 s1 ((c,.cells (xj L++rest) tI)::R) m∧L.Perm L0∧L.length=L0.length∧1≤i∧(i≤L0.length∨i=1)∧k=13-i∧Srt L i) ?_ 12 _ _ ?_))))))
 rotate_left
 ·exact⟨_,1,L0,slots ⟨rfl,rfl,rfl,rfl,trivial⟩,H,.refl _,rfl,by omega,by omega,rfl,fun p q h1 h2=>by omega⟩
 rintro k F s1 ⟨G,i,L,rfl,H,hp,n,hi1,hi,rfl,hs⟩
 refine zH (zg (zf rfl (zf rfl (kz rfl rfl (fun h=>?_) (fun h=>?_)))))
 ·refine zb (yK rfl (yo (zn (zH (yj (zg (zf rfl (z3 rfl (zb (yj (kN (fun k F s1=>∃(G:FF) (j:Nat) (L2:List Int),F=lay G [(0,.slice (some ⟨c,0,none⟩) L0.length cap),(1,.int .i64 0),(2,.int .i64 (L0.length:Int)),(6,.int .i64 (i:Int)),(7,.int .i64 (j:Int))]∧HL [] s0 s1 ((c,.cells (xj L2++rest) tI)::R) m∧L2.Perm L0∧L2.length=L0.length∧j≤i∧k=j∧But L2 i j) ?_ i _ _ ?_)))))))))))
  rotate_left
  ·exact⟨_,i,L,slots ⟨rfl,rfl,rfl,rfl,rfl,trivial⟩,H,hp,n,by omega,rfl,hs.but⟩
  rintro kx F s1 ⟨G,j,L2,rfl,H,e,b,hj,hkj,a⟩
  refine zH (vP [⟨0,0,.light,[]⟩,⟨1,0,.light,[]⟩,⟨2,3,.light,[]⟩,⟨3,7,.light,[]⟩,⟨4,15,.light,[12]⟩,⟨5,15,.light,[12]⟩,⟨6,63,.light,[12]⟩,⟨7,127,.light,[12]⟩,⟨8,15,.light,[7]⟩,⟨9,15,.light,[7]⟩,⟨10,527,.light,[7]⟩,⟨11,1807,.light,[7]⟩,⟨12,3855,.light,[7]⟩,⟨13,8191,.whole,[]⟩,⟨14,16383,.light,[]⟩] Z0 Z0 (za rfl rfl (zf rfl ⟨rfl,(za rfl rfl (zf rfl ⟨rfl,(za rfl rfl (JN rfl rfl (fun h=>⟨rfl,?_⟩) (fun h=>⟨rfl,?_⟩)))⟩))⟩)))
  ·refine za rfl rfl (xv rfl ⟨rfl,(za rfl rfl (zx rfl ⟨rfl,(za rfl rfl (zf rfl ⟨rfl,(za rfl rfl (z5 zcy rfl rfl Oz Oz ⟨rfl,(yI rfl rfl sh3 rfl H.own0 (H.lim0 Oz) (j8 (k:=j) Oz Oz) (za rfl rfl (zx rfl ⟨rfl,(za rfl rfl (zf rfl ⟨rfl,(za rfl rfl (v6 rfl rfl (by unfold yv;omega) ⟨rfl,(za rfl rfl (z5 zcy rfl rfl Oz Oz ⟨rfl,(yI rfl rfl sh3 rfl H.own0 (H.lim0 Oz) (j8 (k:=j-1) Oz Oz) (yr rfl rfl (ym rfl fc182 rfl (callLt (less_ok o) (fun l=>?_) (fun l=>?_)))))⟩))⟩))⟩))⟩)))⟩))⟩))⟩))⟩)
   ·refine za rfl rfl (vI rfl rfl ⟨rfl,(yT (ye rfl (qt (xF (xo (xH (y8 (zn (zQ (zf rfl (xU rfl rfl (by unfold yv;omega) ?_)))))))))))⟩)
    refine z3 rfl (zb (yz (⟨13-(i+1),by omega,_,i+1,L2,slots ⟨rfl,rfl,rfl,rfl,trivial⟩,H,e,b,by omega,by omega,rfl,a.srt ?_⟩)))
    exact .inr Oz
   refine za rfl rfl (vI rfl rfl ⟨rfl,(yT (yK rfl (yo (zn (zH (yj ?_))))))⟩)
   obtain⟨k,rfl⟩:∃k,j=k+1:=⟨j-1,by omega⟩
   have hj1:(((k+1:Nat):Int)-1).toNat=k:=by omega
   rw[Nat.add_sub_cancel]at l
   refine uk [⟨0,0,.light,[9,13]⟩,⟨1,0,.light,[9,13]⟩,⟨2,0,.light,[9,13]⟩,⟨3,0,.light,[9,13]⟩,⟨4,8,.light,[9,13]⟩,⟨5,0,.light,[13]⟩,⟨6,0,.light,[13]⟩,⟨7,64,.light,[13]⟩,⟨8,224,.light,[13]⟩,⟨9,480,.light,[13]⟩,⟨10,0,.light,[9]⟩,⟨11,0,.light,[9]⟩,⟨12,3072,.light,[9]⟩,⟨13,7168,.light,[9]⟩,⟨14,16355,.light,[]⟩,⟨15,32739,.whole,[]⟩,⟨16,65535,.light,[]⟩,⟨17,131071,.whole,[]⟩] Z0 Z0 (za rfl rfl (zx rfl ⟨rfl,(za rfl rfl (zf rfl ⟨rfl,(za rfl rfl (zx rfl ⟨rfl,(za rfl rfl (zf rfl ⟨rfl,(za rfl rfl (v6 rfl rfl (by unfold yv;omega) ⟨rfl,(za rfl rfl (zx rfl ⟨rfl,(za rfl rfl (zf rfl ⟨rfl,(za rfl rfl (v6 rfl rfl (by unfold yv;omega) ⟨rfl,(za rfl rfl (z5 zcy rfl rfl Oz Oz ⟨rfl,(yI rfl rfl sh3 rfl H.own0 (H.lim0 Oz) (j8 (k:=k) Oz Oz) (za rfl rfl (zx rfl ⟨rfl,?_⟩)))⟩))⟩))⟩))⟩))⟩))⟩))⟩))⟩))⟩))
   refine za rfl rfl (zf rfl ⟨rfl,(za rfl rfl (z5 zcy rfl rfl Oz Oz ⟨rfl,(yI rfl rfl sh3 rfl H.own0 (H.lim0 Oz) (j8 (k:=k+1) Oz Oz) (za rfl rfl (z5 zcy rfl rfl Oz Oz ⟨rfl,(vo (vs:=[.int .i64 _]) (fr:=[]) H rfl rfl sz3 rfl rfl rfl rfl (KQ (k:=k+1) Oz Oz) rfl V1 Oz (fun r H=>?_))⟩)))⟩))⟩)
   refine za rfl rfl (z5 zcy rfl rfl Oz Oz ⟨rfl,(vo (vs:=[.int .i64 _]) (fr:=[]) H rfl rfl sz3 rfl rfl rfl rfl (KQ (k:=k) V3 Oz) rfl V1 Oz (fun r H=>?_))⟩)
   refine yT (y8 (zn (zQ (zf rfl (v6 rfl rfl (by unfold yv;omega) (z3 rfl (zb (yz (⟨k,by omega,_,k,_,slots ⟨rfl,rfl,rfl,rfl,by show Value.int .i64 (((k+1:Nat):Int)-1)=_;congr 1;omega,trivial⟩,H,(YY Oz).trans e,by rw[bP,bP];exact b,by omega,rfl,a.swap Oz Oz⟩)))))))))
  refine za rfl rfl (xv rfl ⟨rfl,(kD rfl rfl (kD rfl rfl (kD rfl rfl (kD rfl rfl (kD rfl rfl (kD rfl rfl (kD rfl rfl (kD rfl rfl (kD rfl rfl (kD rfl rfl (za rfl rfl (gG rfl ⟨rfl,?_⟩))))))))))))⟩)
  refine yT (ye rfl (qt (xF (xo (xH (y8 (zn (zQ (zf rfl (xU rfl rfl (by unfold yv;omega) (z3 rfl ?_)))))))))))
  refine zb (yz (⟨13-(i+1),by omega,_,i+1,L2,slots ⟨rfl,rfl,rfl,rfl,trivial⟩,H,e,b,by omega,by omega,rfl,a.srt ?_⟩))
  exact .inl Oz
 refine zb (ye rfl (qt (xF (xo (xH (Go.M.nrm_end (QG ?_)))))))
 have hii:L0.length≤i:=by omega
 exact⟨L,rfl,H,hp,Srt.pw fun p q h1 h2=>hs p q h1 Oz⟩
set_option maxHeartbeats 4000000 in
set_option maxRecDepth 10000 in
theorem pdq_ok{I:zU}(i:zJ I){s0 s:St}{b e cap:Nat}{L0:List Int}{rest:List Value}{R:Hp'}(H:HL [] s0 s ((b,.cells (xj L0++rest) tI)::R) e)(c:L0.length≤12){z:Int}(a:e+1+s0.next≤zw) :
 ∃v' s',vm Tryz.prog I 107 #[.slice (some ⟨b,0,none⟩) L0.length cap,.int .i64 0,.int .i64 (L0.length:Int),.int .i64 z] s v' s'∧(∃L,v'=.tuple ⟨[]⟩∧HL [] s0 s' ((b,.cells (xj L++rest) tI)::R) e∧L.Perm L0∧L.Pairwise (·≤·)):=by
 refine qB 4 (i 107) Tryz.func107 rfl fb107 rfl ?_
 refine zg (zM (zb (zg (zM (zb (yj (Xr (yj (zg (zf rfl (zf rfl ?_)))))))))))
 refine v6 rfl rfl (by unfold yv;omega) (z3 rfl (zb (zH (zg (zf rfl (op_leq rfl rfl (fun h=>?_) (fun h=>False.elim Oz)))))))
 refine zb (yK rfl (zg (zx rfl (zf rfl (zf rfl (ym rfl fc176 rfl ?_))))))
 obtain⟨_,s9,j,L,rfl,k,l⟩:=J4 i H c a
 refine⟨_,_,j,?_⟩
 clear j
 refine zb (qF (qm (ve (qm (ve (xC (QG ?_)))))))
 exact⟨L,rfl,k,l⟩
set_option maxHeartbeats 4000000 in
set_option maxRecDepth 10000 in
theorem sort_ok{I:zU}(e:zJ I){s0 s:St}{c h cap:Nat}{L0:List Int}{rest:List Value}{R:Hp'}(H:HL [] s0 s ((c,.cells (xj L0++rest) tI)::R) h)(b:L0.length≤12)(a:h+1+s0.next≤zw) :
 ∃v' s',vm Tryz.prog I 48 #[.slice (some ⟨c,0,none⟩) L0.length cap] s v' s'∧(∃L,v'=.tuple ⟨[]⟩∧HL [] s0 s' ((c,.cells (xj L++rest) tI)::R) h∧L.Perm L0∧L.Pairwise (·≤·)):=by
 refine qB 1 (e 48) Tryz.func48 rfl fb48 rfl ?_
 refine zg (zx rfl (qV YV rfl rfl rfl (z3 rfl (zb (zQ (zx rfl (zf rfl (zf rfl (zbP un3 un150 rfl (by unfold InU;omega) (ym rfl fc108 rfl (zcQ (zgn e b) (fun z=>?_))))))))))))
 refine ym rfl fc107 rfl ?_
 obtain⟨_,s9,i,L,rfl,j,k⟩:=pdq_ok e H b a (z:=z)
 refine⟨_,_,i,?_⟩
 clear i
 refine zb (Go.M.nrm_end (QG ?_))
 exact⟨L,rfl,j,k⟩
end Go.Proofs.YtocnbjjmmgolfaaGreat
