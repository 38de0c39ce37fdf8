/- zH law: how the program cuts a quadrilateral (printed by mkLk.py). -/
import Derived.Test.YtocnbjjmmgolfaaGreatA26
import Derived.Test.YtocnbjjmmgolfaaGreatA24
set_option linter.unusedSimpArgs false
set_option linter.unusedVariables false
set_option linter.unusedSectionVars false
namespace Go.Proofs.YtocnbjjmmgolfaaGreat
open Go Go.M Go.Proofs.C14
def uL(w x y z:Int×Int):Bool:=decide (0<zl w x y) && !(decide (0≤zl w x z)&&decide (0≤zl x y z)&&decide (0≤zl y w z))
def trisI(a b c d:Int×Int):List (Int×Int×Int):=if uL d a b c=true then [(3,0,1),(1,2,3)]else if uL a b c d=true then [(0,1,2),(0,2,3)]else if uL b c d a=true then [(1,2,3),(0,1,3)]else [(2,3,0),(0,1,2)]
def Ws(a b c d:Int×Int):List (List (Int×Int)):=if uL d a b c=true then [[d,a,b],[b,c,d]]else if uL a b c d=true then [[a,b,c],[a,c,d]]else if uL b c d a=true then [[b,c,d],[a,b,d]]else [[c,d,a],[a,b,c]]
section
variable{a b c d:Int×Int}
theorem pc43_00(ha:Nr 1000 a)(hb:Nr 1000 b)(hc:Nr 1000 c)(hd:Nr 1000 d)(h e g:Int→Option ((List (Int×Int×Int))×Int)):vi (4,[ptQ a,ptQ b,ptQ c,ptQ d],[0,1,2,3]) 0 (ptQ d) (ptQ a) (ptQ b) 2 2 h e g 0=if zl d a c<0 then e 3 else g 1:=by
 have f:=y5 hd ha hc
 unfold vi
 simp[idx,zN,yh,f,kI]
theorem pc43_01(ha:Nr 1000 a)(hb:Nr 1000 b)(hc:Nr 1000 c)(hd:Nr 1000 d)(h e g:Int→Option ((List (Int×Int×Int))×Int)):vi (4,[ptQ a,ptQ b,ptQ c,ptQ d],[0,1,2,3]) 0 (ptQ d) (ptQ a) (ptQ b) 2 2 h e g 1=if zl a b c<0 then e 3 else g 2:=by
 have f:=y5 ha hb hc
 unfold vi
 simp[idx,zN,yh,f,kI]
theorem pc43_02(ha:Nr 1000 a)(hb:Nr 1000 b)(hc:Nr 1000 c)(hd:Nr 1000 d)(h e g:Int→Option ((List (Int×Int×Int))×Int)):vi (4,[ptQ a,ptQ b,ptQ c,ptQ d],[0,1,2,3]) 0 (ptQ d) (ptQ a) (ptQ b) 2 2 h e g 2=if zl b d c<0 then e 3 else g 3:=by
 have f:=y5 hb hd hc
 unfold vi
 simp[idx,zN,yh,f,kI]
theorem pc43_03(g e f:Int→Option ((List (Int×Int×Int))×Int)):vi (4,[ptQ a,ptQ b,ptQ c,ptQ d],[0,1,2,3]) 0 (ptQ d) (ptQ a) (ptQ b) 2 2 g e f 3=g 1:=by
 unfold vi
 simp[zN,yh]
theorem pc35_00(f e:Int→Option ((List (Int×Int×Int))×Int)):qE (4,[ptQ a,ptQ b,ptQ c,ptQ d],[0,1,2,3]) 0 3 1 (ptQ d) (ptQ a) (ptQ b) f e 0=e 1:=by
 unfold qE
 simp[idx,zN,yh]
theorem pc35_01(f e:Int→Option ((List (Int×Int×Int))×Int)):qE (4,[ptQ a,ptQ b,ptQ c,ptQ d],[0,1,2,3]) 0 3 1 (ptQ d) (ptQ a) (ptQ b) f e 1=e 2:=by
 unfold qE
 simp[idx,zN,yh]
theorem pc35_02e(f e:Int→Option ((List (Int×Int×Int))×Int)):qE (4,[ptQ a,ptQ b,ptQ c,ptQ d],[0,1,2,3]) 0 3 1 (ptQ d) (ptQ a) (ptQ b) f e 2=zj (vi (4,[ptQ a,ptQ b,ptQ c,ptQ d],[0,1,2,3]) 0 (ptQ d) (ptQ a) (ptQ b) 2 2 f e) (zi 12) 0:=by
 unfold qE
 generalize vi=B
 simp[idx,zN,yh]
theorem pc35_02(ha:Nr 1000 a)(hb:Nr 1000 b)(hc:Nr 1000 c)(hd:Nr 1000 d)(f e:Int→Option ((List (Int×Int×Int))×Int)):qE (4,[ptQ a,ptQ b,ptQ c,ptQ d],[0,1,2,3]) 0 3 1 (ptQ d) (ptQ a) (ptQ b) f e 2=if (decide (0≤zl d a c)&&decide (0≤zl a b c)&&decide (0≤zl b d c))=true then f 1 else e 3:=by
 rw[pc35_02e,zC,ze,pc43_00 ha hb hc hd]
 by_cases h1:zl d a c<0
 ·have:¬0≤zl d a c:=by omega
  simp only[h1,this,dP,dU,eZ,aX,cK]
 rw[aD h1,ze,pc43_01 ha hb hc hd]
 by_cases h2:zl a b c<0
 ·have:¬0≤zl a b c:=by omega
  simp only[h2,this,dP,dU,eZ,Bool.and_false,aX,cK]
 rw[aD h2,ze,pc43_02 ha hb hc hd]
 by_cases g:zl b d c<0
 ·have:¬0≤zl b d c:=by omega
  simp only[g,this,dP,dU,eZ,Bool.and_false,aX,cK]
 rw[aD g,ze,pc43_03,aF]
 simp only[aG,aB]
 omega
theorem pc35_03(f e:Int→Option ((List (Int×Int×Int))×Int)):qE (4,[ptQ a,ptQ b,ptQ c,ptQ d],[0,1,2,3]) 0 3 1 (ptQ d) (ptQ a) (ptQ b) f e 3=e 4:=by
 unfold qE
 simp[idx,zN,yh]
theorem pc35_04(f e:Int→Option ((List (Int×Int×Int))×Int)):qE (4,[ptQ a,ptQ b,ptQ c,ptQ d],[0,1,2,3]) 0 3 1 (ptQ d) (ptQ a) (ptQ b) f e 4=some ([(3,0,1),(1,2,3)],0):=by
 unfold qE
 simp[idx,zN,yh,zcU,app]
theorem pc5_0e{s:Int}(f:jP (ptQ d) (ptQ a) (ptQ b)=some s)(e:Int→Option ((List (Int×Int×Int))×Int)):pc5 (4,[ptQ a,ptQ b,ptQ c,ptQ d],[0,1,2,3]) e 0=if s≤0 then e 1 else zj (qE (4,[ptQ a,ptQ b,ptQ c,ptQ d],[0,1,2,3]) 0 3 1 (ptQ d) (ptQ a) (ptQ b) e) (zi 12) 0:=by
 unfold pc5
 generalize qE=B
 simp[idx,zN,yh,f]
theorem pc5_0(ha:Nr 1000 a)(hb:Nr 1000 b)(hc:Nr 1000 c)(hd:Nr 1000 d)(f:Int→Option ((List (Int×Int×Int))×Int)):pc5 (4,[ptQ a,ptQ b,ptQ c,ptQ d],[0,1,2,3]) f 0=if uL d a b c=true then some ([(3,0,1),(1,2,3)],0)else f 1:=by
 rw[pc5_0e (y5 hd ha hb),zC]
 unfold uL
 by_cases h:zl d a b≤0
 ·have h2:¬0<zl d a b:=by omega
  rw[aF (cmpI_le.mpr h)]
  simp only[h2,dU,eZ,aX,cK]
 rw[aD (fun e=>h (cmpI_le.mp e)),show decide (0<zl d a b)=true from aH Oz,Bool.true_and]
 have e:=pc35_02 ha hb hc hd f
 generalize (decide (0≤zl d a c)&&decide (0≤zl a b c)&&decide (0≤zl b d c))=t at *
 rw[ze,pc35_00]
 rw[ze,pc35_01]
 rw[ze,e]
 cases t
 case true=>rw[aF rfl,aD Uz]
 rw[aD Uz,aF Uz]
 rw[ze,pc35_03]
 rw[ze,pc35_04]
theorem pc43_10(ha:Nr 1000 a)(hb:Nr 1000 b)(hc:Nr 1000 c)(hd:Nr 1000 d)(h e g:Int→Option ((List (Int×Int×Int))×Int)):vi (4,[ptQ a,ptQ b,ptQ c,ptQ d],[0,1,2,3]) 1 (ptQ a) (ptQ b) (ptQ c) 3 3 h e g 0=if zl a b d<0 then e 4 else g 1:=by
 have f:=y5 ha hb hd
 unfold vi
 simp[idx,zN,yh,f,kI]
theorem pc43_11(ha:Nr 1000 a)(hb:Nr 1000 b)(hc:Nr 1000 c)(hd:Nr 1000 d)(h e g:Int→Option ((List (Int×Int×Int))×Int)):vi (4,[ptQ a,ptQ b,ptQ c,ptQ d],[0,1,2,3]) 1 (ptQ a) (ptQ b) (ptQ c) 3 3 h e g 1=if zl b c d<0 then e 4 else g 2:=by
 have f:=y5 hb hc hd
 unfold vi
 simp[idx,zN,yh,f,kI]
theorem pc43_12(ha:Nr 1000 a)(hb:Nr 1000 b)(hc:Nr 1000 c)(hd:Nr 1000 d)(h e g:Int→Option ((List (Int×Int×Int))×Int)):vi (4,[ptQ a,ptQ b,ptQ c,ptQ d],[0,1,2,3]) 1 (ptQ a) (ptQ b) (ptQ c) 3 3 h e g 2=if zl c a d<0 then e 4 else g 3:=by
 have f:=y5 hc ha hd
 unfold vi
 simp[idx,zN,yh,f,kI]
theorem pc43_13(g e f:Int→Option ((List (Int×Int×Int))×Int)):vi (4,[ptQ a,ptQ b,ptQ c,ptQ d],[0,1,2,3]) 1 (ptQ a) (ptQ b) (ptQ c) 3 3 g e f 3=g 2:=by
 unfold vi
 simp[zN,yh]
theorem pc35_10(f e:Int→Option ((List (Int×Int×Int))×Int)):qE (4,[ptQ a,ptQ b,ptQ c,ptQ d],[0,1,2,3]) 1 0 2 (ptQ a) (ptQ b) (ptQ c) f e 0=e 1:=by
 unfold qE
 simp[idx,zN,yh]
theorem pc35_11(f e:Int→Option ((List (Int×Int×Int))×Int)):qE (4,[ptQ a,ptQ b,ptQ c,ptQ d],[0,1,2,3]) 1 0 2 (ptQ a) (ptQ b) (ptQ c) f e 1=e 2:=by
 unfold qE
 simp[idx,zN,yh]
theorem pc35_12(f e:Int→Option ((List (Int×Int×Int))×Int)):qE (4,[ptQ a,ptQ b,ptQ c,ptQ d],[0,1,2,3]) 1 0 2 (ptQ a) (ptQ b) (ptQ c) f e 2=e 3:=by
 unfold qE
 simp[idx,zN,yh]
theorem pc35_13e(f e:Int→Option ((List (Int×Int×Int))×Int)):qE (4,[ptQ a,ptQ b,ptQ c,ptQ d],[0,1,2,3]) 1 0 2 (ptQ a) (ptQ b) (ptQ c) f e 3=zj (vi (4,[ptQ a,ptQ b,ptQ c,ptQ d],[0,1,2,3]) 1 (ptQ a) (ptQ b) (ptQ c) 3 3 f e) (zi 12) 0:=by
 unfold qE
 generalize vi=B
 simp[idx,zN,yh]
theorem pc35_13(ha:Nr 1000 a)(hb:Nr 1000 b)(hc:Nr 1000 c)(hd:Nr 1000 d)(f e:Int→Option ((List (Int×Int×Int))×Int)):qE (4,[ptQ a,ptQ b,ptQ c,ptQ d],[0,1,2,3]) 1 0 2 (ptQ a) (ptQ b) (ptQ c) f e 3=if (decide (0≤zl a b d)&&decide (0≤zl b c d)&&decide (0≤zl c a d))=true then f 2 else e 4:=by
 rw[pc35_13e,zC,ze,pc43_10 ha hb hc hd]
 by_cases h1:zl a b d<0
 ·have:¬0≤zl a b d:=by omega
  simp only[h1,this,dP,dU,eZ,aX,cK]
 rw[aD h1,ze,pc43_11 ha hb hc hd]
 by_cases h2:zl b c d<0
 ·have:¬0≤zl b c d:=by omega
  simp only[h2,this,dP,dU,eZ,Bool.and_false,aX,cK]
 rw[aD h2,ze,pc43_12 ha hb hc hd]
 by_cases g:zl c a d<0
 ·have:¬0≤zl c a d:=by omega
  simp only[g,this,dP,dU,eZ,Bool.and_false,aX,cK]
 rw[aD g,ze,pc43_13,aF]
 simp only[aG,aB]
 omega
theorem pc35_14(f e:Int→Option ((List (Int×Int×Int))×Int)):qE (4,[ptQ a,ptQ b,ptQ c,ptQ d],[0,1,2,3]) 1 0 2 (ptQ a) (ptQ b) (ptQ c) f e 4=some ([(0,1,2),(0,2,3)],0):=by
 unfold qE
 simp[idx,zN,yh,zcU,app]
theorem pc5_1e{s:Int}(f:jP (ptQ a) (ptQ b) (ptQ c)=some s)(e:Int→Option ((List (Int×Int×Int))×Int)):pc5 (4,[ptQ a,ptQ b,ptQ c,ptQ d],[0,1,2,3]) e 1=if s≤0 then e 2 else zj (qE (4,[ptQ a,ptQ b,ptQ c,ptQ d],[0,1,2,3]) 1 0 2 (ptQ a) (ptQ b) (ptQ c) e) (zi 12) 0:=by
 unfold pc5
 generalize qE=B
 simp[idx,zN,yh,f]
theorem pc5_1(ha:Nr 1000 a)(hb:Nr 1000 b)(hc:Nr 1000 c)(hd:Nr 1000 d)(f:Int→Option ((List (Int×Int×Int))×Int)):pc5 (4,[ptQ a,ptQ b,ptQ c,ptQ d],[0,1,2,3]) f 1=if uL a b c d=true then some ([(0,1,2),(0,2,3)],0)else f 2:=by
 rw[pc5_1e (y5 ha hb hc),zC]
 unfold uL
 by_cases h:zl a b c≤0
 ·have h2:¬0<zl a b c:=by omega
  rw[aF (cmpI_le.mpr h)]
  simp only[h2,dU,eZ,aX,cK]
 rw[aD (fun e=>h (cmpI_le.mp e)),show decide (0<zl a b c)=true from aH Oz,Bool.true_and]
 have e:=pc35_13 ha hb hc hd f
 generalize (decide (0≤zl a b d)&&decide (0≤zl b c d)&&decide (0≤zl c a d))=t at *
 rw[ze,pc35_10]
 rw[ze,pc35_11]
 rw[ze,pc35_12]
 rw[ze,e]
 cases t
 case true=>rw[aF rfl,aD Uz]
 rw[aD Uz,aF Uz]
 rw[ze,pc35_14]
theorem pc43_20(ha:Nr 1000 a)(hb:Nr 1000 b)(hc:Nr 1000 c)(hd:Nr 1000 d)(h e g:Int→Option ((List (Int×Int×Int))×Int)):vi (4,[ptQ a,ptQ b,ptQ c,ptQ d],[0,1,2,3]) 2 (ptQ b) (ptQ c) (ptQ d) 0 0 h e g 0=if zl b c a<0 then e 1 else g 1:=by
 have f:=y5 hb hc ha
 unfold vi
 simp[idx,zN,yh,f,kI]
theorem pc43_21(ha:Nr 1000 a)(hb:Nr 1000 b)(hc:Nr 1000 c)(hd:Nr 1000 d)(h e g:Int→Option ((List (Int×Int×Int))×Int)):vi (4,[ptQ a,ptQ b,ptQ c,ptQ d],[0,1,2,3]) 2 (ptQ b) (ptQ c) (ptQ d) 0 0 h e g 1=if zl c d a<0 then e 1 else g 2:=by
 have f:=y5 hc hd ha
 unfold vi
 simp[idx,zN,yh,f,kI]
theorem pc43_22(ha:Nr 1000 a)(hb:Nr 1000 b)(hc:Nr 1000 c)(hd:Nr 1000 d)(h e g:Int→Option ((List (Int×Int×Int))×Int)):vi (4,[ptQ a,ptQ b,ptQ c,ptQ d],[0,1,2,3]) 2 (ptQ b) (ptQ c) (ptQ d) 0 0 h e g 2=if zl d b a<0 then e 1 else g 3:=by
 have f:=y5 hd hb ha
 unfold vi
 simp[idx,zN,yh,f,kI]
theorem pc43_23(g e f:Int→Option ((List (Int×Int×Int))×Int)):vi (4,[ptQ a,ptQ b,ptQ c,ptQ d],[0,1,2,3]) 2 (ptQ b) (ptQ c) (ptQ d) 0 0 g e f 3=g 3:=by
 unfold vi
 simp[zN,yh]
theorem pc35_20e(f e:Int→Option ((List (Int×Int×Int))×Int)):qE (4,[ptQ a,ptQ b,ptQ c,ptQ d],[0,1,2,3]) 2 1 3 (ptQ b) (ptQ c) (ptQ d) f e 0=zj (vi (4,[ptQ a,ptQ b,ptQ c,ptQ d],[0,1,2,3]) 2 (ptQ b) (ptQ c) (ptQ d) 0 0 f e) (zi 12) 0:=by
 unfold qE
 generalize vi=B
 simp[idx,zN,yh]
theorem pc35_20(ha:Nr 1000 a)(hb:Nr 1000 b)(hc:Nr 1000 c)(hd:Nr 1000 d)(f e:Int→Option ((List (Int×Int×Int))×Int)):qE (4,[ptQ a,ptQ b,ptQ c,ptQ d],[0,1,2,3]) 2 1 3 (ptQ b) (ptQ c) (ptQ d) f e 0=if (decide (0≤zl b c a)&&decide (0≤zl c d a)&&decide (0≤zl d b a))=true then f 3 else e 1:=by
 rw[pc35_20e,zC,ze,pc43_20 ha hb hc hd]
 by_cases h1:zl b c a<0
 ·have:¬0≤zl b c a:=by omega
  simp only[h1,this,dP,dU,eZ,aX,cK]
 rw[aD h1,ze,pc43_21 ha hb hc hd]
 by_cases h2:zl c d a<0
 ·have:¬0≤zl c d a:=by omega
  simp only[h2,this,dP,dU,eZ,Bool.and_false,aX,cK]
 rw[aD h2,ze,pc43_22 ha hb hc hd]
 by_cases g:zl d b a<0
 ·have:¬0≤zl d b a:=by omega
  simp only[g,this,dP,dU,eZ,Bool.and_false,aX,cK]
 rw[aD g,ze,pc43_23,aF]
 simp only[aG,aB]
 omega
theorem pc35_21(f e:Int→Option ((List (Int×Int×Int))×Int)):qE (4,[ptQ a,ptQ b,ptQ c,ptQ d],[0,1,2,3]) 2 1 3 (ptQ b) (ptQ c) (ptQ d) f e 1=e 2:=by
 unfold qE
 simp[idx,zN,yh]
theorem pc35_22(f e:Int→Option ((List (Int×Int×Int))×Int)):qE (4,[ptQ a,ptQ b,ptQ c,ptQ d],[0,1,2,3]) 2 1 3 (ptQ b) (ptQ c) (ptQ d) f e 2=e 3:=by
 unfold qE
 simp[idx,zN,yh]
theorem pc35_23(f e:Int→Option ((List (Int×Int×Int))×Int)):qE (4,[ptQ a,ptQ b,ptQ c,ptQ d],[0,1,2,3]) 2 1 3 (ptQ b) (ptQ c) (ptQ d) f e 3=e 4:=by
 unfold qE
 simp[idx,zN,yh]
theorem pc35_24(f e:Int→Option ((List (Int×Int×Int))×Int)):qE (4,[ptQ a,ptQ b,ptQ c,ptQ d],[0,1,2,3]) 2 1 3 (ptQ b) (ptQ c) (ptQ d) f e 4=some ([(1,2,3),(0,1,3)],0):=by
 unfold qE
 simp[idx,zN,yh,zcU,app]
theorem pc5_2e{s:Int}(f:jP (ptQ b) (ptQ c) (ptQ d)=some s)(e:Int→Option ((List (Int×Int×Int))×Int)):pc5 (4,[ptQ a,ptQ b,ptQ c,ptQ d],[0,1,2,3]) e 2=if s≤0 then e 3 else zj (qE (4,[ptQ a,ptQ b,ptQ c,ptQ d],[0,1,2,3]) 2 1 3 (ptQ b) (ptQ c) (ptQ d) e) (zi 12) 0:=by
 unfold pc5
 generalize qE=B
 simp[idx,zN,yh,f]
theorem pc5_2(ha:Nr 1000 a)(hb:Nr 1000 b)(hc:Nr 1000 c)(hd:Nr 1000 d)(f:Int→Option ((List (Int×Int×Int))×Int)):pc5 (4,[ptQ a,ptQ b,ptQ c,ptQ d],[0,1,2,3]) f 2=if uL b c d a=true then some ([(1,2,3),(0,1,3)],0)else f 3:=by
 rw[pc5_2e (y5 hb hc hd),zC]
 unfold uL
 by_cases h:zl b c d≤0
 ·have h2:¬0<zl b c d:=by omega
  rw[aF (cmpI_le.mpr h)]
  simp only[h2,dU,eZ,aX,cK]
 rw[aD (fun e=>h (cmpI_le.mp e)),show decide (0<zl b c d)=true from aH Oz,Bool.true_and]
 have e:=pc35_20 ha hb hc hd f
 generalize (decide (0≤zl b c a)&&decide (0≤zl c d a)&&decide (0≤zl d b a))=t at *
 rw[ze,e]
 cases t
 case true=>rw[aF rfl,aD Uz]
 rw[aD Uz,aF Uz]
 rw[ze,pc35_21]
 rw[ze,pc35_22]
 rw[ze,pc35_23]
 rw[ze,pc35_24]
theorem pc5_3(e:Int→Option ((List (Int×Int×Int))×Int)):pc5 (4,[ptQ a,ptQ b,ptQ c,ptQ d],[0,1,2,3]) e 3=some ([(2,3,0),(0,1,2)],0):=by
 unfold pc5
 generalize qE=B
 simp[idx,zN,yh,zcU,app]
theorem pc2_0{l:List (Rat×Rat)}(g:(Int×(List (Rat×Rat))×List Int)→Option ((List (Int×Int×Int))×Int)):pc2 [ptQ a,ptQ b,ptQ c,ptQ d] g (0,l,[])=g (1,l,[0]):=by
 unfold pc2
 generalize pc5=B
 simp[zN,yh,app]
theorem pc2_1{l:List (Rat×Rat)}(g:(Int×(List (Rat×Rat))×List Int)→Option ((List (Int×Int×Int))×Int)):pc2 [ptQ a,ptQ b,ptQ c,ptQ d] g (1,l,[0])=g (2,l,[0,1]):=by
 unfold pc2
 generalize pc5=B
 simp[zN,yh,app]
theorem pc2_2{l:List (Rat×Rat)}(g:(Int×(List (Rat×Rat))×List Int)→Option ((List (Int×Int×Int))×Int)):pc2 [ptQ a,ptQ b,ptQ c,ptQ d] g (2,l,[0,1])=g (3,l,[0,1,2]):=by
 unfold pc2
 generalize pc5=B
 simp[zN,yh,app]
theorem pc2_3{l:List (Rat×Rat)}(g:(Int×(List (Rat×Rat))×List Int)→Option ((List (Int×Int×Int))×Int)):pc2 [ptQ a,ptQ b,ptQ c,ptQ d] g (3,l,[0,1,2])=g (4,l,[0,1,2,3]):=by
 unfold pc2
 generalize pc5=B
 simp[zN,yh,app]
theorem pc2_4{l:List (Rat×Rat)}(g:(Int×(List (Rat×Rat))×List Int)→Option ((List (Int×Int×Int))×Int)):pc2 [ptQ a,ptQ b,ptQ c,ptQ d] g (4,l,[0,1,2,3])=zj (pc5 (4,l,[0,1,2,3])) (zi 12) 0:=by
 unfold pc2
 generalize pc5=B
 simp
theorem z263_int(ha:Nr 1000 a)(hb:Nr 1000 b)(hc:Nr 1000 c)(hd:Nr 1000 d)(hv:KD a b c d=true):z263 [ptQ a,ptQ b,ptQ c,ptQ d]=some (trisI a b c d,0):=by
 unfold z263
 rw[zbg ha hb hc hd,hv,aA,aD Uz,zC]
 rw[ze,pc2_0,ze,pc2_1,ze,pc2_2,ze,pc2_3,ze,pc2_4,zC]
 rw[ze,pc5_0 ha hb hc hd,ze,pc5_1 ha hb hc hd,ze,pc5_2 ha hb hc hd,ze,pc5_3]
 unfold trisI
 cases uL d a b c
 case true=>rfl
 cases uL a b c d
 case true=>rfl
 cases uL b c d a<;>rfl
end
theorem Y3{x y:Rat}(hx:Sm x)(a:Sm y):Qm [x,y]=some (x+y):=by
 have h0:qJ 0 x=some x:=by rw[xr Uz hx,Rat.zero_add]
 have h1:=xr hx a
 unfold Qm
 rw[zC,ze]
 simp[idx,zN,h0]
 rw[ze]
 simp[zN,h1]
 rw[ze]
 simp
theorem z121_twoW{x y:Rat}(hx:Sg x)(a:Sg y):Qm [x,y]=some (x+y):=by
 have h0:qJ 0 x=some x:=by rw[zhk ⟨by decide,by decide⟩ hx,Rat.zero_add]
 have h1:=zhk hx a
 unfold Qm
 rw[zC,ze]
 simp[idx,zN,h0]
 rw[ze]
 simp[zN,h1]
 rw[ze]
 simp
def xL(t p:Rat×Rat):Rat×Rat:=(t.1*p.1-t.2*p.2,t.2*p.1+t.1*p.2)
structure RotOK(t p:Rat×Rat):Prop where
 t1:Sm t.1
 t2:Sm t.2
 p1:Sm p.1
 p2:Sm p.2
 m1:Sm (t.1*p.1)
 m2:Sm (t.2*p.2)
 m3:Sm (t.2*p.1)
 m4:Sm (t.1*p.2)
theorem Jy{t p:Rat×Rat}(h:RotOK t p):z40 t p=some (xL t p):=by
 unfold z40
 simp only[qM h.t1 h.p1,qM h.t2 h.p2,qM h.t2 h.p1,qM h.t1 h.p2,aA,vv h.m1 h.m2,xr h.m3 h.m4]
 rfl
theorem uS{t p:Rat×Rat}(h:RotOK t p):zdR t p=some (xL t p):=by
 unfold zdR
 simp only[qM h.t1 h.p1,qM h.t2 h.p2,qM h.t2 h.p1,qM h.t1 h.p2,aA,kL h.m2,Y3 h.m1 h.m2.neg,Y3 h.m3 h.m4]
 unfold xL
 rw[Rat.sub_eq_add_neg]
theorem jK{U:Wd}{I:zU}{f:FuncId}{args:Array Value}{s:St}{k:Nat}{τ:Ty}{r:τ.T}{Q:Value→St→Prop}(h:zdF U I f args s k τ r)(c:∀v s' D,HL [] s s' D k→RepV (U.x D) τ v r→Q v s'):∃v s',vo Tryz.prog I f args s v s'∧Q v s':=by
 obtain⟨v,s',a,D,H,hv⟩:=h
 exact⟨v,s',a,c v s' D H hv⟩
theorem d105:qA 105 7 [T36] T36 fun x=>z105 x:=t105 105 _ rfl
theorem d67:qA 67 11960 [T36,T36] T36 fun x=>z67 x.1 x.2:=t67 67 _ rfl
theorem pow5{i:Nat}(h:i≤5):25 ^ i≤9765625:=bH (Nat.pow_le_pow_right Uz h) Uz
theorem zbX{f:Nat}(h7:f+1≤7):25 ^ (7-(f+1))*25=25 ^ (7-f):=by rw[show 7-f=(7-(f+1))+1 by omega,Nat.pow_succ]
theorem VN{e:Nat→Int×Int}{T:Nat→Q2}{k:Nat}{r:List Nat}{v:Int}{t:Q2}:xJ e T (k::r) v t=xJ e T r (oth e k v) (aft t (if (e k).1=v then T k else bck (T k))):=rfl
theorem Tn.sm{D:Nat}{t:Q2}(h:Tn D t)(hD:D<500000000):Sm t.1∧Sm t.2:=by
 obtain⟨h1,h2⟩:=h.bd
 exact⟨⟨by have:=h1.1;omega,by have:=h1.2;omega⟩,⟨by have:=h2.1;omega,by have:=h2.2;omega⟩⟩
theorem back_ok{t:Q2}(h:Sm t.1∧Sm t.2):z105 t=some (bck t):=by
 unfold z105
 rw[kL h.2]
 rfl
theorem smB{q:Rat}{N D:Nat}(h:Bd q N D)(b:N<500000000)(a:D<500000000):Sm q:=⟨cC h.1 b,cC h.2 a⟩
theorem zdz{D:Nat}{t u:Q2}(h:Tn D t)(g:Tn 25 u)(hD:D*25≤244140625):z67 t u=some (aft t u):=by
 obtain⟨h1,h2⟩:=h.bd
 obtain⟨g1,g2⟩:=g.bd
 have e:D<500000000:=by omega
 have e2:D*25<500000000:=by omega
 unfold z67
 rw[uS ⟨smB h1 e e,smB h2 e e,smB g1 Uz Uz,smB g2 Uz Uz,smB (h1.mul g1) e2 e2,smB (h2.mul g2) e2 e2,smB (h2.mul g1) e2 e2,smB (h1.mul g2) e2 e2⟩]
 rfl
theorem bf36:VJ Tryz.prog 36=some ([.bool false,.slice none 0 0,.bool false,.slice none 0 0,.bool false,.slice none 0 0,.bool false,.slice none 0 0],[(0,4),(4,4)]):=by kernel_rfl
theorem zcO:wF Tryz.prog 22=some (true,0,1):=by kernel_rfl
theorem el24:wF Tryz.prog 24=some (true,0,29):=by kernel_rfl
theorem el92:wF Tryz.prog 92=some (false,12,1):=by kernel_rfl
theorem fb104:vG Tryz.f104 (Tryz.f104.body.getD .skip) 7=true:=by kernel_rfl
theorem fc104:xH Tryz.prog 104=true:=by kernel_rfl
theorem fc105:xH Tryz.prog 105=true:=by kernel_rfl
theorem fc67:xH Tryz.prog 67=true:=by kernel_rfl
theorem zab:ZI Tryz.prog 40 0=some 0:=by kernel_rfl
theorem KT:ZI Tryz.prog 40 1=some 1:=by kernel_rfl
theorem zeq:ZI Tryz.prog 40 5=some 5:=by kernel_rfl
theorem of94_0:ZI Tryz.prog 94 0=some 0:=by kernel_rfl
theorem KS:ZI Tryz.prog 94 1=some 1:=by kernel_rfl
theorem sh145:zV Tryz.prog 145=some (none):=by kernel_rfl
theorem Ku:zV Tryz.prog 22=some (none):=by kernel_rfl
theorem sh24:zV Tryz.prog 24=some (none):=by kernel_rfl
theorem sh3:zV Tryz.prog 3=some (none):=by kernel_rfl
theorem uJ:zV Tryz.prog 36=some (some 8):=by kernel_rfl
theorem sh40:zV Tryz.prog 40=some (some 29):=by kernel_rfl
theorem sh91:zV Tryz.prog 91=some (none):=by kernel_rfl
theorem zdY:qZ Tryz.prog 22=some 1:=by kernel_rfl
theorem ZE:qZ Tryz.prog 36=some 8:=by kernel_rfl
theorem sz40:qZ Tryz.prog 40=some 29:=by kernel_rfl
theorem Y6:Tryz.prog.underlying 22=some (.slice 3):=by kernel_rfl
theorem zbe:jn Tryz.prog 36=some [.bool false,.slice none 0 0,.bool false,.slice none 0 0,.bool false,.slice none 0 0,.bool false,.slice none 0 0]:=by kernel_rfl
theorem zf40:jn Tryz.prog 40=some [.int .i64 0,.int .i64 0,.int .i64 0,.int .i64 0,.int .i64 0,.bool false,.slice none 0 0,.bool false,.slice none 0 0,.bool false,.slice none 0 0,.bool false,.slice none 0 0,.bool false,.slice none 0 0,.bool false,.slice none 0 0,.bool false,.slice none 0 0,.bool false,.slice none 0 0,.bool false,.slice none 0 0,.bool false,.slice none 0 0,.bool false,.slice none 0 0,.bool false,.slice none 0 0]:=by kernel_rfl
def PostK1(U:Wd)(s:St)(bW:Nat)(W:List Nat)(k:Nat)(r0:List Nat)(r:Option (List Nat))(q:Q2)(v:Value)(s':St):Prop:=∃(D':Hp') (a:Value) (D:Hp') (t8:List Value),v=.tuple ⟨[.agg ⟨t8⟩,.bool r.isSome]⟩∧HL W s s' ((bW,.cells [a] 22)::(D'++D)) k∧Wy D' a (r0++r.getD [])∧Rep (U.x D) T36 t8 q
set_option maxHeartbeats 4000000 in
set_option maxRecDepth 10000 in
theorem walk1_ok{I:zU}(hI:zH I){bTo bT bW bS bt:Nat}{vl:Value}{cF:List Value}{va:Int→Value}{L:List (List Value)}{l:List Fq}{tr:List Nat}{w:Int}(hE:∀k,k<l.length→0≤(eds l k).1∧(eds l k).1<(eds l k).2∧(eds l k).2<12)(hT:∀k,k<l.length→Tn 25 (trn l k))(hlt:∀k∈tr,k<l.length)(h6:tr.length≤6)(hc0:zF cF 0=some vl)(hcv:∀v:Int,0≤v→v<12→zF cF (1+v.toNat)=some (va v)) :
 ∀(f:Nat) (hf7:f≤7) {s:St} (hf:Fine s) {U:Wd} {Dw:Hp'} {vw:Value} {r0:List Nat} (HA:HL (bW::Dw.map Prod.fst) s s ((bW,.cells [vw] 22)::Dw) 0) (q:Wy Dw vw r0) (hr0:r0.length+f≤20) (hK:KnW s (bW::Dw.map Prod.fst) U) (o:Sts s (bW::Dw.map Prod.fst) (Stat bTo bT bW bS bt vl cF va L (eds l) tr w)) (hF:FitsC U L l) {at_ last:Int} (h0:0≤at_) (h1:at_<12) {t:Q2} {c:List Value} (ht:Tn (25 ^ (7-f)) t) (r:Rep U T36 c t) (Q:Tm (eds l) tr f at_ last) (hroom:s.next+uw 110000 f≤zw),
 ∃v' s',vo Tryz.prog I 104 #[.int .i64 at_,.int .i64 last,.agg ⟨c⟩,.pointer (some ⟨bTo,0,none⟩),.pointer (some ⟨bT,0,none⟩),.pointer (some ⟨bW,0,none⟩),.pointer (some ⟨bS,0,none⟩)] s v' s'∧PostK1 U s bW (bW::Dw.map Prod.fst) (uw 110000 f) r0 (dfs (eds l) tr f at_ w last) (wres (eds l) (trn l) at_ t (dfs (eds l) tr f at_ w last)) v' s':=by
 intro f
 induction f
 case zero=>intro _ s _ U Dw vw r0 _ _ _ _ _ _ at_ last _ _ t c _ _ h;exact absurd h id
 rename_i f ih
 intro hf7 s hf U Dw vw r0 HA q hr0 hK o hF at_ last h0 h1 t c ht r Q hroom
 have M:c.length=8:=Rep.len (τ:=T36) r
 have hcp:=Rep.plain (τ:=T36) r
 rw[Nat.add_comm]at hroom
 have hcs:uw 110000 (f+1)=7*110000+6*uw 110000 f:=by simp only[uw];omega
 have H:HL (bW::Dw.map Prod.fst) s s ((bW,.cells [vw] 22)::(Dw++[])) 0:=by rw[bM];exact HA
 have hb2S:=(o _ _ _ HA).lS
 obtain⟨al,ll,cl,hvle,hll⟩:=(o _ _ _ HA).sl.isSlice
 subst hvle
 rw[hF.len]at hll
 subst hll
 replace r:=Rep.mono (τ:=T36) (xP (D:=[])) r
 refine qD 7 (hI 104) Tryz.func104 rfl fb104 rfl ?_
 refine zg (QH H rfl Oz (fun b9 s1 H=>?_))
 refine xW H zbe Oz (fun b10 s2 H=>?_)
 refine zO (zb (zL (zg (zf rfl (yc sh3 rfl (o _ _ _ H).gTo rfl (Xl rfl rfl (fun h=>?_) (fun h=>?_)))))))
 ·refine zb (yN rfl (zg (qr uJ rfl H.own1 (xM M) (xu (vs:=c) H ZE rfl rfl (xq M) hcp (yQ (by rw[M];rfl)) Oz (fun s3 H=>?_)))))
  refine zO (zb (qH (qp (xD (zaF uJ rfl H.own0 (xM M) rfl ?_)))))
  rw[dfs,aF Oz]
  refine⟨Dw,vw,[],_,rfl,H.drop0.drop0.up Oz,by rw[bL,bM];exact q,?_⟩
  exact r
 refine zb (ye rfl (yo (zn (zL ?_))))
 have hva:=(o _ _ _ H).adj at_ h0 h1
 obtain⟨aa,na,ca,hve,hna⟩:=hva.isSlice
 rw[bI,wU]at hna
 subst hna
 have hvw:¬at_=w:=by omega
 have hal:=zhi (e:=eds l) (tr:=tr) (v:=at_)
 have hvl:∀N,SlD N (va at_) (nts (adj (eds l) tr at_))→SlD N (.slice aa (adj (eds l) tr at_).length ca) (nts (adj (eds l) tr at_)):=fun N h=>by rw[←hve];exact h
 refine zg (yc sh91 rfl (o _ _ _ H).gT rfl (zf rfl (kz rfl (zy KS rfl (jA el92 rfl rfl Oz Oz (yc Ku rfl (o _ _ _ H).gF (by rw[show 0+1+at_.toNat*1=1+at_.toNat by omega];exact hcv at_ h0 h1) ?_))))))
 refine qX Y6 rfl rfl hve (wB (zb (yj (kP (fun k F s1=>∃(G:FF) (i m:Nat) (vw2:Value) (Dw2 Φ:Hp'),F=lay G [(0,.int .i64 at_),(1,.int .i64 last),(3,.pointer (some ⟨bTo,0,none⟩)),(4,.pointer (some ⟨bT,0,none⟩)),(5,.pointer (some ⟨bW,0,none⟩)),(6,.pointer (some ⟨bS,0,none⟩)),(9,.pointer (some ⟨b9,0,none⟩)),(10,.pointer (some ⟨b10,0,none⟩)),(28,.slice aa (adj (eds l) tr at_).length ca),(29,.int .i64 ((adj (eds l) tr at_).length:Int)),(30,.int .i64 (i:Int))]∧HL (bW::Dw.map Prod.fst) s s1 ((b10,.cells [.bool false,.slice none 0 0,.bool false,.slice none 0 0,.bool false,.slice none 0 0,.bool false,.slice none 0 0] 36)::(b9,.cells c 36)::(bW,.cells [vw2] 22)::(Dw2++Φ)) m∧m≤2+i*(110000+uw 110000 f)∧i≤(adj (eds l) tr at_).length∧k=(adj (eds l) tr at_).length-i∧Wy Dw2 vw2 r0∧Rep (U.x Φ) T36 c t∧(adj (eds l) tr at_).findSome? (stp (eds l) tr f at_ w last)=((adj (eds l) tr at_).drop i).findSome? (stp (eds l) tr f at_ w last)) ?_ (adj (eds l) tr at_).length _ _ ?_))))
 rotate_left
 ·exact⟨_,0,_,_,_,_,slots ⟨rfl,rfl,rfl,rfl,rfl,rfl,rfl,rfl,hve,rfl,rfl,trivial⟩,H,by omega,by omega,by omega,q,r,rfl⟩
 rintro k F s1 ⟨G,i,m,vw2,Dw2,Φ,rfl,H,hm,hi,rfl,q,r,hs⟩
 refine zg (kA rfl rfl (fun h=>?_) (fun h=>?_))
 ·refine zb (zL (yN rfl (yo (zn (zL (yj ?_))))))
  have hii:i<(adj (eds l) tr at_).length:=by omega
  obtain⟨b1,off1,c1_,he1,hg1,hb1,hc1⟩:=(hvl _ ((o _ _ _ H).adj at_ h0 h1)).atD (i:=(i:Int)) (k:=i) rfl (by rw[wU];omega)
  subst he1
  rw[nts_getD hii]at hc1
  obtain⟨Y,hinc⟩:=adj_mem (jF (y:=0) hii)
  have hkl:=hlt _ Y
  generalize W:(adj (eds l) tr at_).getD i 0=j at *
  have hq:=hF.fit j hkl
  have hqt:=hT j hkl
  obtain⟨e0,e3,e4⟩:=hE j hkl
  have e1:(eds l j).1=(l.getD j default).1:=rfl
  have e2:(eds l j).2=(l.getD j default).2.1:=rfl
  rw[e1]at e0 e3
  rw[e2]at e3 e4
  obtain⟨t1,hct,E⟩:=hq.t
  have ht8:t1.length=8:=Rep.len (τ:=T36) E
  have htp:=Rep.plain (τ:=T36) E
  replace E:=Rep.mono (τ:=T36) (xP (D:=Φ)) E
  unfold Inc at hinc
  rw[e1,e2]at hinc
  have hml:=bN (110000+uw 110000 f) (show i≤5 by omega)
  refine zg (z7 zcO rfl rfl Oz Oz (yc sh3 rfl hg1 hc1 (z4 rfl (zb ?_))))
  obtain⟨b2,off2,c2_,he2,hg2,hb2,hc9⟩:=zeM ((o _ _ _ H).sl) hF hkl
  subst he2
  refine zg (yc sh91 rfl (o _ _ _ H).gT rfl (kz rfl (zy of94_0 rfl (yc sh24 rfl (o _ _ _ H).gF hc0 (zf rfl (z7 el24 rfl rfl Oz Oz (qr sh40 rfl hg2 hc9 (xW H zf40 Oz (fun b14 s4 H=>?_)))))))))
  refine xu (vs:=L.getD j []) H sz40 rfl rfl (xq hq.len) hq.plain (yQ (by rw[hq.len];rfl)) Oz (fun N H=>?_)
  refine zb (zL (zg (zf rfl (zf rfl (Xl rfl rfl (fun h=>?_) (fun h=>?_))))))
  ·refine zb (yN rfl (qw (xG (xI (zn (zQ (xX rfl rfl (by unfold yy;omega) (zf rfl (zb (yA (⟨(adj (eds l) tr at_).length-(i+1),by omega,_,i+1,_,_,_,Φ,slots ⟨rfl,rfl,rfl,rfl,rfl,rfl,rfl,rfl,rfl,rfl,rfl,trivial⟩,H.drop0,by rw[dM,dQ];omega,by omega,rfl,q,r,?_⟩)))))))))))
   refine ji 0 Oz hs ?_
   rw[W]
   exact zfY (.inl Oz)
  refine zb (ye rfl (yo (zn (vQ [⟨0,0,.light,[3]⟩,⟨1,1,.light,[3]⟩,⟨2,0,.light,[1]⟩,⟨3,4,.light,[1]⟩,⟨4,0,.whole,[1,3]⟩,⟨5,19,.light,[3]⟩,⟨6,63,.whole,[]⟩] Z0 Z0 (za rfl rfl (zy KT rfl ⟨rfl,(yL rfl rfl sh3 rfl H.own0 (H.lim0 Oz) hq.b (za rfl rfl (zy zeq rfl ⟨rfl,(k6 rfl rfl uJ rfl H.own0 (H.lim0 Oz) hct (yr rfl rfl (xW (Fine.pr H.fine (jM H.lt0 (jM H.lt0 zdx))).hl zbe (H.rm (k:=1) Oz) (fun b16 s5 Hc=>?_))))⟩)))⟩))))))
  have H:=H.call (HL.wider H.fine (aO _) (fun _ h=>bE _ h) Hc)
  clear Hc
  refine za rfl rfl (z4 rfl ⟨rfl,(vt (vs:=t1) (fr:=[]) H rfl rfl ZE rfl rfl (xq ht8) htp (yQ (by rw[ht8];rfl)) rfl Z2 Oz (fun s6 H=>?_))⟩)
  refine yV (zL (zg (zf rfl (zy KT rfl (yc sh3 rfl H.own1 hq.b (Xl rfl rfl (fun h=>?_) (fun h=>?_)))))))
  ·refine zb (yN rfl (uv [⟨0,0,.light,[3]⟩,⟨1,1,.light,[3]⟩,⟨2,0,.light,[1]⟩,⟨3,4,.light,[1]⟩,⟨4,12,.whole,[1]⟩,⟨5,31,.light,[]⟩,⟨6,63,.whole,[]⟩] Z0 Z0 (za rfl rfl (zy zab rfl ⟨rfl,(yL rfl rfl sh3 rfl H.own1 (H.lim1 Oz) hq.a (za rfl rfl (zy zeq rfl ⟨rfl,(k6 rfl rfl uJ rfl H.own1 (H.lim1 Oz) hct (yr rfl rfl (ym rfl fc105 rfl (jK (d105 hI (Fine.pr H.fine (jM H.lt1 zdx)) ((knWX (P:=[_,_,_,_,_]) hK H).heap rfl (aO _)) (x:=trn l j) ⟨_,rfl,_,rfl,E⟩ (back_ok (Tn.sm hqt Uz)) (H.rm Oz)) (fun v9 N D9 Hc hv9=>?_)))))⟩)))⟩))))
   have Hc:=HL.wider H.fine (aO _) (fun _ h=>bE _ h) Hc
   obtain⟨Φ,J,kd,H⟩:=ZM (U:=U) [_,_,_,_,_] H Hc
   replace r:=Rep.mono (τ:=T36) J r
   replace E:=Rep.mono (τ:=T36) J E
   obtain⟨cb,rfl,R⟩:=hv9
   have hb8:cb.length=8:=Rep.len (τ:=T36) R
   have hbp:=Rep.plain (τ:=T36) R
   replace R:=Rep.mono (τ:=T36) kd R
   clear Hc J kd
   refine za rfl rfl (z4 rfl ⟨rfl,(vt (vs:=cb) (fr:=[]) H rfl rfl ZE rfl rfl (xq hb8) hbp (yQ (by rw[hb8,ht8])) rfl Z2 Oz (fun s7 H=>?_))⟩)
   refine yV (zn (zg (yc Ku rfl H.own4 rfl (zf rfl (xS (c:=[.int _ _]) H uW rfl rfl Oz (fun b59 s8 H=>?_))))))
   have hgt:=H.own0
   have H:=HL.mid (A:=[_,_,_,_,_]) (B:=Dw2) (C:=Φ) H.drop0
   refine Xk H q uW Y6 rfl rfl rfl (qG hgt rfl) Oz Oz (fun DX v9 N q H=>?_)
   obtain⟨a9,c9,rfl⟩:=q.isSlice
   have H:=HL.mid (A:=DX) (B:=[_,_,_,_,_]) (C:=Φ) H
   simp only[bV,cI]at H
   refine WO (vs:=[.slice _ _ _]) H zdY rfl rfl rfl rfl rfl Oz (fun N H=>?_)
   refine zb (zL ?_)
   have hf2:1≤f:=by rcases f with _|f;exact absurd (Q j Y Oz (by unfold Inc;omega)) id;omega
   have hp5:25 ^ (7-(f+1))≤9765625:=pow5 Oz
   have hb2:=hb2S
   refine vQ [⟨0,0,.light,[3,4,10]⟩,⟨1,0,.light,[0,3,4,10]⟩,⟨2,0,.light,[0,3,4,10]⟩,⟨3,0,.light,[0,4,10]⟩,⟨4,0,.light,[0,3,10]⟩,⟨10,0,.new,[0,3,4]⟩,⟨5,24,.whole,[0,10]⟩,⟨6,63,.whole,[10]⟩,⟨7,127,.light,[10]⟩,⟨8,255,.light,[10]⟩,⟨9,255,.light,[10]⟩,⟨11,1535,.whole,[]⟩,⟨12,4095,.light,[]⟩] Z0 Z0 (yL rfl rfl sh145 rfl (o _ _ _ H).gS (by have:=H.most;omega) rfl (za rfl rfl (zf rfl ⟨rfl,(za rfl rfl (zf rfl ⟨rfl,(k6 rfl rfl uJ rfl H.own3 (H.lim3 Oz) (xM M) (k6 rfl rfl uJ rfl H.own0 (H.lim0 Oz) (xM hb8) (dr_new rfl rfl H zbe Oz (fun b17 s10 H=>?_))))⟩))⟩)))
   refine yr rfl rfl (ym rfl fc67 rfl (jK (d67 hI (Fine.pr H.fine (jM X9 (jM H.lt0 zdx))) ((knWX (P:=[_,_,_,_,_,_]) hK H).heap rfl (aO _)) (x:=(t,bck (trn l j))) ⟨_,_,rfl,⟨_,rfl,r⟩,_,rfl,_,rfl,R⟩ (zdz ht hqt.bck (show 25 ^ (7-(f+1))*25≤244140625 by omega)) (H.rm Oz)) (fun v9 N D9 Hc hv9=>?_)))
   have Hc:=HL.wider H.fine (aO _) (fun _ h=>bE _ h) Hc
   obtain⟨Φ,J,kd,H⟩:=ZM (U:=U) [_,_,_,_,_,_] H Hc
   replace r:=Rep.mono (τ:=T36) J r
   replace E:=Rep.mono (τ:=T36) J E
   obtain⟨ca,rfl,K⟩:=hv9
   replace K:=Rep.mono (τ:=T36) kd K
   clear Hc J kd
   refine yr rfl rfl (ym rfl fc104 rfl ?_)
   have O:=HL.mid (A:=[_,_,_,_,_]) (B:=_::DX) (C:=Φ) H
   have HN:=HL.narrow (D:=_::DX) (X:=[b17]) O (by intro q9 hq9 V;rw[aV]at V;exact(List.pairwise_cons.mp H.dist).1 q9 (by simp only[aL,aU]at hq9 ⊢;rcases hq9 with h|h<;>simp[h]) V.symm) (by intro p hp;rw[aV]at hp;subst hp;exact H.lt0)
   have eo:oth (eds l) j at_=(l.getD j default).1:=by unfold oth;omega
   have Z:=Q j Y Oz (by unfold Inc;omega)
   rw[eo]at Z
   have ht9:Tn (25 ^ (7-f)) (aft t (bck (trn l j))):=by rw[←zbX hf7];exact ht.aft hqt.bck
   obtain⟨_,N,hr,Dw3,vw3,D8,t8,rfl,Hc,d,n⟩:=ih Oz HN.fine HN q W9 ((KnW.in hK O (Φ:=Φ) (fun _ h=>bE _ h)).narrow H.fine) ((Sts.in o O).narrow (fun _ _ h h1 h2=>h.heap h1 h2) H.fine) (hF.mono xP) (at_:=(l.getD j default).1) (last:=(j:Int)) Oz Oz ht9 K Z (H.rm Oz)
   refine⟨_,_,hr,?_⟩
   clear hr
   have H:=HL.callK (A:=_::DX) (L:=[_,_,_,_,_]++Φ) O (HL.wider H.fine (aO _) (fun _ h=>bE _ h) Hc)
   clear Hc HN O
   obtain⟨Φ,J,kd,H⟩:=Q9 (U:=U) H
   replace r:=Rep.mono (τ:=T36) J r
   replace n:=Rep.mono (τ:=T36) kd n
   clear J kd
   have g:t8.length=8:=Rep.len (τ:=T36) n
   have z:=Rep.plain (τ:=T36) n
   revert n g z
   generalize t8=cw
   intro n g z
   have u:=stp_on (tr:=tr) (f:=f) (w:=w) (show(j:Int)≠last by omega) (show Inc (eds l) j at_ by unfold Inc;omega)
   rw[eo]at u
   rcases hd:dfs (eds l) tr f ((l.getD j default).1) w (j:Int)with _|r9
   ·rw[hd]at d n
    simp only[Option.getD_none,bL]at d
    refine za rfl rfl (vV rfl ⟨rfl,(za rfl rfl (yB rfl rfl ⟨rfl,(za rfl rfl (yB rfl rfl ⟨rfl,(vt (vs:=cw) (fr:=[]) H rfl rfl ZE rfl rfl (xq g) z (yQ (by rw[g];rfl)) rfl Z2 Oz (fun s11 H=>?_))⟩))⟩))⟩)
    refine za rfl rfl (xl rfl ⟨rfl,(yV (zg (xA rfl (zb (ye rfl (yo (zn ?_)))))))⟩)
    rw[bM]at d
    obtain⟨bw2,cw2,rest2,rfl,rfl,S,hcw3⟩:=d.snoc
    refine zQ (yc Ku rfl H.own5 rfl (yc Ku rfl H.own5 rfl (qX Y6 rfl rfl rfl (wa rfl rfl (by unfold yy;omega) (KJ (m:=r0.length) uW rfl rfl Oz H.own6 Oz (WN (vs:=[.slice _ _ _]) H zdY rfl rfl rfl rfl rfl Oz (fun s12 H=>?_)))))))
    refine zb (xc (zn (zQ (xX rfl rfl (by unfold yy;omega) (zf rfl (zb (yA (⟨(adj (eds l) tr at_).length-(i+1),by omega,_,i+1,_,_,_,Φ,slots ⟨rfl,rfl,rfl,rfl,rfl,rfl,rfl,rfl,rfl,rfl,rfl,trivial⟩,H.drop0.drop0.drop0,by rw[dM,dQ];omega,by omega,rfl,.block bw2 cw2 _ rest2 r0 rfl S,r,?_⟩))))))))
    refine ji 0 Oz hs ?_
    rw[W]
    rw[u,hd]
    rfl
   rw[hd]at d n
   simp only[Option.getD_none,bL]at d
   refine za rfl rfl (vV rfl ⟨rfl,(za rfl rfl (yB rfl rfl ⟨rfl,(za rfl rfl (yB rfl rfl ⟨rfl,(vt (vs:=cw) (fr:=[]) H rfl rfl ZE rfl rfl (xq g) z (yQ (by rw[g];rfl)) rfl Z2 Oz (fun s13 H=>?_))⟩))⟩))⟩)
   refine za rfl rfl (xl rfl ⟨rfl,(yV (zg (xA rfl (zb (yN rfl (zg (qr uJ rfl H.own0 (xM g) (WP (vs:=cw) H ZE rfl rfl (xq g) z (yQ (by rw[g];rfl)) Oz (fun s14 H=>?_)))))))))⟩)
   refine zO (zb (qH (qp (vf (qp (gg (vf (qp (xD (zaF uJ rfl H.own3 (xM g) rfl ?_))))))))))
   have T:dfs (eds l) tr (f+1) at_ w last=some (j::r9):=by rw[zaK hvw,VP,YO 0 Oz hs (by rw[W,u,hd];rfl)]
   rw[T]
   refine⟨Dw3,vw3,Φ,_,rfl,H.drop0.drop0.drop0.drop0.drop0.up Oz,by rw[bL];rw[bD]at d;exact d,?_⟩
   have ew:wres (eds l) (trn l) at_ t (some (j::r9))=wres (eds l) (trn l) ((l.getD j default).1) (aft t (bck (trn l j))) (some r9):=by show xJ (eds l) (trn l) (j::r9) at_ t=_;rw[VN,eo,aD Oz];rfl
   rw[ew]
   exact n
  refine zb (ye rfl (yo (zn (zg (yc Ku rfl H.own4 rfl (zf rfl (xS (c:=[.int _ _]) H uW rfl rfl Oz (fun b59 s15 H=>?_))))))))
  have hgt:=H.own0
  have H:=HL.mid (A:=[_,_,_,_,_]) (B:=Dw2) (C:=Φ) H.drop0
  refine Xk H q uW Y6 rfl rfl rfl (qG hgt rfl) Oz Oz (fun DX v9 N q H=>?_)
  obtain⟨a9,c9,rfl⟩:=q.isSlice
  have H:=HL.mid (A:=DX) (B:=[_,_,_,_,_]) (C:=Φ) H
  simp only[bV,cI]at H
  refine WO (vs:=[.slice _ _ _]) H zdY rfl rfl rfl rfl rfl Oz (fun s16 H=>?_)
  refine zb (zL ?_)
  have hf2:1≤f:=by rcases f with _|f;exact absurd (Q j Y Oz (by unfold Inc;omega)) id;omega
  have hp5:25 ^ (7-(f+1))≤9765625:=pow5 Oz
  have hb2:=hb2S
  refine vQ [⟨0,0,.light,[3,4,10]⟩,⟨1,0,.light,[0,3,4,10]⟩,⟨2,0,.light,[0,3,4,10]⟩,⟨3,0,.light,[0,4,10]⟩,⟨4,0,.light,[0,3,10]⟩,⟨10,0,.new,[0,3,4]⟩,⟨5,24,.whole,[0,10]⟩,⟨6,63,.whole,[10]⟩,⟨7,127,.light,[10]⟩,⟨8,255,.light,[10]⟩,⟨9,255,.light,[10]⟩,⟨11,1535,.whole,[]⟩,⟨12,4095,.light,[]⟩] Z0 Z0 (yL rfl rfl sh145 rfl (o _ _ _ H).gS (by have:=H.most;omega) rfl (za rfl rfl (zf rfl ⟨rfl,(za rfl rfl (zf rfl ⟨rfl,(k6 rfl rfl uJ rfl H.own3 (H.lim3 Oz) (xM M) (k6 rfl rfl uJ rfl H.own0 (H.lim0 Oz) (xM ht8) (dr_new rfl rfl H zbe Oz (fun b17 s17 H=>?_))))⟩))⟩)))
  refine yr rfl rfl (ym rfl fc67 rfl (jK (d67 hI (Fine.pr H.fine (jM X9 (jM H.lt0 zdx))) ((knWX (P:=[_,_,_,_,_,_]) hK H).heap rfl (aO _)) (x:=(t,trn l j)) ⟨_,_,rfl,⟨_,rfl,r⟩,_,rfl,_,rfl,E⟩ (zdz ht hqt (show 25 ^ (7-(f+1))*25≤244140625 by omega)) (H.rm Oz)) (fun v9 N D9 Hc hv9=>?_)))
  have Hc:=HL.wider H.fine (aO _) (fun _ h=>bE _ h) Hc
  obtain⟨Φ,J,kd,H⟩:=ZM (U:=U) [_,_,_,_,_,_] H Hc
  replace r:=Rep.mono (τ:=T36) J r
  obtain⟨ca,rfl,K⟩:=hv9
  replace K:=Rep.mono (τ:=T36) kd K
  clear Hc J kd
  refine yr rfl rfl (ym rfl fc104 rfl ?_)
  have O:=HL.mid (A:=[_,_,_,_,_]) (B:=_::DX) (C:=Φ) H
  have HN:=HL.narrow (D:=_::DX) (X:=[b17]) O (by intro q9 hq9 V;rw[aV]at V;exact(List.pairwise_cons.mp H.dist).1 q9 (by simp only[aL,aU]at hq9 ⊢;rcases hq9 with h|h<;>simp[h]) V.symm) (by intro p hp;rw[aV]at hp;subst hp;exact H.lt0)
  have eo:oth (eds l) j at_=(l.getD j default).2.1:=by unfold oth;omega
  have Z:=Q j Y Oz (by unfold Inc;omega)
  rw[eo]at Z
  have ht9:Tn (25 ^ (7-f)) (aft t (trn l j)):=by rw[←zbX hf7];exact ht.aft hqt
  obtain⟨_,N,hr,Dw3,vw3,D8,t8,rfl,Hc,d,n⟩:=ih Oz HN.fine HN q W9 ((KnW.in hK O (Φ:=Φ) (fun _ h=>bE _ h)).narrow H.fine) ((Sts.in o O).narrow (fun _ _ h h1 h2=>h.heap h1 h2) H.fine) (hF.mono xP) (at_:=(l.getD j default).2.1) (last:=(j:Int)) Oz Oz ht9 K Z (H.rm Oz)
  refine⟨_,_,hr,?_⟩
  clear hr
  have H:=HL.callK (A:=_::DX) (L:=[_,_,_,_,_]++Φ) O (HL.wider H.fine (aO _) (fun _ h=>bE _ h) Hc)
  clear Hc HN O
  obtain⟨Φ,J,kd,H⟩:=Q9 (U:=U) H
  replace r:=Rep.mono (τ:=T36) J r
  replace n:=Rep.mono (τ:=T36) kd n
  clear J kd
  have g:t8.length=8:=Rep.len (τ:=T36) n
  have z:=Rep.plain (τ:=T36) n
  revert n g z
  generalize t8=cw
  intro n g z
  have u:=stp_on (tr:=tr) (f:=f) (w:=w) (show(j:Int)≠last by omega) (show Inc (eds l) j at_ by unfold Inc;omega)
  rw[eo]at u
  rcases hd:dfs (eds l) tr f ((l.getD j default).2.1) w (j:Int)with _|r9
  ·rw[hd]at d n
   simp only[Option.getD_none,bL]at d
   refine za rfl rfl (vV rfl ⟨rfl,(za rfl rfl (yB rfl rfl ⟨rfl,(za rfl rfl (yB rfl rfl ⟨rfl,(vt (vs:=cw) (fr:=[]) H rfl rfl ZE rfl rfl (xq g) z (yQ (by rw[g];rfl)) rfl Z2 Oz (fun s18 H=>?_))⟩))⟩))⟩)
   refine za rfl rfl (xl rfl ⟨rfl,(yV (zg (xA rfl (zb (ye rfl (yo (zn ?_)))))))⟩)
   rw[bM]at d
   obtain⟨bw2,cw2,rest2,rfl,rfl,S,hcw3⟩:=d.snoc
   refine zQ (yc Ku rfl H.own5 rfl (yc Ku rfl H.own5 rfl (qX Y6 rfl rfl rfl (wa rfl rfl (by unfold yy;omega) (KJ (m:=r0.length) uW rfl rfl Oz H.own6 Oz (WN (vs:=[.slice _ _ _]) H zdY rfl rfl rfl rfl rfl Oz (fun s19 H=>?_)))))))
   refine zb (xc (zn (zQ (xX rfl rfl (by unfold yy;omega) (zf rfl (zb (yA (⟨(adj (eds l) tr at_).length-(i+1),by omega,_,i+1,_,_,_,Φ,slots ⟨rfl,rfl,rfl,rfl,rfl,rfl,rfl,rfl,rfl,rfl,rfl,trivial⟩,H.drop0.drop0.drop0,by rw[dM,dQ];omega,by omega,rfl,.block bw2 cw2 _ rest2 r0 rfl S,r,?_⟩))))))))
   refine ji 0 Oz hs ?_
   rw[W]
   rw[u,hd]
   rfl
  rw[hd]at d n
  simp only[Option.getD_none,bL]at d
  refine za rfl rfl (vV rfl ⟨rfl,(za rfl rfl (yB rfl rfl ⟨rfl,(za rfl rfl (yB rfl rfl ⟨rfl,(vt (vs:=cw) (fr:=[]) H rfl rfl ZE rfl rfl (xq g) z (yQ (by rw[g];rfl)) rfl Z2 Oz (fun s20 H=>?_))⟩))⟩))⟩)
  refine za rfl rfl (xl rfl ⟨rfl,(yV (zg (xA rfl (zb (yN rfl (zg (qr uJ rfl H.own0 (xM g) (WP (vs:=cw) H ZE rfl rfl (xq g) z (yQ (by rw[g];rfl)) Oz (fun s21 H=>?_)))))))))⟩)
  refine zO (zb (qH (qp (vf (qp (gg (vf (qp (xD (zaF uJ rfl H.own3 (xM g) rfl ?_))))))))))
  have T:dfs (eds l) tr (f+1) at_ w last=some (j::r9):=by rw[zaK hvw,VP,YO 0 Oz hs (by rw[W,u,hd];rfl)]
  rw[T]
  refine⟨Dw3,vw3,Φ,_,rfl,H.drop0.drop0.drop0.drop0.drop0.up Oz,by rw[bL];rw[bD]at d;exact d,?_⟩
  have ew:wres (eds l) (trn l) at_ t (some (j::r9))=wres (eds l) (trn l) ((l.getD j default).2.1) (aft t (trn l j)) (some r9):=by show xJ (eds l) (trn l) (j::r9) at_ t=_;rw[VN,eo,aF Oz];rfl
  rw[ew]
  exact n
 refine zb (zL (ye rfl (qw (xG (xv (xI (zn ?_)))))))
 have hml:=bN (110000+uw 110000 f) (show i≤6 by omega)
 refine zg (KN (c:=[.bool _,.slice _ _ _,.bool _,.slice _ _ _,.bool _,.slice _ _ _,.bool _,.slice _ _ _]) bf36 rfl (xu (vs:=[.bool _,.slice _ _ _,.bool _,.slice _ _ _,.bool _,.slice _ _ _,.bool _,.slice _ _ _]) H ZE rfl rfl rfl rfl rfl Oz (fun s22 H=>?_)))
 refine zO (zb (qH (xD (zaF uJ rfl H.own0 rfl rfl ?_))))
 have hml:=bN (110000+uw 110000 f) (show i≤6 by omega)
 have T:dfs (eds l) tr (f+1) at_ w last=none:=by rw[zaK hvw,VP,zaB Oz hs]
 rw[T]
 refine⟨Dw2,vw2,Φ,_,rfl,H.drop0.drop0.up Oz,by rw[Option.getD_none,bM];exact q,⟨_,_,rfl,rat0,rat0⟩⟩
theorem fb45:vG Tryz.f45 (Tryz.f45.body.getD .skip) 3=true:=by kernel_rfl
theorem fc65:xH Tryz.prog 65=true:=by kernel_rfl
theorem sz145:qZ Tryz.prog 145=some 1:=by kernel_rfl
theorem zf145:jn Tryz.prog 145=some [.nilFunc]:=by kernel_rfl
theorem zf22:jn Tryz.prog 22=some [.slice none 0 0]:=by kernel_rfl
theorem d65:qA 65 242 [] T36 fun _=>z65:=t65 65 _ rfl
theorem z65_ok:z65=some zX:=by
 unfold z65
 rw[show ofG 1 1=some 1 from(aF Uz).trans (congrArg some Uz)]
 rfl
def PostWk(U:Wd)(s:St)(k:Nat)(r:Option (List Nat))(q:Q2)(v:Value)(s':St):Prop:=∃(a:Hp') (b:Value) (D:Hp') (t8:List Value),v=.tuple ⟨[b,.agg ⟨t8⟩,.bool r.isSome]⟩∧HL [] s s' (a++D) k∧Wy a b (r.getD [])∧Rep (U.x D) T36 t8 q
theorem zbm{W:List Nat}{s0 s:St}{n:Nat}{U:Wd}{p q0 a b c:Nat×MObj}{A D Φ:Hp'}(H:HL W s0 s ((p::(A++D))++(q0::a::b::c::Φ)) n):∃Φ',WLe (U.x Φ) (U.x Φ')∧WLe ((U.x Φ).x D) (U.x Φ')∧HL W s0 s (q0::a::p::(A++Φ')) n:=by
 refine⟨D++Φ,vF (dJ _ _),uT (dJ _ _) (List.subset_append_left _ _),?_⟩
 have H2:=HL.mid (A:=p::(A++D)) (B:=[q0,a,b,c]) (C:=Φ) H
 have e:(p::(A++D))++Φ=p::(A++(D++Φ)):=by simp
 rw[e]at H2
 exact H2.sub (.cons_cons _ (.cons_cons _ (.cons _ (.cons _ (.refl _)))))
set_option maxHeartbeats 4000000 in
set_option maxRecDepth 10000 in
theorem zbn{I:zU}(p:zH I){s:St}(hf:Fine s){U:Wd}(Q:Knw s U){bt:Nat}{vl:Value}{cF:List Value}{va:Int→Value}{L:List (List Value)}{l:List Fq}{tr:List Nat}(W:∀k,k<l.length→0≤(eds l k).1∧(eds l k).1<(eds l k).2∧(eds l k).2<12)(Z:∀k,k<l.length→Tn 25 (trn l k))(F:∀k∈tr,k<l.length)(V:tr.length≤6)(o:Fo (eds l) tr)(r:zF cF 0=some vl)(u:∀v:Int,0≤v→v<12→zF cF (1+v.toNat)=some (va v))(y:s.get bt=some (.cells cF 94))(E:bt<s.next)(i:∀v:Int,0≤v→v<12→SlD s (va v) (nts (adj (eds l) tr v)))(hl:Sl s 40 29 vl L)(Y:FitsC U L l){v w:Int}(J:0≤v)(K:v<12)(hroom:43200000000+s.next≤zw) :
 ∃v' s',vo Tryz.prog I 45 #[.pointer (some ⟨bt,0,none⟩),.int .i64 v,.int .i64 w] s v' s'∧PostWk U s 43200000000 (way (eds l) tr v w) (wres (eds l) (trn l) v zX (way (eds l) tr v w)) v' s':=by
 have H:=hf.hl
 have t:=cost_mono 110000 (show tr.length+1≤7 by omega)
 rw[cost7]at t
 refine qD 3 (p 45) Tryz.func45 rfl fb45 rfl ?_
 refine zg (op_boxP H rfl Oz (fun j s1 H=>?_))
 refine zgn H rfl Oz (fun m s2 H=>?_)
 refine xW H zf22 Oz (fun n s3 H=>?_)
 refine xW H zbe Oz (fun b7 s4 H=>?_)
 refine zO (zb (zg (xW H zf145 Oz (fun g s5 H=>?_))))
 refine zb (zg (XV (xu (vs:=[.func (.func 104) #[] #[.pointer (some ⟨m,0,none⟩),.pointer (some ⟨j,0,none⟩),.pointer (some ⟨n,0,none⟩),.pointer (some ⟨g,0,none⟩)]]) H sz145 rfl rfl rfl rfl rfl Oz (fun S H=>?_))))
 refine zb (vQ [⟨0,0,.light,[]⟩,⟨1,0,.light,[0]⟩,⟨2,0,.whole,[0]⟩,⟨3,7,.whole,[]⟩,⟨4,15,.light,[]⟩,⟨5,31,.light,[]⟩,⟨6,31,.light,[]⟩,⟨7,63,.whole,[]⟩,⟨8,255,.light,[]⟩] Z0 Z0 (yL rfl rfl sh145 rfl H.own0 (H.lim0 Oz) rfl (za rfl rfl (zf rfl ⟨rfl,(yr rfl rfl (ym rfl fc65 rfl (jK (d65 p (Fine.pr H.fine (jM H.lt0 zdx)) ((knWX (P:=[_,_,_,_,_]) (A:=[]) Q.w H).heap rfl (aO _)) (x:=()) rfl z65_ok (H.rm Oz)) (fun v9 S D9 Hc M=>?_))))⟩))))
 have Hc:=HL.wider H.fine (aO _) (fun _ h=>bE _ h) Hc
 obtain⟨Φ,N,kd,H⟩:=ZM (U:=U) (A:=[]) [_,_,_,_,_] H Hc
 have H:HL [] s _ (_::_::_::_::_::Φ) _:=H
 obtain⟨ca,rfl,e⟩:=M
 replace e:=Rep.mono (τ:=T36) kd e
 clear Hc N kd
 refine yr rfl rfl (ym rfl fc104 rfl ?_)
 have f:=HL.mid (A:=[_,_]) (B:=[_]) (C:=_::_::Φ) H
 have HN:=HL.narrow (D:=[_]) (X:=[]) f (by intro q hq z;cases z) V1
 have G:1≤25 ^ (7-(tr.length+1)):=Nat.one_le_pow _ _ Uz
 obtain⟨_,S,R,Dw3,vw3,D8,t8,rfl,Hc,c,a⟩:=walk1_ok p (bTo:=m) (bT:=j) (bW:=n) (bS:=g) (bt:=bt) (cF:=cF) (va:=va) (w:=w) (L:=L) (l:=l) W Z F V r u (tr.length+1) Oz HN.fine HN (r0:=[]) .nil (by simp only[List.length_nil];omega) ((KnW.in Q.w f (Φ:=Φ) Z8).narrow H.fine) (fun s8 L8 n8 T=>(by have H9:=HL.callK f T;exact⟨(H9.own (m,_) Y8).1,(H9.own (j,_) Y8).1,(H9.own (g,_) Y8).1,(H9.own (g,.cells [.func (.func 104) #[] #[.pointer (some ⟨m,0,none⟩),.pointer (some ⟨j,0,none⟩),.pointer (some ⟨n,0,none⟩),.pointer (some ⟨g,0,none⟩)]] 145) Y8).2.1,H9.old E y,fun v h0 h1=>(i v h0 h1).kept H9,hl.kept H9⟩)) (Y.mono xP) (at_:=v) (last:= -1) J K (tn_still.le G) e (o.tm v (-1)) (H.rm Oz)
 refine⟨_,_,R,?_⟩
 clear R
 have H:=HL.callK (A:=[_]) (L:=_::_::_::_::Φ) f (HL.wider H.fine (aO _) (fun _ h=>h) Hc)
 clear Hc HN f
 obtain⟨Φ,N,kd,H⟩:=zbm (U:=U) H
 replace a:=Rep.mono (τ:=T36) kd a
 clear N kd
 have b:t8.length=8:=Rep.len (τ:=T36) a
 have d:=Rep.plain (τ:=T36) a
 revert a b d
 generalize t8=O
 intro a b d
 rw[cI]at c
 obtain⟨a9,c9,rfl⟩:=c.isSlice
 refine za rfl rfl (vV rfl ⟨rfl,(za rfl rfl (yB rfl rfl ⟨rfl,(za rfl rfl (yB rfl rfl ⟨rfl,(Xx (vs:=O) (fr:=[]) H rfl rfl ZE rfl rfl (xq b) d (yQ (by rw[b];rfl)) rfl Z2 Oz (fun s6 H=>?_))⟩))⟩))⟩)
 refine za rfl rfl (xl rfl ⟨rfl,(yV (vQ [⟨0,0,.light,[1]⟩,⟨1,0,.light,[0]⟩,⟨2,0,.light,[0,1]⟩,⟨3,1,.whole,[1]⟩,⟨4,11,.whole,[]⟩,⟨5,31,.light,[]⟩] Z0 Z0 (yL rfl rfl Ku rfl H.own2 (H.lim2 Oz) rfl (k6 rfl rfl uJ rfl H.own1 (H.lim1 Oz) (xM b) (za rfl rfl (xA rfl ⟨rfl,(Xw (vs:=[.slice _ _ _]) (fr:=[_]) H rfl rfl zdY rfl rfl rfl rfl rfl rfl Z2 Oz (fun s7 H=>?_))⟩))))))⟩)
 refine Xx (vs:=O) (fr:=[]) H rfl rfl ZE rfl rfl (xq b) d (yQ rfl) rfl Z2 Oz (fun s8 H=>?_)
 refine za rfl rfl (xl rfl ⟨rfl,(yV (qH (xD (end_sct Ku rfl H.own2 rfl uJ rfl H.own1 (xM b) rfl ?_))))⟩)
 exact⟨Dw3,_,Φ,_,rfl,H.drop0.drop0.drop0.up Oz,c,a⟩
theorem WY{α:Type}:∀{l a a' b:List α},xO l a=some a'→xO l (a++b)=some (a'++b)
 | [],_,_,_,h=>by simp only[xO,bF]at h ⊢;rw[h]
 |_::_,[],_,_,h=>by simp[xO]at h
 |v::l,x::a,a',b,h=>by
  simp only[xO,bV]at h ⊢
  split at h
  ·next r c=>rw[WY c];cases h;rfl
  ·cases h
theorem zco{α:Type}:∀{j:Nat} {l a a' b:List α},yO j l a=some a'→yO j l (a++b)=some (a'++b)
 |0,_,_,_,_,h=>WY h
 |_+1,_,[],_,_,h=>by simp[yO]at h
 |j+1,l,x::a,a',b,h=>by
  simp only[yO,bV]at h ⊢
  split at h
  ·next r c=>rw[zco c];cases h;rfl
  ·cases h
theorem fb236:vG Tryz.f236 (Tryz.f236.body.getD .skip) 1=true:=by kernel_rfl
theorem fc236:xH Tryz.prog 236=true:=by kernel_rfl
theorem sz3:qZ Tryz.prog 3=some 1:=by kernel_rfl
set_option maxHeartbeats 4000000 in
theorem isNaN_ok{I:zU}(a:zH I){s:St}{n:Int}:∃v' s',vo Tryz.prog I 236 #[.int .i64 n] s v' s'∧(v'=.bool false∧s'=s):=by
 refine qD 1 (a 236) Tryz.func236 rfl fb236 rfl ?_
 refine zg (zO (zb (zg (zf rfl (zf rfl (op_neq rfl rfl (fun h=>False.elim (h rfl)) (fun h=>?_)))))))
 refine xl rfl (zb (qH (xD (uH ?_))))
 exact⟨rfl,rfl⟩
section
variable{P:Program}{I:zU}{F:FF}{s:St}{Q:FF→St→Prop}{d:Option Tmp}{ty:TypeId}{pos:String}{af:Array Edge}{g:Option (Nat×Bool)}
theorem zcg{src dst:TypeId}{x:Operand}{kd:IntKind}{a:Int}{u:TypeDesc}(hu:P.underlying src=some u)(hd:P.underlying dst=some (.int .u64))(hx:zd F x=.int kd a)(h:InU a)(k:Q (upd F d (.int .u64 a)) s):OpW P I ⟨d,.convert src dst x,ty,pos,af,g⟩ F s Q:=
 XW hu hd hx (by rw[Q7 h];exact k)
end
theorem fb182:vG Tryz.f182 (Tryz.f182.body.getD .skip) 2=true:=by kernel_rfl
theorem fb176:vG Tryz.f176 (Tryz.f176.body.getD .skip) 3=true:=by kernel_rfl
theorem fc182:xH Tryz.prog 182=true:=by kernel_rfl
theorem fb107:vG Tryz.f107 (Tryz.f107.body.getD .skip) 4=true:=by kernel_rfl
theorem fc176:xH Tryz.prog 176=true:=by kernel_rfl
theorem fb48:vG Tryz.f48 (Tryz.f48.body.getD .skip) 1=true:=by kernel_rfl
theorem fc107:xH Tryz.prog 107=true:=by kernel_rfl
theorem fc108:xH Tryz.prog 108=true:=by kernel_rfl
theorem un150:Tryz.prog.underlying 150=some (.int .u64):=by kernel_rfl
section
variable{P:Program}{I:zU}{F:FF}{s:St}{Q:FF→St→Prop}{d:Option Tmp}{ty:TypeId}{pos:String}{af:Array Edge}{g:Option (Nat×Bool)}
end
section
variable{P:Program}{I:zU}{f:FuncId}{args:Array Value}{s:St}{Q:Value→St→Prop}
theorem callLt{a b:Int}(h:∃v s',vo P I f args s v s'∧(v=.bool (decide (a<b))∧s'=s))(c0:¬a<b→Q (.bool false) s)(c1:a<b→Q (.bool true) s):∃v s',vo P I f args s v s'∧Q v s':=by
 obtain⟨v,s',e,rfl,rfl⟩:=h
 by_cases c:a<b
 ·rw[aH c]at e;exact⟨_,_,e,c1 c⟩
 ·rw[bA c]at e;exact⟨_,_,e,c0 c⟩
end
theorem Xa:∀{L:List Int} {j:Nat},j+1<L.length→((L.set (j+1) (L.getD j 0)).set j (L.getD (j+1) 0)).Perm L
 | [],_,h=>by simp at h
 | [x],_,h=>by simp at h
 |x::y::L,0,_=>by simpa using List.Perm.swap x y L
 |x::y::L,j+1,h=>by
  have:=Xa (L:=y::L) (j:=j) (by simpa using h)
  simpa using this.cons x
theorem zga{L:List Int}{i j:Nat}{x:Int}(hi:i<L.length):(L.set i x).getD j 0=if j=i then x else L.getD j 0:=by
 rw[aC,List.getElem?_set]
 by_cases h:i=j
 ·subst h;simp[hi]
 ·rw[aD h,aD (Ne.symm h),aC]
def But(L:List Int)(i j:Nat):Prop:=∀p q,p<q→q≤i→(p≠j→q≠j→L.getD p 0≤L.getD q 0)∧(p=j→L.getD j 0≤L.getD q 0)
def Srt(L:List Int)(i:Nat):Prop:=∀p q,p<q→q<i→L.getD p 0≤L.getD q 0
theorem Srt.but{L:List Int}{i:Nat}(h:Srt L i):But L i i:=fun p q a hqi=>⟨fun _ hq=>h p q a Oz,fun hp=>by omega⟩
theorem But.srt{L:List Int}{i j:Nat}(h:But L i j)(hj:j=0∨¬L.getD j 0<L.getD (j-1) 0):Srt L (i+1):=fun p q a hqi=>by
 by_cases hp:p=j
 ·exact hp▸(h p q a Oz).2 hp
 ·by_cases c:q=j
  ·subst c
   rcases hj with rfl|hj
   ·omega
   ·by_cases b:p=q-1
    ·rw[b];omega
    ·have:=(h p (q-1) Oz Oz).1 hp Oz;omega
  ·exact(h p q a Oz).1 hp c
theorem But.swap{L:List Int}{i j:Nat}(h:But L i (j+1))(hj:L.getD (j+1) 0<L.getD j 0)(hl:j+1<L.length):But ((L.set (j+1) (L.getD j 0)).set j (L.getD (j+1) 0)) i j:=fun p q l c=>by
 have e:∀k,((L.set (j+1) (L.getD j 0)).set j (L.getD (j+1) 0)).getD k 0=if k=j then L.getD (j+1) 0 else if k=j+1 then L.getD j 0 else L.getD k 0:=fun k=>by
  rw[zga V3,zga hl]
 rw[e,e,e]
 refine⟨fun hp m=>?_,fun hp=>?_⟩
 ·rw[aD hp,aD m]
  by_cases b:p=j+1
  ·rw[aF b,aD Oz]
   exact(h j q Oz c).1 Oz Oz
  ·rw[aD b]
   by_cases a:q=j+1
   ·rw[aF a]
    exact(h p j Oz Oz).1 b Oz
   ·rw[aD a]
    exact(h p q l c).1 b a
 ·subst hp
  rw[aF rfl,aD Oz]
  by_cases a:q=p+1
  ·rw[aF a];omega
  ·rw[aD a]
   exact(h (p+1) q Oz c).2 rfl
theorem Srt.pw{L:List Int}(h:Srt L L.length):L.Pairwise (·≤·):=by
 rw[List.pairwise_iff_getElem]
 intro p q hp b a
 have:=h p q a b
 rwa[aC,aC,aE hp,aE b]at this
theorem ue{L:List Int}{rest:List Value}{k m:Nat}(hk:k<L.length)(a:m=k):zF (xm L++rest) m=some (.int .i64 (L.getD k 0)):=by
 subst a
 have h1:=WZ hk
 rw[zJ]at h1 ⊢
 rw[bY (by rw[gh];exact hk)]
 exact h1
theorem K7{x:Int}{L:List Int}{rest:List Value}{k m:Nat}(hk:k<L.length)(a:m=k):yO m [.int .i64 x] (xm L++rest)=some (xm (L.set k x)++rest):=zco (zex hk a)
set_option maxHeartbeats 4000000 in
set_option maxRecDepth 10000 in
theorem less_ok{I:zU}(c:zH I){s:St}{a b:Int}:∃v' s',vo Tryz.prog I 182 #[.int .i64 a,.int .i64 b] s v' s'∧(v'=.bool (decide (a<b))∧s'=s):=by
 refine qD 2 (c 182) Tryz.func182 rfl fb182 rfl ?_
 refine zg (zO (zb (zg (zf rfl (ym rfl fc236 rfl ?_)))))
 obtain⟨_,_,e,rfl,rfl⟩:=isNaN_ok (s:=s) (n:=a) c
 refine⟨_,_,e,?_⟩
 clear e
 refine xA rfl (xE rfl (xE rfl (xE rfl (gZ rfl (xA rfl (zf rfl (zf rfl (kA rfl rfl (fun h=>?_) (fun h=>?_)))))))))
 ·refine wo rfl rfl (xl rfl (zb (qH (xD (uH (⟨congrArg Value.bool ?_,rfl⟩))))))
  exact(aH Oz).symm
 refine wo rfl rfl (xl rfl (zb (qH (xD (uH (⟨congrArg Value.bool ?_,rfl⟩))))))
 exact(bA Oz).symm
set_option maxHeartbeats 4000000 in
set_option maxRecDepth 10000 in
theorem zao{I:zU}(o:zH I){s0 s:St}{c m cap:Nat}{L0:List Int}{rest:List Value}{R:Hp'}(H:HL [] s0 s ((c,.cells (xm L0++rest) tI)::R) m)(h12:L0.length≤12)(hroom:m+1+s0.next≤zw) :
 ∃v' s',vo Tryz.prog I 176 #[.slice (some ⟨c,0,none⟩) L0.length cap,.int .i64 0,.int .i64 (L0.length:Int)] s v' s'∧(∃L,v'=.tuple ⟨[]⟩∧HL [] s0 s' ((c,.cells (xm L++rest) tI)::R) m∧L.Perm L0∧L.Pairwise (·≤·)):=by
 refine qD 3 (o 176) Tryz.func176 rfl fb176 rfl ?_
 refine zg (zf rfl (xX rfl rfl (by unfold yy;omega) (z4 rfl (zb (yj (kP (fun k F s1=>∃(G:FF) (i:Nat) (L:List Int),F=lay G [(0,.slice (some ⟨c,0,none⟩) L0.length cap),(1,.int .i64 0),(2,.int .i64 (L0.length:Int)),(6,.int .i64 (i:Int))]∧HL [] s0 s1 ((c,.cells (xm L++rest) tI)::R) m∧L.Perm L0∧L.length=L0.length∧1≤i∧(i≤L0.length∨i=1)∧k=13-i∧Srt L i) ?_ 12 _ _ ?_))))))
 rotate_left
 ·exact⟨_,1,L0,slots ⟨rfl,rfl,rfl,rfl,trivial⟩,H,.refl _,rfl,by omega,by omega,rfl,fun p q h1 h2=>by omega⟩
 rintro k F s1 ⟨G,i,L,rfl,H,hp,n,hi1,hi,rfl,hs⟩
 refine zL (zg (zf rfl (zf rfl (kA rfl rfl (fun h=>?_) (fun h=>?_)))))
 ·refine zb (yN rfl (yo (zn (zL (yj (zg (zf rfl (z4 rfl (zb (yj (kP (fun k F s1=>∃(G:FF) (j:Nat) (L2:List Int),F=lay G [(0,.slice (some ⟨c,0,none⟩) L0.length cap),(1,.int .i64 0),(2,.int .i64 (L0.length:Int)),(6,.int .i64 (i:Int)),(7,.int .i64 (j:Int))]∧HL [] s0 s1 ((c,.cells (xm L2++rest) tI)::R) m∧L2.Perm L0∧L2.length=L0.length∧j≤i∧k=j∧But L2 i j) ?_ i _ _ ?_)))))))))))
  rotate_left
  ·exact⟨_,i,L,slots ⟨rfl,rfl,rfl,rfl,rfl,trivial⟩,H,hp,n,by omega,rfl,hs.but⟩
  rintro kx F s1 ⟨G,j,L2,rfl,H,e,b,hj,hkj,a⟩
  refine zL (vQ [⟨0,0,.light,[]⟩,⟨1,0,.light,[]⟩,⟨2,3,.light,[]⟩,⟨3,7,.light,[]⟩,⟨4,15,.light,[12]⟩,⟨5,15,.light,[12]⟩,⟨6,63,.light,[12]⟩,⟨7,127,.light,[12]⟩,⟨8,15,.light,[7]⟩,⟨9,15,.light,[7]⟩,⟨10,527,.light,[7]⟩,⟨11,1807,.light,[7]⟩,⟨12,3855,.light,[7]⟩,⟨13,8191,.whole,[]⟩,⟨14,16383,.light,[]⟩] Z0 Z0 (za rfl rfl (zf rfl ⟨rfl,(za rfl rfl (zf rfl ⟨rfl,(za rfl rfl (J6 rfl rfl (fun h=>⟨rfl,?_⟩) (fun h=>⟨rfl,?_⟩)))⟩))⟩)))
  ·refine za rfl rfl (xA rfl ⟨rfl,(za rfl rfl (zx rfl ⟨rfl,(za rfl rfl (zf rfl ⟨rfl,(za rfl rfl (z7 zcO rfl rfl Oz Oz ⟨rfl,(yL rfl rfl sh3 rfl H.own0 (H.lim0 Oz) (ue (k:=j) Oz Oz) (za rfl rfl (zx rfl ⟨rfl,(za rfl rfl (zf rfl ⟨rfl,(za rfl rfl (wa rfl rfl (by unfold yy;omega) ⟨rfl,(za rfl rfl (z7 zcO rfl rfl Oz Oz ⟨rfl,(yL rfl rfl sh3 rfl H.own0 (H.lim0 Oz) (ue (k:=j-1) Oz Oz) (yr rfl rfl (ym rfl fc182 rfl (callLt (less_ok o) (fun l=>?_) (fun l=>?_)))))⟩))⟩))⟩))⟩)))⟩))⟩))⟩))⟩)
   ·refine za rfl rfl (vJ rfl rfl ⟨rfl,(yV (ye rfl (qw (xG (xv (xI (xc (zn (zQ (zf rfl (xX rfl rfl (by unfold yy;omega) ?_)))))))))))⟩)
    refine z4 rfl (zb (yA (⟨13-(i+1),by omega,_,i+1,L2,slots ⟨rfl,rfl,rfl,rfl,trivial⟩,H,e,b,by omega,by omega,rfl,a.srt ?_⟩)))
    exact .inr Oz
   refine za rfl rfl (vJ rfl rfl ⟨rfl,(yV (yN rfl (yo (zn (zL (yj ?_))))))⟩)
   obtain⟨k,rfl⟩:∃k,j=k+1:=⟨j-1,by omega⟩
   have hj1:(((k+1:Nat):Int)-1).toNat=k:=by omega
   rw[Nat.add_sub_cancel]at l
   refine uv [⟨0,0,.light,[9,13]⟩,⟨1,0,.light,[9,13]⟩,⟨2,0,.light,[9,13]⟩,⟨3,0,.light,[9,13]⟩,⟨4,8,.light,[9,13]⟩,⟨5,0,.light,[13]⟩,⟨6,0,.light,[13]⟩,⟨7,64,.light,[13]⟩,⟨8,224,.light,[13]⟩,⟨9,480,.light,[13]⟩,⟨10,0,.light,[9]⟩,⟨11,0,.light,[9]⟩,⟨12,3072,.light,[9]⟩,⟨13,7168,.light,[9]⟩,⟨14,16355,.light,[]⟩,⟨15,32739,.whole,[]⟩,⟨16,65535,.light,[]⟩,⟨17,131071,.whole,[]⟩] Z0 Z0 (za rfl rfl (zx rfl ⟨rfl,(za rfl rfl (zf rfl ⟨rfl,(za rfl rfl (zx rfl ⟨rfl,(za rfl rfl (zf rfl ⟨rfl,(za rfl rfl (wa rfl rfl (by unfold yy;omega) ⟨rfl,(za rfl rfl (zx rfl ⟨rfl,(za rfl rfl (zf rfl ⟨rfl,(za rfl rfl (wa rfl rfl (by unfold yy;omega) ⟨rfl,(za rfl rfl (z7 zcO rfl rfl Oz Oz ⟨rfl,(yL rfl rfl sh3 rfl H.own0 (H.lim0 Oz) (ue (k:=k) Oz Oz) (za rfl rfl (zx rfl ⟨rfl,?_⟩)))⟩))⟩))⟩))⟩))⟩))⟩))⟩))⟩))⟩))
   refine za rfl rfl (zf rfl ⟨rfl,(za rfl rfl (z7 zcO rfl rfl Oz Oz ⟨rfl,(yL rfl rfl sh3 rfl H.own0 (H.lim0 Oz) (ue (k:=k+1) Oz Oz) (za rfl rfl (z7 zcO rfl rfl Oz Oz ⟨rfl,(vt (vs:=[.int .i64 _]) (fr:=[]) H rfl rfl sz3 rfl rfl rfl rfl (K7 (k:=k+1) Oz Oz) rfl V1 Oz (fun r H=>?_))⟩)))⟩))⟩)
   refine za rfl rfl (z7 zcO rfl rfl Oz Oz ⟨rfl,(vt (vs:=[.int .i64 _]) (fr:=[]) H rfl rfl sz3 rfl rfl rfl rfl (K7 (k:=k) V3 Oz) rfl V1 Oz (fun r H=>?_))⟩)
   refine yV (xc (zn (zQ (zf rfl (wa rfl rfl (by unfold yy;omega) (z4 rfl (zb (yA (⟨k,by omega,_,k,_,slots ⟨rfl,rfl,rfl,rfl,by show Value.int .i64 (((k+1:Nat):Int)-1)=_;congr 1;omega,trivial⟩,H,(Xa Oz).trans e,by rw[bP,bP];exact b,by omega,rfl,a.swap Oz Oz⟩)))))))))
  refine za rfl rfl (xA rfl ⟨rfl,(kE rfl rfl (kE rfl rfl (kE rfl rfl (kE rfl rfl (kE rfl rfl (kE rfl rfl (kE rfl rfl (kE rfl rfl (kE rfl rfl (kE rfl rfl (za rfl rfl (gZ rfl ⟨rfl,?_⟩))))))))))))⟩)
  refine yV (ye rfl (qw (xG (xv (xI (xc (zn (zQ (zf rfl (xX rfl rfl (by unfold yy;omega) (z4 rfl ?_)))))))))))
  refine zb (yA (⟨13-(i+1),by omega,_,i+1,L2,slots ⟨rfl,rfl,rfl,rfl,trivial⟩,H,e,b,by omega,by omega,rfl,a.srt ?_⟩))
  exact .inl Oz
 refine zb (ye rfl (qw (xG (xv (xI (Go.M.nrm_end (QS ?_)))))))
 have hii:L0.length≤i:=by omega
 exact⟨L,rfl,H,hp,Srt.pw fun p q h1 h2=>hs p q h1 Oz⟩
set_option maxHeartbeats 4000000 in
set_option maxRecDepth 10000 in
theorem pdq_ok{I:zU}(i:zH I){s0 s:St}{b e cap:Nat}{L0:List Int}{rest:List Value}{R:Hp'}(H:HL [] s0 s ((b,.cells (xm L0++rest) tI)::R) e)(c:L0.length≤12){z:Int}(a:e+1+s0.next≤zw) :
 ∃v' s',vo Tryz.prog I 107 #[.slice (some ⟨b,0,none⟩) L0.length cap,.int .i64 0,.int .i64 (L0.length:Int),.int .i64 z] s v' s'∧(∃L,v'=.tuple ⟨[]⟩∧HL [] s0 s' ((b,.cells (xm L++rest) tI)::R) e∧L.Perm L0∧L.Pairwise (·≤·)):=by
 refine qD 4 (i 107) Tryz.func107 rfl fb107 rfl ?_
 refine zg (zO (zb (zg (zO (zb (yj (XA (yj (zg (zf rfl (zf rfl ?_)))))))))))
 refine wa rfl rfl (by unfold yy;omega) (z4 rfl (zb (zL (zg (zf rfl (op_leq rfl rfl (fun h=>?_) (fun h=>False.elim Oz)))))))
 refine zb (yN rfl (zg (zx rfl (zf rfl (zf rfl (ym rfl fc176 rfl ?_))))))
 obtain⟨_,s9,j,L,rfl,k,l⟩:=zao i H c a
 refine⟨_,_,j,?_⟩
 clear j
 refine zb (qH (qp (vf (qp (vf (xD (QS ?_)))))))
 exact⟨L,rfl,k,l⟩
set_option maxHeartbeats 4000000 in
set_option maxRecDepth 10000 in
theorem sort_ok{I:zU}(e:zH I){s0 s:St}{c h cap:Nat}{L0:List Int}{rest:List Value}{R:Hp'}(H:HL [] s0 s ((c,.cells (xm L0++rest) tI)::R) h)(b:L0.length≤12)(a:h+1+s0.next≤zw) :
 ∃v' s',vo Tryz.prog I 48 #[.slice (some ⟨c,0,none⟩) L0.length cap] s v' s'∧(∃L,v'=.tuple ⟨[]⟩∧HL [] s0 s' ((c,.cells (xm L++rest) tI)::R) h∧L.Perm L0∧L.Pairwise (·≤·)):=by
 refine qD 1 (e 48) Tryz.func48 rfl fb48 rfl ?_
 refine zg (zx rfl (qX Y6 rfl rfl rfl (z4 rfl (zb (zQ (zx rfl (zf rfl (zf rfl (zcg un3 un150 rfl (by unfold InU;omega) (ym rfl fc108 rfl (zdg (zgB e b) (fun z=>?_))))))))))))
 refine ym rfl fc107 rfl ?_
 obtain⟨_,s9,i,L,rfl,j,k⟩:=pdq_ok e H b a (z:=z)
 refine⟨_,_,i,?_⟩
 clear i
 refine zb (Go.M.nrm_end (QS ?_))
 exact⟨L,rfl,j,k⟩
end Go.Proofs.YtocnbjjmmgolfaaGreat
