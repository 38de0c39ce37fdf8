/- The law as plain definitions (printed by f6.py). -/
import Derived.Test.YtocnbjjmmgolfaaGreatA33
import Derived.Test.YtocnbjjmmgolfaaGreatA34
set_option linter.unusedSimpArgs false
set_option linter.unusedVariables false
set_option linter.unusedSectionVars false
namespace Go.Proofs.YtocnbjjmmgolfaaGreat
open Go Go.M Go.Proofs.C14
def g8:TypeId->Option Ty:=λt=>cW [(77,tJ),(69,tW),(38,bw),(34,.rat),(72,dx),(4,.bool),(3,(.int .i64)),(36,bG),(40,fM),(27,Le),(54,hZ),(87,MU),(214,iE),(126,nv),(162,ny),(164,QD),(166,uG),(139,dz),(290,nA),(271,iF),(185,Wh),(229,F9),(226,jX),(125,Gp),(118,jw)] t
noncomputable def Ex:=zm Mc 258 ⟨[.rat,.rat],.rat,603,λx=>Gc x.1 x.2⟩
theorem UO:ad Ex:=ad.add t18 Ni
noncomputable def Rc(a0:Pc)(b:Pc)(a:Fq):Option Bool:=(if (decide (0<=a.2.2.1))=true then(if (decide (a.2.2.1<(a0.2.2.1.length:Int)))=true then(if (decide (0<=a.2.2.2.1))=true then(if (decide (a.2.2.2.1<(b.2.2.1.length:Int)))=true then(if (decide (1<=a.2.2.2.2.1))=true then some (decide (a.2.2.2.2.1<(min (a0.2.2.1.length:Int) (b.2.2.1.length:Int))))else some false)else some false)else some false)else some false)else some false)
noncomputable def MS:=zm Ex 85 ⟨[dx,dx,fM],.bool,6,λx=>Rc x.1 x.2.1 x.2.2⟩
theorem t85:ad MS:=ad.next (Γ:=g8) (Hs:=fa []) (rs:=[6]) UO rfl λx=>by kernel_rfl
noncomputable def JW(a:Int)(b:Int):Option Int:=if b=0 then none else(i64 ((Int.tmod a b)+b)).bind λc=>if b=0 then none else some (Int.tmod c b)
noncomputable def DN:=zm MS 155 ⟨[(.int .i64),(.int .i64)],(.int .i64),0,λx=>JW x.1 x.2⟩
theorem T8:ad DN:=ad.next (Γ:=g8) (Hs:=fa []) (rs:=[0]) t85 rfl λx=>by kernel_rfl
noncomputable def sK(a:Pc)(b:Pc)(c:Fq):Option (List (Int×Int)):=zk (λd (e:Int×List (Int×Int))=>if decide (e.1<c.2.2.2.2.1)then(i64 (c.2.2.1+e.1)).bind λf=>(i64 (c.2.2.2.1-e.1)).bind λg=>(JW f (a.2.2.1.length:Int)).bind λh=>(JW g (b.2.2.1.length:Int)).bind λi=>(app e.2 [(h,i)]).bind λj=>(i64 (e.1+1)).bind λk=>d (k,j)else some e.2) (zi 12) (0,[])
noncomputable def DK:=zm DN 151 ⟨[dx,dx,fM],Kh,51,λx=>sK x.1 x.2.1 x.2.2⟩
theorem T5:ad DK:=ad.next (Γ:=g8) (Hs:=fa [(151,[{frz:=[],cst:=[3,4,5,10],vars:=[(7,false,[.own 0]),(11,false,[.hole])],objs:=[],own:=[⟨.s 7,185,2,Wh⟩],ts:=[(.int .i64),Kh],fuel:=12}])]) (rs:=[51]) T8 rfl λx=>by kernel_rfl
noncomputable def RS(a:Pc)(b:Pc)(c:Fq):Option Bool:=(sK a b c).bind λd=>zk (λe (f:Bool×Int)=>if decide (f.2<d.length)then(ae d f.2).bind λg=>(ae a.2.2.2.2.1 g.1).bind λh=>(ae b.2.2.2.2.1 g.2).bind λi=>(ae a.2.2.2.1 g.1).bind λj=>if j then some false else(ae b.2.2.2.1 g.2).bind λk=>if k then some false else if decide (h≠i)then if decide (h≠0)then if decide (i≠0)then some false else(i64 (f.2+1)).bind λl=>e (f.1,l)else(i64 (f.2+1)).bind λl=>e (f.1,l)else(i64 (f.2+1)).bind λl=>e (f.1,l)else some f.1) (zi 12) (true,0)
noncomputable def MT:=zm DK 86 ⟨[dx,dx,fM],.bool,67,λx=>RS x.1 x.2.1 x.2.2⟩
theorem t86:ad MT:=ad.next (Γ:=g8) (Hs:=fa [(86,[{frz:=[],cst:=[3,4,15,16],vars:=[(7,false,[.hole]),(17,false,[.hole])],objs:=[],own:=[],ts:=[.bool,(.int .i64)],fuel:=12}])]) (rs:=[67]) T5 rfl λx=>by kernel_rfl
noncomputable def I1(a:Rat×Rat)(b:Rat):Option V:=(qG a.1 b).bind λc=>(qG a.2 b).bind λd=>some (c,d)
noncomputable def DS:=zm MT 160 ⟨[bw,.rat],bw,1161,λx=>I1 x.1 x.2⟩
theorem Ud:ad DS:=ad.next (Γ:=g8) (Hs:=fa []) (rs:=[1161]) t86 rfl λx=>by kernel_rfl
noncomputable def tq(a:Pc)(b:Int):Option (Int×Int):=if (a.2.2.1.length:Int)=0 then none else(i64 ((Int.tmod b a.2.2.1.length)+a.2.2.1.length)).bind λc=>if (a.2.2.1.length:Int)=0 then none else(ae a.2.2.1 (Int.tmod c a.2.2.1.length)).bind λd=>(i64 ((Int.tmod c a.2.2.1.length)+1)).bind λe=>if (a.2.2.1.length:Int)=0 then none else(ae a.2.2.1 (Int.tmod e a.2.2.1.length)).bind λf=>(i64 (f.1-d.1)).bind λg=>(i64 (f.2-d.2)).bind λh=>some (g,h)
noncomputable def Ev:=zm DS 256 ⟨[dx,(.int .i64)],(.tup (.int .i64) (.int .i64)),4,λx=>tq x.1 x.2⟩
theorem UM:ad Ev:=ad.next (Γ:=g8) (Hs:=fa []) (rs:=[4]) Ud rfl λx=>by kernel_rfl
noncomputable def tf(a:Pc)(b:Int):Option Int:=(tq a b).bind λc=>(i64 (c.1*c.1)).bind λd=>(i64 (c.2*c.2)).bind λe=>(i64 (d+e)).bind λf=>some f
noncomputable def Ef:=zm Ev 218 ⟨[dx,(.int .i64)],(.int .i64),5,λx=>tf x.1 x.2⟩
theorem Uw:ad Ef:=ad.next (Γ:=g8) (Hs:=fa []) (rs:=[5]) UM rfl λx=>by kernel_rfl
noncomputable def B7(a:Rat×Rat)(b:Rat×Rat):Option (V×Int):=(Qu a a).bind λc=>(Qu b b).bind λd=>(qA c).bind λe=>if decide (e=0)then some ((0,0),1)else(qA d).bind λf=>if decide (f=0)then some ((0,0),1)else(wm c d).bind λg=>if !g then some ((0,0),21)else(Qu a b).bind λh=>(Gc h c).bind λi=>(mU a b).bind λj=>(Gc j c).bind λk=>some ((i,k),0)
noncomputable def Eg:=zm Ef 219 ⟨[bw,bw],(.tup bG (.int .i64)),25142,λx=>B7 x.1 x.2⟩
theorem Ux:ad Eg:=ad.next (Γ:=g8) (Hs:=fa []) (rs:=[25142]) Uw rfl λx=>by kernel_rfl
noncomputable def tg(a:Pc)(b:Int):Option V:=(tq a b).bind λc=>(Xd c.1 c.2).bind λd=>some d
noncomputable def Eh:=zm Eg 220 ⟨[dx,(.int .i64)],bw,489,λx=>tg x.1 x.2⟩
theorem Uy:ad Eh:=ad.next (Γ:=g8) (Hs:=fa []) (rs:=[489]) Ux rfl λx=>by kernel_rfl
noncomputable def sL(a:Pc)(b:Pc)(c:Int)(d:Int):Option (V×Bool):=if decide (c<0)then some ((0,0),false)else if decide ((a.2.2.1.length:Int)<=c)then some ((0,0),false)else if decide (d<0)then some ((0,0),false)else if decide ((b.2.2.1.length:Int)<=d)then some ((0,0),false)else(tf a c).bind λe=>(tf b d).bind λf=>if decide (e≠f)then some ((0,0),false)else(tg b d).bind λg=>(dh (-1) 1).bind λh=>(I1 g h).bind λi=>(tg a c).bind λj=>(B7 i j).bind λk=>some (k.1,(decide (k.2=0)))
noncomputable def DL:=zm Eh 153 ⟨[dx,dx,(.int .i64),(.int .i64)],(.tup bG .bool),27538,λx=>sL x.1 x.2.1 x.2.2.1 x.2.2.2⟩
theorem T6:ad DL:=ad.next (Γ:=g8) (Hs:=fa []) (rs:=[27538]) Uy rfl λx=>by kernel_rfl
noncomputable def RT(a:Pc)(b:Pc)(c:Fq):Option (List V):=(sK a b c).bind λd=>zk (λe (f:Int×List V)=>if decide (f.1<d.length)then(ae d f.1).bind λg=>(sL a b g.1 g.2).bind λh=>if h.2=true then(app f.2 [h.1]).bind λi=>(i64 (f.1+1)).bind λj=>e (j,i)else(i64 (f.1+1)).bind λi=>e (i,f.2)else some f.2) (zi 12) (0,[])
noncomputable def MV:=zm DL 88 ⟨[dx,dx,fM],La,330559,λx=>RT x.1 x.2.1 x.2.2⟩
theorem t88:ad MV:=ad.next (Γ:=g8) (Hs:=fa [(88,[{frz:=[],cst:=[3,4,15,16],vars:=[(7,false,[.own 0]),(17,false,[.hole])],objs:=[],own:=[⟨.s 7,36,8,bG⟩],ts:=[(.int .i64),La],fuel:=12}])]) (rs:=[330559]) T6 rfl λx=>by kernel_rfl
noncomputable def FM(a:Rat)(b:Rat):Option Rat:=(yu a b).bind λc=>if decide (c<0)then some b else some a
noncomputable def DO:=zm MV 156 ⟨[.rat,.rat],.rat,105,λx=>FM x.1 x.2⟩
theorem T9:ad DO:=ad.next (Γ:=g8) (Hs:=fa []) (rs:=[105]) t88 rfl λx=>by kernel_rfl
noncomputable def I2(a:Rat)(b:Rat):Option Rat:=(yu a b).bind λc=>if decide (0<c)then some b else some a
noncomputable def DP:=zm DO 157 ⟨[.rat,.rat],.rat,105,λx=>I2 x.1 x.2⟩
theorem Ua:ad DP:=ad.next (Γ:=g8) (Hs:=fa []) (rs:=[105]) T9 rfl λx=>by kernel_rfl
noncomputable def RU(a:Pc)(b:Pc)(c:Fq):Option (V×V×Bool):=(Rc a b c).bind λd=>if !d then some ((0,0),(0,0),false)else(FI c.2.2.2.2.2.1).bind λe=>if !e then some ((0,0),(0,0),false)else(JX a).bind λf=>(JX b).bind λg=>(qF a.2.2.2.2.2.1 b.2.2.2.2.2.1).bind λh=>(i64 (c.2.2.2.2.1+1)).bind λi=>zk (λj (k:Int×Rat×Rat×Rat×Rat)=>if decide (k.1<i)then(i64 (c.2.2.1+k.1)).bind λl=>(i64 (c.2.2.2.1+1)).bind λm=>(i64 (m-k.1)).bind λn=>(JW l (f.length:Int)).bind λo=>(ae f o).bind λp=>(JW n (g.length:Int)).bind λq=>(ae g q).bind λr=>(FP c.2.2.2.2.2.1 r).bind λs=>(ZA p s).bind λt=>if decide (k.1=0)then(i64 (k.1+1)).bind λu=>j (u,t.1,t.2,t.1,t.2)else(FM k.2.1 t.1).bind λu=>(I2 k.2.2.2.1 t.1).bind λv=>(FM k.2.2.1 t.2).bind λw=>(I2 k.2.2.2.2 t.2).bind λx=>(i64 (k.1+1)).bind λy=>j (y,u,w,v,x)else(ZA (k.2.1,k.2.2.1) (h,h)).bind λl=>(Wn k.2.2.2 (h,h)).bind λm=>(yu l.1 m.1).bind λn=>if decide (0<n)then some ((0,0),(0,0),false)else(yu l.2 m.2).bind λo=>if decide (0<o)then some ((0,0),(0,0),false)else some (l,m,true)) (zi 12) (0,0,0,0,0)
noncomputable def MW:=zm DP 90 ⟨[dx,dx,fM],(.tup3 bw bw .bool),178718,λx=>RU x.1 x.2.1 x.2.2⟩
theorem t90:ad MW:=ad.next (Γ:=g8) (Hs:=fa [(90,[{frz:=[],cst:=[5,6,7,9,10,11,12,13,40],vars:=[(41,false,[.hole])],objs:=[(6,[.hole,.hole]),(7,[.hole,.hole])],own:=[],ts:=[(.int .i64),.rat,.rat,.rat,.rat],fuel:=12}])]) (rs:=[178718]) Ua rfl λx=>by kernel_rfl
noncomputable def RV(a:Pc)(b:Pc)(c:Fq):Option Bool:=(Wn c.2.2.2.2.2.2.1 c.2.2.2.2.2.2.2).bind λd=>(dh 1 2).bind λe=>(I1 d e).bind λf=>(Cj).bind λg=>(JV a (g,0,0)).bind λh=>(JV b (c.2.2.2.2.2.1,f)).bind λi=>(qF a.2.2.2.2.2.1 b.2.2.2.2.2.1).bind λj=>(jL j).bind λk=>(sM h i k).bind λl=>some l.2
noncomputable def MX:=zm MW 91 ⟨[dx,dx,fM],.bool,185429857,λx=>RV x.1 x.2.1 x.2.2⟩
theorem t91:ad MX:=ad.next (Γ:=g8) (Hs:=fa []) (rs:=[185429857]) t90 rfl λx=>by kernel_rfl
noncomputable def RL(a:Pc)(b:Pc)(c:Fq):Option Int:=(Rc a b c).bind λd=>if !d then some 5 else(RS a b c).bind λe=>if !e then some 12 else(RT a b c).bind λf=>zk (λg (h:Int)=>if decide (h<f.length)then(ae f h).bind λi=>(m7 i c.2.2.2.2.2.1).bind λj=>if j then if !(decide (0<=h))then some 21 else(RU a b c).bind λk=>if !k.2.2 then some 22 else(Lz k.1 c.2.2.2.2.2.2.1).bind λl=>if !l then some 22 else(Lz k.2.1 c.2.2.2.2.2.2.2).bind λm=>if !m then some 22 else(RV a b c).bind λn=>if !n then some 13 else some 0 else(i64 (h+1)).bind λk=>g k else some 21) (zi 12) 0
noncomputable def Mm:=zm MX 31 ⟨[dx,dx,fM],(.int .i64),185939589,λx=>RL x.1 x.2.1 x.2.2⟩
theorem t31:ad Mm:=ad.next (Γ:=g8) (Hs:=fa [(152,[{frz:=[],cst:=[0,1,7],vars:=[(8,false,[.hole])],objs:=[],own:=[],ts:=[(.int .i64)],fuel:=12}])]) (rs:=[185939589,325,325,27]) t91 rfl λx=>by kernel_rfl
noncomputable def z7(a:List Int):Option Bool:=(z8 a).bind λb=>zk (λc (d:Int)=>if decide (d<b.2.1.length)then(ae b.2.1 d).bind λe=>(ae b.1 e.1).bind λf=>(ae b.1 e.2.1).bind λg=>(RL f g e).bind λh=>if decide (h≠0)then some false else(i64 (d+1)).bind λi=>c i else(app ([]:List Pc) b.1).bind λe=>zk (λf (g:Int×List Pc)=>if decide (g.1<g.2.length)then(ae g.2 g.1).bind λh=>(ae g.2 g.1).bind λi=>(i64 (g.1+1)).bind λj=>f (j,(zM g.2 (Int.toNat g.1) (i.1,i.2.1,i.2.2.1,i.2.2.2.1,i.2.2.2.2.1,0,i.2.2.2.2.2.2)))else(eP g.2 b.2.1).bind λh=>(eP b.1 b.2.1).bind λi=>(fC b.1 b.2.1 b.2.2).bind λj=>if decide (j≠0)then some false else(fC g.2 b.2.1 b.2.2).bind λk=>if decide (k≠0)then some false else if decide (h.2.2≠0)then some false else(Iz h.1 b.2.2).bind λl=>if !l then some false else if decide (i.2.2=13)then(P9).bind λm=>some m else if decide (i.2.2=0)then(fC b.1 b.2.1 i.1).bind λm=>if decide (m=0)then(P9).bind λn=>some n else some false else some false) (zi 12) (0,e)) (zi 12) 0
noncomputable def T7c:=zm Mm 7 ⟨[S3],.bool,24290890211086,λx=>z7 x⟩
theorem t7:ad T7c:=ad.next (Γ:=g8) (Hs:=fa [(7,[{frz:=[],cst:=[3],vars:=[(4,false,[.hole])],objs:=[],own:=[],ts:=[(.int .i64)],fuel:=12},{frz:=[],cst:=[3,6],vars:=[(7,false,[.hole])],objs:=[(2,[.lst])],own:=[],ts:=[(.int .i64),tG],fuel:=12}])]) (rs:=[24290890211086]) t31 rfl λx=>by kernel_rfl
end Go.Proofs.YtocnbjjmmgolfaaGreat
