/- The number packages as plain definitions over digits (printed by znf.py). -/
import Derived.Test.YtocnbjjmmgolfaaGreatA19
set_option linter.unusedSimpArgs false
set_option linter.unusedVariables false
set_option linter.unusedSectionVars false
namespace Go.Proofs.YtocnbjjmmgolfaaGreat
open Go Go.M Go.Proofs.C14
noncomputable section
abbrev dn:Ty:=.sl 3 1 i6
abbrev xf:Ty:=.pair .bool dn
abbrev bg:Ty:=.pair xf xf
def Γn:TypeId->Option Ty:=λt=>cW [(32,xf),(3,i6),(34,bg)] t
theorem cm(H:List (FuncId×List Hi))(rs:List Nat){T:FuncId->Option eQ}{g:FuncId}{ar:List Ty}{τ:Ty}{z:Tp ar->Option τ.T}(a:ad T)(he:∀x,zK Γn T (fa H) rs g ar τ x=z x:=by intro x;kernel_rfl)(b:Ws ar=true:=by rfl):ad (zm T g ⟨ar,τ,fF rs,z⟩):=ad.next a b he
def N0c:FuncId->Option eQ:=λ_=>none
theorem tn0:ad N0c:=ad.nil
def jB(a:Bool)(b:List Int):Option (Bool×List Int):=zk (λc (d:Int)=>if decide (0<d)then(i64 (d-1)).bind λe=>(ae b (max e 0)).bind λf=>if decide (f=0)then(i64 (d-1)).bind λg=>c g else if decide (d=0)then some (false,[])else(qK b 0 d).bind λg=>some (a,g)else if decide (d=0)then some (false,[])else(qK b 0 d).bind λe=>some (a,e)) (zi 6) (b.length:Int)
def CF:=zm N0c 115 ⟨[.bool,dn],xf,8,λx=>jB x.1 x.2⟩
theorem Pj:ad CF:=cm [(115,[hi [] [0,1,4] [(5,false,[.hole])] [] [] [i6] 6])] [8] tn0
def LB(a:Bool×List Int):Option (Bool×List Int):=(jB (!a.1) a.2).bind λb=>some b
def LX:=zm CF 97 ⟨[xf],xf,10,λx=>LB x⟩
theorem Wf:ad LX:=cm [] [10] Pj
def m8(a:Int):Option (Bool×List Int):=zk (λb (c:Int×List Int)=>if decide (c.1≠0)then if 1000000000=0 then none else if decide ((Int.tmod c.1 1000000000)<0)then(i64 (0-(Int.tmod c.1 1000000000))).bind λd=>(app c.2 [d]).bind λe=>if 1000000000=0 then none else(i64 (Int.tdiv c.1 1000000000)).bind λf=>b (f,e)else(app c.2 [(Int.tmod c.1 1000000000)]).bind λd=>if 1000000000=0 then none else(i64 (Int.tdiv c.1 1000000000)).bind λe=>b (e,d)else(jB (decide (a<0)) c.2).bind λd=>some d) (zi 4) (a,[])
def LL:=zm LX 59 ⟨[i6],xf,17,λx=>m8 x⟩
theorem U6:ad LL:=cm [(59,[hi [] [2,4] [(0,false,[.hole]),(3,false,[.own 0])] [] [⟨.s 3,3,1,i6⟩] [i6,dn] 4])] [17] Wf
def Yk(a:List Int)(b:Int):Option Int:=if decide (b<a.length)then(ae a b).bind λc=>some c else some 0
def Df:=zm LL 230 ⟨[dn,i6],i6,1,λx=>Yk x.1 x.2⟩
theorem PN:ad Df:=cm [] [1] U6
def sU(a:List Int)(b:List Int):Option (List Int):=zk (λc (d:Int×Int×List Int)=>if decide (d.2.1<a.length)then(Yk a d.2.1).bind λe=>(Yk b d.2.1).bind λf=>(i64 (e+f)).bind λg=>(i64 (g+d.1)).bind λh=>if 1000000000=0 then none else(app d.2.2 [(Int.tmod h 1000000000)]).bind λi=>if 1000000000=0 then none else(i64 (Int.tdiv h 1000000000)).bind λj=>(i64 (d.2.1+1)).bind λk=>c (j,k,i)else if decide (d.2.1<b.length)then(Yk a d.2.1).bind λe=>(Yk b d.2.1).bind λf=>(i64 (e+f)).bind λg=>(i64 (g+d.1)).bind λh=>if 1000000000=0 then none else(app d.2.2 [(Int.tmod h 1000000000)]).bind λi=>if 1000000000=0 then none else(i64 (Int.tdiv h 1000000000)).bind λj=>(i64 (d.2.1+1)).bind λk=>c (j,k,i)else if decide (0<d.1)then(Yk a d.2.1).bind λe=>(Yk b d.2.1).bind λf=>(i64 (e+f)).bind λg=>(i64 (g+d.1)).bind λh=>if 1000000000=0 then none else(app d.2.2 [(Int.tmod h 1000000000)]).bind λi=>if 1000000000=0 then none else(i64 (Int.tdiv h 1000000000)).bind λj=>(i64 (d.2.1+1)).bind λk=>c (j,k,i)else some d.2.2) (zi 5) (0,0,[])
def CX:=zm Df 168 ⟨[dn,dn],dn,30,λx=>sU x.1 x.2⟩
theorem Px:ad CX:=cm [(168,[hi [] [0,1] [(5,false,[.own 0]),(6,false,[.hole]),(7,false,[.hole])] [] [⟨.s 5,3,1,i6⟩] [i6,i6,dn] 5])] [30] PN
def JU(a:List Int)(b:List Int):Option Int:=if decide ((a.length:Int)<b.length)then some (-1)else if decide ((b.length:Int)<a.length)then some 1 else(i64 ((a.length:Int)-1)).bind λc=>zk (λd (e:Int)=>if decide (0<=e)then(ae a e).bind λf=>(ae b e).bind λg=>if decide (f<g)then some (-1)else(ae a e).bind λh=>(ae b e).bind λi=>if decide (i<h)then some 1 else(i64 (e-1)).bind λj=>d j else some 0) (zi 4) c
def CY:=zm CX 169 ⟨[dn,dn],i6,5,λx=>JU x.1 x.2⟩
theorem Py:ad CY:=cm [(169,[hi [] [0,1] [(5,false,[.hole])] [] [] [i6] 4])] [5] Px
def FL(a:List Int)(b:List Int):Option (List Int):=zk (λc (d:Int×Int×List Int)=>if decide (d.2.1<a.length)then(ae a d.2.1).bind λe=>(Yk b d.2.1).bind λf=>(i64 (e-f)).bind λg=>(i64 (g-d.1)).bind λh=>if decide (h<0)then(i64 (h+1000000000)).bind λi=>(app d.2.2 [i]).bind λj=>(i64 (d.2.1+1)).bind λk=>c (1,k,j)else(app d.2.2 [h]).bind λi=>(i64 (d.2.1+1)).bind λj=>c (0,j,i)else some d.2.2) (zi 4) (0,0,[])
def CZ:=zm CY 170 ⟨[dn,dn],dn,16,λx=>FL x.1 x.2⟩
theorem Pz:ad CZ:=cm [(170,[hi [] [0,1] [(5,false,[.own 0]),(6,false,[.hole]),(7,false,[.hole])] [] [⟨.s 5,3,1,i6⟩] [i6,i6,dn] 4])] [16] Py
def Re(a:Bool×List Int)(b:Bool×List Int):Option (Bool×List Int):=if (a.1==b.1)=true then(sU a.2 b.2).bind λc=>(jB a.1 c).bind λd=>some d else(JU a.2 b.2).bind λc=>if decide (c<0)then(FL b.2 a.2).bind λd=>(jB b.1 d).bind λe=>some e else(FL a.2 b.2).bind λd=>(jB a.1 d).bind λe=>some e
def LW:=zm CZ 96 ⟨[xf,xf],xf,94,λx=>Re x.1 x.2⟩
theorem We:ad LW:=cm [] [94] Pz
def JT(a:List Int):Option Int:=(Yk a 1).bind λb=>(i64 (b*1000000000)).bind λc=>(Yk a 0).bind λd=>(i64 (c+d)).bind λe=>some e
def C5:=zm LW 189 ⟨[dn],i6,2,λx=>JT x⟩
theorem PD:ad C5:=cm [] [2] We
def m9(a:Bool×List Int)(b:Bool×List Int):Option (Bool×List Int):=(i64 ((a.2.length:Int)+b.2.length)).bind λc=>if 0<=c/\c=c/\c<=65536 then zk (λd (e:Int×List Int)=>if decide (e.1<a.2.length)then zk (λf (g:Int×Int×List Int)=>if decide (g.2.1<b.2.length)then(i64 (e.1+g.2.1)).bind λh=>(ae g.2.2 h).bind λi=>(ae g.2.2 h).bind λj=>(ae a.2 e.1).bind λk=>(ae b.2 g.2.1).bind λl=>(i64 (k*l)).bind λm=>(i64 (j+m)).bind λn=>(i64 (n+g.1)).bind λo=>(i64 (e.1+g.2.1)).bind λp=>if 1000000000=0 then none else(ae g.2.2 p).bind λq=>(ae g.2.2 p).bind λr=>if 1000000000=0 then none else(i64 (Int.tdiv o 1000000000)).bind λs=>(i64 (g.2.1+1)).bind λt=>f (s,t,(zM g.2.2 (Int.toNat p) (Int.tmod o 1000000000)))else(i64 (e.1+b.2.length)).bind λh=>(ae g.2.2 h).bind λi=>(ae g.2.2 h).bind λj=>(i64 (e.1+1)).bind λk=>d (k,(zM g.2.2 (Int.toNat h) g.1))) (zi 3) (0,0,e.2)else(jB (!(a.1==b.1)) e.2).bind λf=>some f) (zi 3) (0,(List.replicate (Int.toNat c) (0:Int)))else none
def LU:=zm C5 94 ⟨[xf,xf],xf,29,λx=>m9 x.1 x.2⟩
theorem Wb:ad LU:=cm [(94,[hi [] [2,3,4,5] [(6,false,[.hole])] [(3,[.lst])] [] [i6,dn] 3,hi [] [6] [(7,false,[.hole]),(8,false,[.hole])] [(3,[.lst])] [] [i6,i6,dn] 3])] [29] PD
def Zf(a:List Int)(b:Int):Option (List Int):=(jB false a).bind λc=>(m8 b).bind λd=>(m9 c d).bind λe=>some e.2
def Dg:=zm LU 237 ⟨[dn,i6],dn,55,λx=>Zf x.1 x.2⟩
theorem PO:ad Dg:=cm [] [55] Wb
def sW(a:List Int)(b:List Int):Option (List Int×List Int):=if decide ((a.length:Int)<=2)then if decide ((b.length:Int)<=2)then(JT a).bind λc=>(JT b).bind λd=>if d=0 then none else(i64 (Int.tdiv c d)).bind λe=>(m8 e).bind λf=>(JT a).bind λg=>(JT b).bind λh=>if h=0 then none else(m8 (Int.tmod g h)).bind λi=>some (f.2,i.2)else if 0<=(a.length:Int)/\(a.length:Int)=a.length/\(a.length:Int)<=65536 then(i64 ((a.length:Int)-1)).bind λc=>zk (λd (e:Int)=>if decide (0<=e)then(ae a e).bind λf=>none else some ((List.replicate (Int.toNat (a.length:Int)) (0:Int)),[])) (zi 1) c else none else if 0<=(a.length:Int)/\(a.length:Int)=a.length/\(a.length:Int)<=65536 then(i64 ((a.length:Int)-1)).bind λc=>zk (λd (e:Int)=>if decide (0<=e)then(ae a e).bind λf=>none else some ((List.replicate (Int.toNat (a.length:Int)) (0:Int)),[])) (zi 1) c else none
def C6:=zm Dg 190 ⟨[dn,dn],(.tup dn dn),205,λx=>sW x.1 x.2⟩
theorem PE:ad C6:=cm [(190,[hi [] [0,1,8] [(9,false,[.nil]),(10,false,[.hole])] [] [] [i6] 1,hi [] [] [] [] [] [] 0])] [205] PO
def I4(a:Bool×List Int)(b:Bool×List Int):Option ((Bool×List Int)×(Bool×List Int)):=if decide ((b.2.length:Int)=0)then some ((false,[]),(false,[]))else(sW a.2 b.2).bind λc=>(jB (!(a.1==b.1)) c.1).bind λd=>(jB false c.2).bind λe=>if a.1=true then if decide (0<(e.2.length:Int))then(jB (!(a.1==b.1)) [1]).bind λf=>(Re d f).bind λg=>(FL b.2 e.2).bind λh=>(jB false h).bind λi=>some (g,i)else some (d,e)else some (d,e)
def CD:=zm C6 113 ⟨[xf,xf],(.tup xf xf),356,λx=>I4 x.1 x.2⟩
theorem Pg:ad CD:=cm [] [356] PE
def sC(a:Bool×List Int)(b:Bool×List Int):Option (Bool×List Int):=(jB false a.2).bind λc=>(jB false b.2).bind λd=>zk (λe (f:Bool×Bool×List Int×Bool×List Int)=>if decide (0<(f.2.2.2.2.length:Int))then if decide ((f.2.2.1.length:Int)<=2)then if decide ((f.2.2.2.2.length:Int)<=2)then(JT f.2.2.1).bind λg=>(JT f.2.2.2.2).bind λh=>zk (λi (j:Int×Int)=>if decide (0<j.2)then if j.2=0 then none else i (j.2,(Int.tmod j.1 j.2))else(m8 j.1).bind λk=>some k) (zi 130) (g,h)else(I4 (f.2.1,f.2.2.1) f.2.2.2).bind λg=>e (f.1,f.2.2.2.1,f.2.2.2.2,g.2.1,g.2.2)else(I4 (f.2.1,f.2.2.1) f.2.2.2).bind λg=>e (f.1,f.2.2.2.1,f.2.2.2.2,g.2.1,g.2.2)else some (f.2.1,f.2.2.1)) (zi 2) (false,c.1,c.2,d.1,d.2)
def CC:=zm CD 112 ⟨[xf,xf],xf,785,λx=>sC x.1 x.2⟩
theorem Pf:ad CC:=cm [(112,[hi [] [4,5,6] [] [(2,[.hole,.nil]),(3,[.hole,.hole]),(4,[.hole,.hole])] [] [.bool,.bool,dn,.bool,dn] 2,hi [] [] [(7,false,[.hole]),(8,false,[.hole])] [] [] [i6,i6] 130])] [785] Pg
def FQ(a:Bool×List Int):Option Bool:=if a.1=true then some false else if decide ((a.2.length:Int)≠1)then some false else(ae a.2 0).bind λb=>some (decide (b=1))
def CE:=zm CC 114 ⟨[xf],.bool,2,λx=>FQ x⟩
theorem Ph:ad CE:=cm [] [2] Pf
def Lx(a:Bool×List Int)(b:Bool×List Int):Option ((Bool×List Int)×Bool×List Int):=if decide ((b.2.length:Int)=0)then some ((false,[]),false,[])else if decide ((a.2.length:Int)=0)then some ((false,[]),false,[])else(sC a b).bind λc=>(I4 a c).bind λd=>(I4 b c).bind λe=>if e.1.1=true then(LB d.1).bind λf=>(LB e.1).bind λg=>(FQ g).bind λh=>if h then some (f,false,[])else some (f,g)else(FQ e.1).bind λf=>if f then some (d.1,false,[])else some (d.1,e.1)
def LK:=zm CE 58 ⟨[xf,xf],bg,1529,λx=>Lx x.1 x.2⟩
theorem U5:ad LK:=cm [] [1529] Ph
def Yp(a:Int)(b:Int):Option ((Bool×List Int)×Bool×List Int):=(m8 a).bind λc=>(m8 b).bind λd=>(Lx c d).bind λe=>some e
def LF:=zm LK 20 ⟨[i6,i6],bg,1564,λx=>Yp x.1 x.2⟩
theorem PH:ad LF:=cm [] [1564] U5
def uU(a:Bool)(b:List Int):Option (Bool×List Int):=zk (λc (d:Int)=>if decide (0<d)then(i64 (d-1)).bind λe=>(ae b e).bind λf=>if decide (f=0)then(i64 (d-1)).bind λg=>c g else if decide (d=0)then some (false,[])else if d=d then(qK b 0 d).bind λg=>some (a,g)else none else if decide (d=0)then some (false,[])else if d=d then(qK b 0 d).bind λe=>some (a,e)else none) (zi 6) (b.length:Int)
def CM:=zm LF 141 ⟨[.bool,dn],xf,2,λx=>uU x.1 x.2⟩
theorem Pm:ad CM:=cm [(141,[hi [] [0,1,4] [(5,false,[.hole])] [] [] [i6] 6])] [2] PH
def Wo(a:List Int)(b:List Int):Option (List Int):=if decide ((a.length:Int)<b.length)then(i64 ((b.length:Int)+1)).bind λc=>if 0<=c/\c=c/\c<=65536 then zk (λd (e:Int×Int×List Int)=>if decide (e.2.1<b.length)then(ae b e.2.1).bind λf=>(i64 (f+e.1)).bind λg=>if decide (e.2.1<a.length)then(ae a e.2.1).bind λh=>(i64 (g+h)).bind λi=>if decide (1000000000<=i)then(i64 (i-1000000000)).bind λj=>(ae e.2.2 e.2.1).bind λk=>(ae e.2.2 e.2.1).bind λl=>(i64 (e.2.1+1)).bind λm=>d (1,m,(zM e.2.2 (Int.toNat e.2.1) j))else(ae e.2.2 e.2.1).bind λj=>(ae e.2.2 e.2.1).bind λk=>(i64 (e.2.1+1)).bind λl=>d (0,l,(zM e.2.2 (Int.toNat e.2.1) i))else if decide (1000000000<=g)then(i64 (g-1000000000)).bind λh=>(ae e.2.2 e.2.1).bind λi=>(ae e.2.2 e.2.1).bind λj=>(i64 (e.2.1+1)).bind λk=>d (1,k,(zM e.2.2 (Int.toNat e.2.1) h))else(ae e.2.2 e.2.1).bind λh=>(ae e.2.2 e.2.1).bind λi=>(i64 (e.2.1+1)).bind λj=>d (0,j,(zM e.2.2 (Int.toNat e.2.1) g))else(ae e.2.2 (b.length:Int)).bind λf=>(ae e.2.2 (b.length:Int)).bind λg=>some (zM e.2.2 (Int.toNat (b.length:Int)) e.1)) (zi 4) (0,0,(List.replicate (Int.toNat c) (0:Int)))else none else(i64 ((a.length:Int)+1)).bind λc=>if 0<=c/\c=c/\c<=65536 then zk (λd (e:Int×Int×List Int)=>if decide (e.2.1<a.length)then(ae a e.2.1).bind λf=>(i64 (f+e.1)).bind λg=>if decide (e.2.1<b.length)then(ae b e.2.1).bind λh=>(i64 (g+h)).bind λi=>if decide (1000000000<=i)then(i64 (i-1000000000)).bind λj=>(ae e.2.2 e.2.1).bind λk=>(ae e.2.2 e.2.1).bind λl=>(i64 (e.2.1+1)).bind λm=>d (1,m,(zM e.2.2 (Int.toNat e.2.1) j))else(ae e.2.2 e.2.1).bind λj=>(ae e.2.2 e.2.1).bind λk=>(i64 (e.2.1+1)).bind λl=>d (0,l,(zM e.2.2 (Int.toNat e.2.1) i))else if decide (1000000000<=g)then(i64 (g-1000000000)).bind λh=>(ae e.2.2 e.2.1).bind λi=>(ae e.2.2 e.2.1).bind λj=>(i64 (e.2.1+1)).bind λk=>d (1,k,(zM e.2.2 (Int.toNat e.2.1) h))else(ae e.2.2 e.2.1).bind λh=>(ae e.2.2 e.2.1).bind λi=>(i64 (e.2.1+1)).bind λj=>d (0,j,(zM e.2.2 (Int.toNat e.2.1) g))else(ae e.2.2 (a.length:Int)).bind λf=>(ae e.2.2 (a.length:Int)).bind λg=>some (zM e.2.2 (Int.toNat (a.length:Int)) e.1)) (zi 4) (0,0,(List.replicate (Int.toNat c) (0:Int)))else none
def CN:=zm CM 142 ⟨[dn,dn],dn,10,λx=>Wo x.1 x.2⟩
set_option maxRecDepth 100000 in
theorem Pn:ad CN:=cm [(142,[hi [] [0,1,5,21,22] [(6,false,[.hole]),(23,false,[.hole])] [(0,[.lst])] [] [i6,i6,dn] 4])] [10] Pm
def Xc(a:List Int)(b:List Int):Option Int:=if decide ((a.length:Int)≠(b.length:Int))then if decide ((a.length:Int)≠(a.length:Int))then if decide ((b.length:Int)≠(b.length:Int))then some 0 else some (-1)else if decide ((b.length:Int)≠(b.length:Int))then some 1 else if decide ((a.length:Int)<b.length)then some (-1)else if decide ((b.length:Int)<a.length)then some 1 else some 0 else(i64 ((a.length:Int)-1)).bind λc=>zk (λd (e:Int)=>if decide (0<=e)then(ae a e).bind λf=>(ae b e).bind λg=>if decide (f≠g)then(ae a e).bind λh=>(ae b e).bind λi=>if decide (h≠h)then if decide (i≠i)then some 0 else some (-1)else if decide (i≠i)then some 1 else if decide (h<i)then some (-1)else if decide (i<h)then some 1 else some 0 else(i64 (e-1)).bind λh=>d h else some 0) (zi 4) c
def CO:=zm CN 143 ⟨[dn,dn],i6,5,λx=>Xc x.1 x.2⟩
theorem Po:ad CO:=cm [(143,[hi [] [0,1] [(5,false,[.hole])] [] [] [i6] 4])] [5,0,0] Pn
def FO(a:List Int)(b:List Int):Option (List Int):=if 0<=(a.length:Int)/\(a.length:Int)=a.length/\(a.length:Int)<=65536 then if (List.replicate (Int.toNat (a.length:Int)) (0:Int)).length=a.length/\0<a.length then zk (λc (d:Int×List Int)=>if decide (d.1<a.length)then if decide (d.1<b.length)then(ae d.2 d.1).bind λe=>(ae d.2 d.1).bind λf=>(ae b d.1).bind λg=>(i64 (f-g)).bind λh=>(ae d.2 d.1).bind λi=>(ae d.2 d.1).bind λj=>(ae (zM d.2 (Int.toNat d.1) h) d.1).bind λk=>(ae (zM d.2 (Int.toNat d.1) h) d.1).bind λl=>if decide (l<0)then(ae (zM d.2 (Int.toNat d.1) h) d.1).bind λm=>(ae (zM d.2 (Int.toNat d.1) h) d.1).bind λn=>(i64 (n+1000000000)).bind λo=>(ae (zM d.2 (Int.toNat d.1) h) d.1).bind λp=>(ae (zM d.2 (Int.toNat d.1) h) d.1).bind λq=>(i64 (d.1+1)).bind λr=>(ae (zM (zM d.2 (Int.toNat d.1) h) (Int.toNat d.1) o) r).bind λs=>(ae (zM (zM d.2 (Int.toNat d.1) h) (Int.toNat d.1) o) r).bind λt=>(i64 (t-1)).bind λu=>(ae (zM (zM d.2 (Int.toNat d.1) h) (Int.toNat d.1) o) r).bind λv=>(ae (zM (zM d.2 (Int.toNat d.1) h) (Int.toNat d.1) o) r).bind λw=>(i64 (d.1+1)).bind λx=>c (x,(zM (zM (zM d.2 (Int.toNat d.1) h) (Int.toNat d.1) o) (Int.toNat r) u))else(i64 (d.1+1)).bind λm=>c (m,(zM d.2 (Int.toNat d.1) h))else(ae d.2 d.1).bind λe=>(ae d.2 d.1).bind λf=>if decide (f<0)then(ae d.2 d.1).bind λg=>(ae d.2 d.1).bind λh=>(i64 (h+1000000000)).bind λi=>(ae d.2 d.1).bind λj=>(ae d.2 d.1).bind λk=>(i64 (d.1+1)).bind λl=>(ae (zM d.2 (Int.toNat d.1) i) l).bind λm=>(ae (zM d.2 (Int.toNat d.1) i) l).bind λn=>(i64 (n-1)).bind λo=>(ae (zM d.2 (Int.toNat d.1) i) l).bind λp=>(ae (zM d.2 (Int.toNat d.1) i) l).bind λq=>(i64 (d.1+1)).bind λr=>c (r,(zM (zM d.2 (Int.toNat d.1) i) (Int.toNat l) o))else(i64 (d.1+1)).bind λg=>c (g,d.2)else some d.2) (zi 4) (0,a)else none else none
def CP:=zm CO 144 ⟨[dn,dn],dn,8,λx=>FO x.1 x.2⟩
theorem Pp:ad CP:=cm [(144,[hi [] [1,5,14] [(15,false,[.hole])] [(0,[.lst])] [] [i6,dn] 4])] [8] Po
def LA(a:Bool×List Int)(b:Bool×List Int):Option (Bool×List Int):=if (a.1==b.1)=true then(Wo a.2 b.2).bind λc=>(uU a.1 c).bind λd=>some d else(Xc a.2 b.2).bind λc=>if decide (c<0)then(FO b.2 a.2).bind λd=>(uU b.1 d).bind λe=>some e else(FO a.2 b.2).bind λd=>(uU a.1 d).bind λe=>some e
def LO:=zm CP 81 ⟨[xf,xf],xf,40,λx=>LA x.1 x.2⟩
theorem U7:ad LO:=cm [] [40] Pp
def Q9(a:Bool)(b:Int):Option (Bool×List Int):=if decide (b=0)then some (false,[])else if decide (b<1000000000)then(i64 b).bind λc=>some (a,[c])else if decide (b<1000000000000000000)then if 1000000000=0 then none else(i64 (Int.tmod b 1000000000)).bind λc=>if 1000000000=0 then none else(uZ (Int.tdiv b 1000000000)).bind λd=>(i64 d).bind λe=>some (a,[c,e])else if 1000000000=0 then none else(i64 (Int.tmod b 1000000000)).bind λc=>if 1000000000=0 then none else(uZ (Int.tdiv b 1000000000)).bind λd=>if 1000000000=0 then none else(i64 (Int.tmod d 1000000000)).bind λe=>if 1000000000=0 then none else(uZ (Int.tdiv b 1000000000)).bind λf=>if 1000000000=0 then none else(uZ (Int.tdiv f 1000000000)).bind λg=>(i64 g).bind λh=>some (a,[c,e,h])
def CV:=zm LO 150 ⟨[.bool,(.int .u64)],xf,4,λx=>Q9 x.1 x.2⟩
theorem Pw:ad CV:=cm [] [4] U7
def Wm(a:Int):Option (Bool×List Int):=if decide (a<0)then(Q9 (decide (a<0)) ((0-(a % 18446744073709551616)) % 18446744073709551616)).bind λb=>some b else(Q9 (decide (a<0)) (a % 18446744073709551616)).bind λb=>some b
def C9:=zm CV 197 ⟨[i6],xf,5,λx=>Wm x⟩
theorem PG:ad C9:=cm [] [5] Pw
def B1:Option (Bool×List Int):=((Wm 1).bind λr1=>some r1)
def CQ:=zm C9 145 ⟨[],xf,6,λx=>B1⟩
theorem Pq:ad CQ:=cm [] [6] PG
def fW(a:(Bool×List Int)×Bool×List Int):Option (Bool×List Int):=if decide ((a.2.2.length:Int)=0)then(B1).bind λb=>some b else some a.2
def LP:=zm CQ 82 ⟨[bg],xf,9,λx=>fW x⟩
theorem U8:ad LP:=cm [] [9] Pq
def IX(a:List Int):Option (Int×Bool):=if decide ((a.length:Int)=0)then some (0,true)else if decide ((a.length:Int)=1)then(ae a 0).bind λb=>some (b,true)else if decide ((a.length:Int)=2)then(ae a 1).bind λb=>(i64 (b*1000000000)).bind λc=>(ae a 0).bind λd=>(i64 (c+d)).bind λe=>some (e,true)else some (0,false)
def Dc:=zm LP 216 ⟨[dn],(.tup i6 .bool),1,λx=>IX x⟩
theorem PK:ad Dc:=cm [] [1] U8
def IV(a:List Int)(b:List Int):Option ((Bool×List Int)×(Bool×List Int)):=(IX a).bind λc=>if c.2=true then(IX b).bind λd=>if d.2=true then if d.1=0 then none else(i64 (Int.tdiv c.1 d.1)).bind λe=>if d.1=0 then none else(Q9 false (e % 18446744073709551616)).bind λf=>(Q9 false ((Int.tmod c.1 d.1) % 18446744073709551616)).bind λg=>some (f,g)else(Xc a b).bind λe=>if decide (e<0)then(uU false a).bind λf=>some ((false,[]),f)else if decide ((b.length:Int)=1)then(ae b 0).bind λf=>none else none else(Xc a b).bind λd=>if decide (d<0)then(uU false a).bind λe=>some ((false,[]),e)else if decide ((b.length:Int)=1)then(ae b 0).bind λe=>none else none
def Dd:=zm Dc 217 ⟨[dn,dn],(.tup xf xf),30,λx=>IV x.1 x.2⟩
theorem PL:ad Dd:=cm [] [30] PK
def sI(a:Bool×List Int)(b:Bool×List Int):Option (Bool×List Int):=(uU false a.2).bind λc=>(uU false b.2).bind λd=>zk (λe (f:Bool×Bool×List Int×Bool×List Int)=>if decide (0<(f.2.2.2.2.length:Int))then(IX f.2.2.1).bind λg=>(IX f.2.2.2.2).bind λh=>if g.2=true then if h.2=true then zk (λi (j:Int×Int)=>if decide (0<j.2)then if j.2=0 then none else i (j.2,(Int.tmod j.1 j.2))else(Q9 false (j.1 % 18446744073709551616)).bind λk=>some k) (zi 130) (g.1,h.1)else(IV f.2.2.1 f.2.2.2.2).bind λi=>e (f.1,f.2.2.2.1,f.2.2.2.2,i.2.1,i.2.2)else(IV f.2.2.1 f.2.2.2.2).bind λi=>e (f.1,f.2.2.2.1,f.2.2.2.2,i.2.1,i.2.2)else some (f.2.1,f.2.2.1)) (zi 2) (false,c.1,c.2,d.1,d.2)
def CR:=zm Dd 146 ⟨[xf,xf],xf,87,λx=>sI x.1 x.2⟩
theorem Pr:ad CR:=cm [(146,[hi [] [4,5,6] [] [(2,[.hole,.nil]),(3,[.hole,.hole]),(4,[.hole,.hole])] [] [.bool,.bool,dn,.bool,dn] 2,hi [] [] [(7,false,[.hole]),(9,false,[.hole])] [] [] [i6,i6] 130])] [87] PL
def JY(a:Bool×List Int):Option Bool:=if !a.1 then if decide ((a.2.length:Int)=1)then(ae a.2 0).bind λb=>some (decide (b=1))else some false else some false
def CS:=zm CR 147 ⟨[xf],.bool,2,λx=>JY x⟩
theorem Ps:ad CS:=cm [] [2] Pr
def sJ(a:Bool×List Int)(b:Bool×List Int):Option ((Bool×List Int)×(Bool×List Int)):=if decide ((b.2.length:Int)=0)then some ((false,[]),(false,[]))else(IV a.2 b.2).bind λc=>if a.1=true then if decide (0<(c.2.2.length:Int))then(Wo c.1.2 [1]).bind λd=>(uU false d).bind λe=>(FO b.2 c.2.2).bind λf=>(uU false f).bind λg=>if !(a.1==b.1)then some (((decide (0<(e.2.length:Int))),e.2),g)else some ((false,e.2),g)else if !(a.1==b.1)then some (((decide (0<(c.1.2.length:Int))),c.1.2),c.2)else some ((false,c.1.2),c.2)else if !(a.1==b.1)then some (((decide (0<(c.1.2.length:Int))),c.1.2),c.2)else some ((false,c.1.2),c.2)
def CT:=zm CS 148 ⟨[xf,xf],(.tup xf xf),62,λx=>sJ x.1 x.2⟩
theorem Pt:ad CT:=cm [] [62] Ps
def mS(a0:Bool×List Int):Option (Bool×List Int):=(if (!a0.1)=true then some ((decide (0<(a0.2.length:Int))),a0.2)else some (false,a0.2))
def Db:=zm CT 214 ⟨[xf],xf,3,λx=>mS x⟩
theorem PJ:ad Db:=cm [] [3] Pt
def FN(a:Bool×List Int)(b:Bool×List Int):Option ((Bool×List Int)×Bool×List Int):=if b.1=true then(mS a).bind λc=>(mS b).bind λd=>(JY d).bind λe=>if e then some (c,false,[])else some (c,d)else(JY b).bind λc=>if c then some (a,false,[])else some (a,b)
def CU:=zm Db 149 ⟨[xf,xf],bg,11,λx=>FN x.1 x.2⟩
theorem Pu:ad CU:=cm [] [11] PJ
def tO(a:Bool×List Int)(b:Bool×List Int):Option ((Bool×List Int)×Bool×List Int):=if decide ((b.2.length:Int)=0)then some ((false,[]),false,[])else if decide ((a.2.length:Int)=0)then some ((false,[]),false,[])else(sI a b).bind λc=>(JY c).bind λd=>if !d then(sJ a c).bind λe=>(sJ b c).bind λf=>(FN e.1 f.1).bind λg=>some g else(FN a b).bind λe=>some e
def LQ:=zm CU 83 ⟨[xf,xf],bg,230,λx=>tO x.1 x.2⟩
theorem U9:ad LQ:=cm [] [230] Pu
def gy(a:Bool×List Int)(b:Bool×List Int):Option (Bool×List Int):=if decide ((a.2.length:Int)=1)then if decide ((b.2.length:Int)=1)then(ae a.2 0).bind λc=>(ae b.2 0).bind λd=>(uZ ((c % 18446744073709551616)*(d % 18446744073709551616))).bind λe=>(Q9 (!(a.1==b.1)) e).bind λf=>some f else(i64 ((a.2.length:Int)+b.2.length)).bind λc=>if 0<=c/\c=c/\c<=65536 then zk (λd (e:Int×List Int)=>if decide (e.1<a.2.length)then(ae a.2 e.1).bind λf=>zk (λg (h:Int×Int×List Int)=>if decide (h.2.1<b.2.length)then(ae b.2 h.2.1).bind λi=>(i64 (e.1+h.2.1)).bind λj=>(ae h.2.2 j).bind λk=>(ae h.2.2 j).bind λl=>(i64 (f*i)).bind λm=>(i64 (l+m)).bind λn=>(i64 (n+h.1)).bind λo=>if 1000000000=0 then none else(i64 (Int.tdiv o 1000000000)).bind λp=>(i64 (e.1+h.2.1)).bind λq=>(i64 (p*1000000000)).bind λr=>(i64 (o-r)).bind λs=>(ae h.2.2 q).bind λt=>(ae h.2.2 q).bind λu=>(i64 (h.2.1+1)).bind λv=>g (p,v,(zM h.2.2 (Int.toNat q) s))else(i64 (e.1+b.2.length)).bind λi=>(ae h.2.2 i).bind λj=>(ae h.2.2 i).bind λk=>(i64 (e.1+1)).bind λl=>d (l,(zM h.2.2 (Int.toNat i) h.1))) (zi 3) (0,0,e.2)else(uU (!(a.1==b.1)) e.2).bind λf=>some f) (zi 3) (0,(List.replicate (Int.toNat c) (0:Int)))else none else(i64 ((a.2.length:Int)+b.2.length)).bind λc=>if 0<=c/\c=c/\c<=65536 then zk (λd (e:Int×List Int)=>if decide (e.1<a.2.length)then(ae a.2 e.1).bind λf=>zk (λg (h:Int×Int×List Int)=>if decide (h.2.1<b.2.length)then(ae b.2 h.2.1).bind λi=>(i64 (e.1+h.2.1)).bind λj=>(ae h.2.2 j).bind λk=>(ae h.2.2 j).bind λl=>(i64 (f*i)).bind λm=>(i64 (l+m)).bind λn=>(i64 (n+h.1)).bind λo=>if 1000000000=0 then none else(i64 (Int.tdiv o 1000000000)).bind λp=>(i64 (e.1+h.2.1)).bind λq=>(i64 (p*1000000000)).bind λr=>(i64 (o-r)).bind λs=>(ae h.2.2 q).bind λt=>(ae h.2.2 q).bind λu=>(i64 (h.2.1+1)).bind λv=>g (p,v,(zM h.2.2 (Int.toNat q) s))else(i64 (e.1+b.2.length)).bind λi=>(ae h.2.2 i).bind λj=>(ae h.2.2 i).bind λk=>(i64 (e.1+1)).bind λl=>d (l,(zM h.2.2 (Int.toNat i) h.1))) (zi 3) (0,0,e.2)else(uU (!(a.1==b.1)) e.2).bind λf=>some f) (zi 3) (0,(List.replicate (Int.toNat c) (0:Int)))else none
def LR:=zm LQ 84 ⟨[xf,xf],xf,21,λx=>gy x.1 x.2⟩
theorem Wa:ad LR:=cm [(84,[hi [] [2,3,4,6,7,47,48] [(49,false,[.hole])] [(3,[.lst])] [] [i6,dn] 3,hi [] [8,9,49,54,55] [(10,false,[.hole]),(56,false,[.hole])] [(3,[.lst])] [] [i6,i6,dn] 3])] [21] U9
def RK(a:(Bool×List Int)×Bool×List Int)(b:(Bool×List Int)×Bool×List Int):Option ((Bool×List Int)×Bool×List Int):=if decide ((a.2.2.length:Int)=0)then if decide ((b.2.2.length:Int)=0)then(LA a.1 b.1).bind λc=>some (c,false,[])else if decide ((a.1.2.length:Int)=0)then some b else if decide ((b.1.2.length:Int)=0)then some a else(fW a).bind λc=>(fW b).bind λd=>(gy a.1 d).bind λe=>(gy b.1 c).bind λf=>(LA e f).bind λg=>(gy c d).bind λh=>(tO g h).bind λi=>some i else if decide ((a.1.2.length:Int)=0)then some b else if decide ((b.1.2.length:Int)=0)then some a else(fW a).bind λc=>(fW b).bind λd=>(gy a.1 d).bind λe=>(gy b.1 c).bind λf=>(LA e f).bind λg=>(gy c d).bind λh=>(tO g h).bind λi=>some i
def LH:=zm LR 30 ⟨[bg,bg],bg,400,λx=>RK x.1 x.2⟩
theorem PU:ad LH:=cm [] [400] Wa
def tC(a:(Bool×List Int)×Bool×List Int):Option (Bool×List Int):=if decide ((a.2.2.length:Int)=0)then(m8 1).bind λb=>some b else some a.2
def LV:=zm LH 95 ⟨[bg],xf,20,λx=>tC x⟩
theorem Wc:ad LV:=cm [] [20] PU
def RN(a:(Bool×List Int)×Bool×List Int)(b:(Bool×List Int)×Bool×List Int):Option ((Bool×List Int)×Bool×List Int):=(tC b).bind λc=>(m9 a.1 c).bind λd=>(tC a).bind λe=>(m9 b.1 e).bind λf=>(Re d f).bind λg=>(tC a).bind λh=>(tC b).bind λi=>(m9 h i).bind λj=>(Lx g j).bind λk=>some k
def LI:=zm LV 36 ⟨[bg,bg],bg,1795,λx=>RN x.1 x.2⟩
theorem PV:ad LI:=cm [] [1795] Wc
def RO(a:(Bool×List Int)×Bool×List Int):Option ((Bool×List Int)×Bool×List Int):=(LB a.1).bind λb=>some (b,a.2)
def LJ:=zm LI 38 ⟨[bg],bg,12,λx=>RO x⟩
theorem PW:ad LJ:=cm [] [12] PV
def B0(a:(Bool×List Int)×Bool×List Int):Option ((Bool×List Int)×Bool×List Int):=(mS a.1).bind λb=>some (b,a.2)
def CK:=zm LJ 139 ⟨[bg],bg,5,λx=>B0 x⟩
theorem Fz:ad CK:=cm [] [5] PW
def Zi(a:(Bool×List Int)×Bool×List Int)(b:(Bool×List Int)×Bool×List Int):Option ((Bool×List Int)×Bool×List Int):=(B0 b).bind λc=>(RK a c).bind λd=>some d
def LM:=zm CK 79 ⟨[bg,bg],bg,408,λx=>Zi x.1 x.2⟩
theorem PX:ad LM:=cm [] [408] Fz
def tc(a:Bool×List Int)(b:Bool×List Int):Option Int:=if !(a.1==b.1)then if a.1=true then some (-1)else some 1 else if a.1=true then(JU b.2 a.2).bind λc=>some c else(JU a.2 b.2).bind λc=>some c
def Da:=zm LM 207 ⟨[xf,xf],i6,12,λx=>tc x.1 x.2⟩
theorem PI:ad Da:=cm [] [12] PX
def Is(a:Bool×List Int):Option Int:=(tc a (false,[])).bind λb=>some b
def CL:=zm Da 140 ⟨[xf],i6,13,λx=>Is x⟩
theorem Pk:ad CL:=cm [] [13] PI
def z80(a:(Bool×List Int)×Bool×List Int):Option Int:=(Is a.1).bind λb=>some b
def LN:=zm CL 80 ⟨[bg],i6,14,λx=>z80 x⟩
theorem PY:ad LN:=cm [] [14] Pk
def z98(a:(Bool×List Int)×Bool×List Int)(b:(Bool×List Int)×Bool×List Int):Option ((Bool×List Int)×Bool×List Int):=(RO b).bind λc=>(RN a c).bind λd=>some d
def LY:=zm LN 98 ⟨[bg,bg],bg,1810,λx=>z98 x.1 x.2⟩
theorem PZ:ad LY:=cm [] [1810] PY
def z99(a:(Bool×List Int)×Bool×List Int)(b:(Bool×List Int)×Bool×List Int):Option ((Bool×List Int)×Bool×List Int):=(m9 a.1 b.1).bind λc=>(tC a).bind λd=>(tC b).bind λe=>(m9 d e).bind λf=>(Lx c f).bind λg=>some g
def LZ:=zm LY 99 ⟨[bg,bg],bg,1630,λx=>z99 x.1 x.2⟩
theorem P0:ad LZ:=cm [] [1630] PZ
def I0(a:Bool×List Int)(b:Bool×List Int):Option Bool:=if (a.1==b.1)=true then if decide ((a.2.length:Int)≠(b.2.length:Int))then some false else zk (λc (d:Int)=>if decide (d<a.2.length)then(ae a.2 d).bind λe=>(ae b.2 d).bind λf=>if decide (e≠f)then some false else(i64 (d+1)).bind λg=>c g else some true) (zi 12) 0 else some false
def C1:=zm LZ 174 ⟨[xf,xf],.bool,5,λx=>I0 x.1 x.2⟩
theorem PA:ad C1:=cm [(175,[hi [] [0,1,12] [(13,false,[.hole])] [] [] [i6] 12])] [5,3] P0
def Ih(a:(Bool×List Int)×Bool×List Int)(b:(Bool×List Int)×Bool×List Int):Option Bool:=(I0 a.1 b.1).bind λc=>if c then(I0 a.2 b.2).bind λd=>some d else some false
def Cz:=zm C1 106 ⟨[bg,bg],.bool,12,λx=>Ih x.1 x.2⟩
theorem Fs:ad Cz:=cm [] [12,5] PA
def IZ(a:Bool×List Int)(b:Bool×List Int):Option Bool:=if !(a.1==b.1)then some false else if decide ((a.2.length:Int)≠(b.2.length:Int))then some false else zk (λc (d:Int)=>if decide (d<a.2.length)then(ae a.2 d).bind λe=>(ae b.2 d).bind λf=>if decide (e≠f)then some false else(i64 (d+1)).bind λg=>c g else some true) (zi 4) 0
def C3:=zm Cz 187 ⟨[xf,xf],.bool,8,λx=>IZ x.1 x.2⟩
theorem PB:ad C3:=cm [(187,[hi [] [2,3] [(5,false,[.hole])] [] [] [i6] 4])] [8] Fs
def Ii(a:(Bool×List Int)×Bool×List Int)(b:(Bool×List Int)×Bool×List Int):Option Bool:=(IZ a.1 b.1).bind λc=>if c then(IZ a.2 b.2).bind λd=>some d else some false
def CA:=zm C3 109 ⟨[bg,bg],.bool,18,λx=>Ii x.1 x.2⟩
theorem Ft:ad CA:=cm [] [18] PB
def mN(a:Bool×List Int):Option Bool:=zk (λb (c:Int)=>if decide (c<a.2.length)then(ae a.2 c).bind λd=>if decide (d<0)then some false else(ae a.2 c).bind λe=>if decide (1000000000<=e)then some false else(i64 (c+1)).bind λf=>b f else if decide ((a.2.length:Int)=0)then some (!a.1)else(i64 ((a.2.length:Int)-1)).bind λd=>(ae a.2 d).bind λe=>some (decide (e≠0))) (zi 4) 0
def C4:=zm CA 188 ⟨[xf],.bool,7,λx=>mN x⟩
theorem PC:ad C4:=cm [(188,[hi [] [1] [(3,false,[.hole])] [] [] [i6] 4])] [7] Ft
def Ik(a:(Bool×List Int)×Bool×List Int):Option Bool:=(mN a.1).bind λb=>if !b then some false else(mN a.2).bind λc=>if !c then some false else if a.2.1=true then some false else(FQ a.2).bind λd=>if d then some false else if decide ((a.2.2.length:Int)=0)then some true else(sC a.1 a.2).bind λe=>(FQ e).bind λf=>some f
def CB:=zm C4 110 ⟨[bg],.bool,805,λx=>Ik x⟩
theorem Fu:ad CB:=cm [] [805] PC
def Iw(a0:Int):Option Bool:=(if (decide (a0<0))=true then some true else some (decide (1000000000<=a0)))
def Di:=zm CB 245 ⟨[i6],.bool,0,λx=>Iw x⟩
theorem PS:ad Di:=cm [] [0] Fu
def mP(a:Bool×List Int):Option Bool:=zk (λb (c:Int)=>if decide (c<a.2.length)then(ae a.2 c).bind λd=>(Iw d).bind λe=>if e then if decide (0<=c)then some false else if decide ((a.2.length:Int)=0)then if !a.1 then some true else if decide (0<(a.2.length:Int))then(i64 ((a.2.length:Int)-1)).bind λf=>(ae a.2 f).bind λg=>some (decide (g≠0))else some false else if decide (0<(a.2.length:Int))then(i64 ((a.2.length:Int)-1)).bind λf=>(ae a.2 f).bind λg=>some (decide (g≠0))else some false else(i64 (c+1)).bind λf=>b f else if decide ((a.2.length:Int)=0)then if !a.1 then some true else if decide (0<(a.2.length:Int))then(i64 ((a.2.length:Int)-1)).bind λd=>(ae a.2 d).bind λe=>some (decide (e≠0))else some false else if decide (0<(a.2.length:Int))then(i64 ((a.2.length:Int)-1)).bind λd=>(ae a.2 d).bind λe=>some (decide (e≠0))else some false) (zi 4) 0
def C8:=zm Di 196 ⟨[xf],.bool,5,λx=>mP x⟩
theorem PF:ad C8:=cm [(269,[hi [] [0,1,7] [(8,false,[.hole])] [] [] [i6] 4])] [5,1,1,0] PS
def Im(a:(Bool×List Int)×Bool×List Int):Option Bool:=(mP a.1).bind λb=>if !b then some false else(mP a.2).bind λc=>if !c then some false else if a.2.1=true then some false else(JY a.2).bind λd=>if d then some false else if decide ((a.2.2.length:Int)=0)then some true else(sI a.1 a.2).bind λe=>(JY e).bind λf=>some f
def CG:=zm C8 120 ⟨[bg],.bool,103,λx=>Im x⟩
theorem Fv:ad CG:=cm [] [103] PF
def BX(a:(Bool×List Int)×Bool×List Int)(b:(Bool×List Int)×Bool×List Int):Option ((Bool×List Int)×Bool×List Int):=if decide ((a.1.2.length:Int)=0)then some ((false,[]),false,[])else if decide ((b.1.2.length:Int)=0)then some ((false,[]),false,[])else if decide ((a.2.2.length:Int)=0)then if decide ((b.2.2.length:Int)=0)then(gy a.1 b.1).bind λc=>some (c,false,[])else(fW b).bind λc=>(tO a.1 c).bind λd=>(fW a).bind λe=>(tO b.1 e).bind λf=>(gy d.1 f.1).bind λg=>(fW d).bind λh=>(fW f).bind λi=>(gy h i).bind λj=>(FN g j).bind λk=>some k else(fW b).bind λc=>(tO a.1 c).bind λd=>(fW a).bind λe=>(tO b.1 e).bind λf=>(gy d.1 f.1).bind λg=>(fW d).bind λh=>(fW f).bind λi=>(gy h i).bind λj=>(FN g j).bind λk=>some k
def CH:=zm CG 122 ⟨[bg,bg],bg,579,λx=>BX x.1 x.2⟩
theorem Fw:ad CH:=cm [] [579] Fv
def Io(a:Int)(b:Int):Option ((Bool×List Int)×Bool×List Int):=(Wm a).bind λc=>(Wm b).bind λd=>(tO c d).bind λe=>some e
def CI:=zm CH 123 ⟨[i6,i6],bg,241,λx=>Io x.1 x.2⟩
theorem Fx:ad CI:=cm [] [241] Fw
def Ir(a:(Bool×List Int)×Bool×List Int)(b:(Bool×List Int)×Bool×List Int):Option Int:=(tC b).bind λc=>(m9 a.1 c).bind λd=>(tC a).bind λe=>(m9 b.1 e).bind λf=>(tc d f).bind λg=>some g
def CJ:=zm CI 135 ⟨[bg,bg],i6,112,λx=>Ir x.1 x.2⟩
theorem Fy:ad CJ:=cm [] [112] Fx
def Iv(a0:Bool×List Int):Option Int:=(if a0.1=true then some (-1)else(if (decide ((a0.2.length:Int)=0))=true then some 0 else some 1))
def Dh:=zm CJ 239 ⟨[xf],i6,2,λx=>Iv x⟩
theorem PQ:ad Dh:=cm [] [2] Fy
def sX(a:(Bool×List Int)×Bool×List Int):Option Int:=(Iv a.1).bind λb=>some b
def C7:=zm Dh 193 ⟨[bg],i6,3,λx=>sX x⟩
theorem FB:ad C7:=cm [] [3] PQ
def mT(a:Bool×List Int)(b:Bool×List Int):Option Int:=if !(a.1==b.1)then if a.1=true then some (-1)else if !(a.1==b.1)then some 1 else if a.1=true then(Xc b.2 a.2).bind λc=>some c else(Xc a.2 b.2).bind λc=>some c else if !(a.1==b.1)then some 1 else if a.1=true then(Xc b.2 a.2).bind λc=>some c else(Xc a.2 b.2).bind λc=>some c
def De:=zm C7 221 ⟨[xf,xf],i6,12,λx=>mT x.1 x.2⟩
theorem PM:ad De:=cm [] [12] FB
def It(a:(Bool×List Int)×Bool×List Int)(b:(Bool×List Int)×Bool×List Int):Option Int:=(sX a).bind λc=>(sX b).bind λd=>if decide (c≠d)then(Wm c).bind λe=>(Wm d).bind λf=>(mT e f).bind λg=>some g else if decide (c=0)then(Wm c).bind λe=>(Wm d).bind λf=>(mT e f).bind λg=>some g else(fW b).bind λe=>(gy a.1 e).bind λf=>(fW a).bind λg=>(gy b.1 g).bind λh=>(mT f h).bind λi=>some i
def CW:=zm De 159 ⟨[bg,bg],i6,102,λx=>It x.1 x.2⟩
theorem FA:ad CW:=cm [] [102] PM
end
end Go.Proofs.YtocnbjjmmgolfaaGreat
