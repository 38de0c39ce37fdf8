/- Functions as plain definitions (printed by spc.py). -/
import Derived.Test.YtocnbjjmmgolfaaGreatA24
set_option linter.unusedSimpArgs false
set_option linter.unusedVariables false
set_option linter.unusedSectionVars false
namespace Go.Proofs.YtocnbjjmmgolfaaGreat
open Go Go.M Go.Proofs.C14
noncomputable section
def Wn(a:Rat×Rat)(b:Rat×Rat):Option V:=(qF a.1 b.1).bind λc=>(qF a.2 b.2).bind λd=>some (c,d)
def DQ:=zm EB 158 ⟨[bw,bw],bw,803,λx=>Wn x.1 x.2⟩
theorem Ub:ad DQ:=cn [] [803] US
def tz(a:Pl)(b:Rat×Rat):Option V:=(FP a.1 b).bind λc=>(Wn c a.2).bind λd=>some d
def EC:=zm DQ 264 ⟨[hZ,bw],bw,25525,λx=>tz x.1 x.2⟩
theorem UT:ad EC:=cn [] [25525,12761] Ub
def IU(a:Pl)(b:List V):Option (List V):=zk (λc (d:Int×List V)=>if decide (d.1<b.length)then(ae b d.1).bind λe=>(tz a e).bind λf=>(app d.2 [f]).bind λg=>(i64 (d.1+1)).bind λh=>c (h,g)else some d.2) (zi 12) (0,[])
def Ej:=zm EC 225 ⟨[hZ,dz],dz,306338,λx=>IU x.1 x.2⟩
theorem UC:ad Ej:=cn [(225,[hi [] [2,8,9] [(5,false,[.own 0]),(10,false,[.hole])] [] [⟨.s 5,38,8,bw⟩] [i6,dz] 12])] [306338] UT
def JV(a:Pc)(b:Pl):Option (List (List V)):=(JX a).bind λc=>(tw c).bind λd=>zk (λe (f:Int×List (List V))=>if decide (f.1<d.1.length)then(ae d.1 f.1).bind λg=>(ae c g.1).bind λh=>(ae c g.2.1).bind λi=>(ae c g.2.2).bind λj=>(app f.2 [[h,i,j]]).bind λk=>(i64 (f.1+1)).bind λl=>e (l,k)else zk (λg (h:Int×List (List V))=>if decide (h.1<f.2.length)then(ae h.2 h.1).bind λi=>(ae h.2 h.1).bind λj=>(IU b j).bind λk=>(ae h.2 h.1).bind λl=>(ae h.2 h.1).bind λm=>(i64 (h.1+1)).bind λn=>g (n,(zM h.2 (Int.toNat h.1) k))else some h.2) (zi 12) (0,f.2)) (zi 12) (0,[])
def DU:=zm Ej 162 ⟨[dx,hZ],np,47168442,λx=>JV x.1 x.2⟩
theorem Uf:ad DU:=cn [(162,[hi [] [3,5,15,16] [(17,false,[.hole])] [(2,[.lst])] [] [i6,np] 12]),(224,[hi [] [0,5,14,15] [(6,false,[.own 0]),(16,false,[.hole])] [] [⟨.s 6,139,1,dz⟩] [i6,np] 12])] [47168442,43486549] UC
def mQ(a:Pc)(b:Pc)(c:Pl)(d:Pl):Option Bool:=(JV a c).bind λe=>(JV b d).bind λf=>(qF a.2.2.2.2.2.1 b.2.2.2.2.2.1).bind λg=>(jL g).bind λh=>(sM e f h).bind λi=>some (!i.2)
def D7:=zm DU 202 ⟨[dx,dx,hZ,hZ],.bool,185427410,λx=>mQ x.1 x.2.1 x.2.2.1 x.2.2.2⟩
theorem Us:ad D7:=cn [] [185427410] Uf
def JR(a0:Int):Option Bool:=some (decide (a0≠a0))
def Ep:=zm D7 236 ⟨[i6],.bool,0,λx=>JR x⟩
theorem UH:ad Ep:=cn [] [0] Us
def IY(a:Int)(b:Int):Option Int:=(JR a).bind λc=>(JR b).bind λd=>if c then if d then some 0 else some (-1)else if d then some 1 else if decide (a<b)then some (-1)else if decide (b<a)then some 1 else some 0
def Ee:=zm Ep 215 ⟨[i6,i6],i6,0,λx=>IY x.1 x.2⟩
theorem Uv:ad Ee:=cn [] [0] UH
def B6(a:Int×Int)(b:Int×Int):Option Int:=(IY a.1 b.1).bind λc=>if decide (c≠0)then some c else(IY a.2 b.2).bind λd=>if decide (d≠0)then some d else some 0
def Ea:=zm Ee 204 ⟨[Wh,Wh],i6,8,λx=>B6 x.1 x.2⟩
theorem Ut:ad Ea:=cn [(205,[{frz:=[],cst:=[],vars:=[],objs:=[],own:=[],ts:=[],fuel:=3,un:=true}])] [8,6] Uv
def BZ(a:List Pc)(b:List Pl)(c:Int):Option (List (Int×Int)):=zk (λd (e:Int×List (Int×Int))=>if decide (e.1<a.length)then zk (λf (g:Int×List (Int×Int))=>if decide (g.1<e.1)then if 0<=g.1 then if decide ((F7 (Int.fdiv c (2 ^ min (Int.toNat g.1) 64)) 1)=1)then if 0<=e.1 then if decide ((F7 (Int.fdiv c (2 ^ min (Int.toNat e.1) 64)) 1)=1)then(ae a g.1).bind λh=>(ae a e.1).bind λi=>(ae b g.1).bind λj=>(ae b e.1).bind λk=>(mQ h i j k).bind λl=>if l then(app g.2 [(g.1,e.1)]).bind λm=>(i64 (g.1+1)).bind λn=>f (n,m)else(i64 (g.1+1)).bind λm=>f (m,g.2)else(i64 (g.1+1)).bind λh=>f (h,g.2)else none else(i64 (g.1+1)).bind λh=>f (h,g.2)else none else(i64 (e.1+1)).bind λh=>d (h,g.2)) (zi 6) (0,e.2)else if 0<=((e.2.length:Int) % 18446744073709551616)/\((e.2.length:Int) % 18446744073709551616)<=12 then(i64 ((e.2.length:Int)-0)).bind λf=>if decide (f<=12)then zk (λg (h:Int×List (Int×Int))=>if decide (h.1<e.2.length)then zk (λi (j:Int×List (Int×Int))=>if decide (0<j.1)then(ae j.2 j.1).bind λk=>(ae j.2 j.1).bind λl=>(i64 (j.1-1)).bind λm=>(ae j.2 m).bind λn=>(ae j.2 m).bind λo=>(B6 l o).bind λp=>if decide (p<0)then(i64 (j.1-1)).bind λq=>(i64 (j.1-1)).bind λr=>(ae j.2 r).bind λs=>(ae j.2 r).bind λt=>(ae j.2 j.1).bind λu=>(ae j.2 j.1).bind λv=>(ae j.2 j.1).bind λw=>(ae j.2 j.1).bind λx=>(ae (zM j.2 (Int.toNat j.1) t) q).bind λy=>(ae (zM j.2 (Int.toNat j.1) t) q).bind λz=>(i64 (j.1-1)).bind λA=>i (A,(zM (zM j.2 (Int.toNat j.1) t) (Int.toNat q) v))else(i64 (h.1+1)).bind λq=>g (q,j.2)else(i64 (h.1+1)).bind λk=>g (k,j.2)) (zi 12) (h.1,h.2)else some h.2) (zi 12) (1,e.2)else none else none) (zi 6) (0,[])
def DF:=zm Ea 131 ⟨[tG,tV,i6],Kh,6675412178,λx=>BZ x.1 x.2.1 x.2.2⟩
theorem TY:ad DF:=cn [(131,[hi [] [0,1,2,11] [(7,false,[.own 0]),(12,false,[.hole])] [] [⟨.s 7,185,2,Wh⟩] [i6,Kh] 6,hi [] [8,12,15] [(7,false,[.own 0]),(16,false,[.hole])] [] [⟨.s 7,185,2,Wh⟩] [i6,Kh] 6]),(247,[{frz:=[],cst:=[],vars:=[],objs:=[],own:=[],ts:=[],fuel:=1,un:=true}]),(270,[hi [] [0,1,2,3] [(8,false,[.hole])] [(0,[.lst])] [] [i6,Kh] 12,hi [] [8] [(9,false,[.hole])] [(0,[.lst])] [] [i6,Kh] 12])] [6675412178,25345,12672,1152,8] Ut
def Cl(a:List Pc)(b:List Int)(c:List Pl):Option Bool:=zk (λd (e:Int)=>if decide (e<a.length)then zk (λf (g:Int×Int)=>if decide (g.2<b.length)then(ae b g.2).bind λh=>if decide (h=e)then if 0<=g.2/\g.2<=64 then(i64 (1*2 ^ (Int.toNat g.2))).bind λi=>(i64 (g.2+1)).bind λj=>f ((Ov g.1 i),j)else none else(i64 (g.2+1)).bind λi=>f (g.1,i)else(BZ a c g.1).bind λh=>if decide (0<(h.length:Int))then some true else(i64 (e+1)).bind λi=>d i) (zi 12) (0,0)else some false) (zi 6) 0
def MM:=zm DF 70 ⟨[tG,S3,tV],.bool,40052473081,λx=>Cl x.1 x.2.1 x.2.2⟩
theorem t70:ad MM:=cn [(70,[hi [] [0,1,2,12] [(13,false,[.hole])] [] [] [i6] 6,hi [] [7,13,16,17] [(8,false,[.hole]),(18,false,[.hole])] [] [] [i6,i6] 12])] [40052473081] TY
def fC(a:List Pc)(b:List Fq)(c:List Pl):Option Int:=(Rb a b).bind λd=>if decide (d≠0)then some d else if decide ((c.length:Int)≠(a.length:Int))then some 1 else zk (λe (f:Int)=>if decide (f<c.length)then(ae c f).bind λg=>(RQ g).bind λh=>if h then if decide (0<=f)then some 1 else(tL (a.length:Int) b).bind λi=>zk (λj (k:Int×(List V)×List Rat×List Rat)=>if decide (k.1<c.length)then(ae c k.1).bind λl=>(ae i k.1).bind λm=>if decide (m=k.1)then(Cj).bind λn=>(m7 l.1 n).bind λo=>if !o then some 21 else(Lz l.2 (0,0)).bind λp=>if !p then some 21 else(app k.2.1 [l.1]).bind λq=>(app k.2.2.1 [l.2.1]).bind λr=>(app k.2.2.2 [l.2.2]).bind λs=>(i64 (k.1+1)).bind λt=>j (t,q,r,s)else(app k.2.1 [l.1]).bind λn=>(app k.2.2.1 [l.2.1]).bind λo=>(app k.2.2.2 [l.2.2]).bind λp=>(i64 (k.1+1)).bind λq=>j (q,n,o,p)else zk (λl (m:Int)=>if decide (m<b.length)then(ae b m).bind λn=>(ae k.2.1 n.2.1).bind λo=>(ae k.2.1 n.2.1).bind λp=>(ae k.2.1 n.1).bind λq=>(ae k.2.1 n.1).bind λr=>(ae k.2.1 n.2.1).bind λs=>(FJ r n.2.2.2.2.2.1).bind λt=>(m7 p t).bind λu=>if !u then some 21 else(i64 (m+1)).bind λv=>l v else(FK a b k.2.1).bind λn=>if decide (0<(a.length:Int))then(Ck (a.length:Int) n.1 k.2.2.1 []).bind λo=>if decide (o≠0)then some 22 else(Ck (a.length:Int) n.2.1 k.2.2.2 []).bind λp=>if decide (p≠0)then some 22 else(Cl a i c).bind λq=>if q then some 13 else some 0 else(Cl a i c).bind λo=>if o then some 13 else some 0) (zi 12) 0) (zi 12) (0,[],[],[])else(i64 (f+1)).bind λi=>e i else(tL (a.length:Int) b).bind λg=>zk (λh (i:Int×(List V)×List Rat×List Rat)=>if decide (i.1<c.length)then(ae c i.1).bind λj=>(ae g i.1).bind λk=>if decide (k=i.1)then(Cj).bind λl=>(m7 j.1 l).bind λm=>if !m then some 21 else(Lz j.2 (0,0)).bind λn=>if !n then some 21 else(app i.2.1 [j.1]).bind λo=>(app i.2.2.1 [j.2.1]).bind λp=>(app i.2.2.2 [j.2.2]).bind λq=>(i64 (i.1+1)).bind λr=>h (r,o,p,q)else(app i.2.1 [j.1]).bind λl=>(app i.2.2.1 [j.2.1]).bind λm=>(app i.2.2.2 [j.2.2]).bind λn=>(i64 (i.1+1)).bind λo=>h (o,l,m,n)else zk (λj (k:Int)=>if decide (k<b.length)then(ae b k).bind λl=>(ae i.2.1 l.2.1).bind λm=>(ae i.2.1 l.2.1).bind λn=>(ae i.2.1 l.1).bind λo=>(ae i.2.1 l.1).bind λp=>(ae i.2.1 l.2.1).bind λq=>(FJ p l.2.2.2.2.2.1).bind λr=>(m7 n r).bind λs=>if !s then some 21 else(i64 (k+1)).bind λt=>j t else(FK a b i.2.1).bind λl=>if decide (0<(a.length:Int))then(Ck (a.length:Int) l.1 i.2.2.1 []).bind λm=>if decide (m≠0)then some 22 else(Ck (a.length:Int) l.2.1 i.2.2.2 []).bind λn=>if decide (n≠0)then some 22 else(Cl a g c).bind λo=>if o then some 13 else some 0 else(Cl a g c).bind λm=>if m then some 13 else some 0) (zi 12) 0) (zi 12) (0,[],[],[])) (zi 12) 0
def Mg:=zm MM 24 ⟨[tG,fH,tV],i6,40329501498,λx=>fC x.1 x.2.1 x.2.2⟩
theorem t24:ad Mg:=cn [(24,[hi [] [0,1,2,9,40,41] [(10,false,[.own 0]),(11,false,[.own 1]),(12,false,[.own 2]),(42,false,[.hole])] [] [⟨.s 10,36,8,bG⟩,⟨.s 11,34,4,.rat⟩,⟨.s 12,34,4,.rat⟩] [i6,La,iu,iu] 12,hi [] [0,1,2,9,10,11,12,85,86] [(87,false,[.hole])] [] [] [i6] 12]),(124,[hi [] [0,1,7] [(8,false,[.hole])] [] [] [i6] 12])] [40329501498,77221,77221,6435] t70
def z27(a:List Fq)(b:List Int):Option (List Fq):=zk (λc (d:Int×List Fq)=>if decide (d.1<b.length)then(ae b d.1).bind λe=>if decide (0<=e)then(ae b d.1).bind λf=>if decide (f<a.length)then(ae b d.1).bind λg=>(ae a g).bind λh=>(app d.2 [h]).bind λi=>(i64 (d.1+1)).bind λj=>c (j,i)else(i64 (d.1+1)).bind λg=>c (g,d.2)else(i64 (d.1+1)).bind λf=>c (f,d.2)else some d.2) (zi 12) (0,[])
def Mi:=zm Mg 27 ⟨[fH,S3],fH,48,λx=>z27 x.1 x.2⟩
theorem t27:ad Mi:=cn [(27,[hi [] [0,1] [(5,false,[.own 0]),(6,false,[.hole])] [] [⟨.s 5,40,29,fM⟩] [i6,fH] 12])] [48] t24
def z28(a:List Fq):Option Bool:=zk (λb (c:Int)=>if decide (c<a.length)then(ae a c).bind λd=>(qA d.2.2.2.2.2.1.1).bind λe=>if decide (e≠0)then(ae a c).bind λf=>(qA f.2.2.2.2.2.1.2).bind λg=>if decide (g≠0)then some false else(i64 (c+1)).bind λh=>b h else(i64 (c+1)).bind λf=>b f else some true) (zi 12) 0
def Mj:=zm Mi 28 ⟨[fH],.bool,348,λx=>z28 x⟩
theorem t28:ad Mj:=cn [(28,[hi [] [0] [(3,false,[.hole])] [] [] [i6] 12])] [348] t27
def Zh(a:Rat×Rat)(b:Rat×Rat):Option Bool:=(wm a.1 b.1).bind λc=>if c then(wm a.2 b.2).bind λd=>some d else some false
def MA:=zm Mj 51 ⟨[bG,bG],.bool,38,λx=>Zh x.1 x.2⟩
theorem t51:ad MA:=cn [] [38] t28
def Iq(a:Rat×Rat)(b:Rat×Rat):Option Bool:=(wm a.1 b.1).bind λc=>if c then(wm a.2 b.2).bind λd=>some d else some false
def DG:=zm MA 133 ⟨[bw,bw],.bool,38,λx=>Iq x.1 x.2⟩
theorem TZ:ad DG:=cn [] [38] t51
def RR(a:Pl)(b:Pl):Option Bool:=(Zh a.1 b.1).bind λc=>if c then(Iq a.2 b.2).bind λd=>some d else some false
def MN:=zm DG 72 ⟨[hZ,hZ],.bool,78,λx=>RR x.1 x.2⟩
theorem t72:ad MN:=cn [] [78] TZ
def Iz(a:List Pl)(b:List Pl):Option Bool:=if decide ((a.length:Int)≠(b.length:Int))then some false else zk (λc (d:Int)=>if decide (d<a.length)then(ae a d).bind λe=>(ae b d).bind λf=>(RR e f).bind λg=>if !g then some false else(i64 (d+1)).bind λh=>c h else some true) (zi 12) 0
def Mk:=zm MN 29 ⟨[tV,tV],.bool,950,λx=>Iz x.1 x.2⟩
theorem t29:ad Mk:=cn [(29,[hi [] [0,1] [(5,false,[.hole])] [] [] [i6] 12])] [950] t72
def Lu(a:List Int)(b:List Int):Option Bool:=if decide ((a.length:Int)≠(b.length:Int))then some false else zk (λc (d:Int)=>if decide (d<a.length)then(ae a d).bind λe=>(ae b d).bind λf=>if decide (e≠f)then some false else(i64 (d+1)).bind λg=>c g else some true) (zi 12) 0
def Ma:=zm Mk 14 ⟨[S3,S3],.bool,14,λx=>Lu x.1 x.2⟩
theorem t14:ad Ma:=cn [(14,[hi [] [0,1] [(5,false,[.hole])] [] [] [i6] 12])] [14] t29
def BU(a:Rat×Rat):Option V:=(jL a.2).bind λb=>some (a.1,b)
def Dl:=zm Ma 105 ⟨[bG],bG,7,λx=>BU x⟩
theorem Pb:ad Dl:=cn [] [7] t14
def sH(a:Int×List (Int×Int×Rat)):Option (List Rat×Bool):=if 0<=a.1/\a.1=a.1/\a.1<=65536 then(i64 (a.1+1)).bind λb=>zk (λc (d:Int×List Rat)=>if decide (d.1<b)then zk (λe (f:Bool×Int×List Rat)=>if decide (f.2.1<a.2.length)then(ae a.2 f.2.1).bind λg=>(ae f.2.2 g.1).bind λh=>(ae f.2.2 g.1).bind λi=>(qF i g.2.2).bind λj=>(ae f.2.2 g.2.1).bind λk=>(ae f.2.2 g.2.1).bind λl=>(yu j l).bind λm=>if decide (m<0)then(ae f.2.2 g.2.1).bind λn=>(ae f.2.2 g.2.1).bind λo=>(i64 (f.2.1+1)).bind λp=>e (true,p,(zM f.2.2 (Int.toNat g.2.1) j))else(i64 (f.2.1+1)).bind λn=>e (f.1,n,f.2.2)else if !f.1 then some (f.2.2,true)else(i64 (d.1+1)).bind λg=>c (g,f.2.2)) (zi 64) (false,0,d.2)else some ([],false)) (zi 64) (0,(List.replicate (Int.toNat a.1) (0:Int)))else none
def nw:=zm Dl 137 ⟨[uG],(.tup iu .bool),2064450,λx=>sH x⟩
theorem Pd:ad nw:=cn [(137,[hi [] [1,4,14] [(15,false,[.hole])] [(1,[.lst])] [] [i6,iu] 64,hi [] [15,18,19] [(5,false,[.hole]),(20,false,[.hole])] [(1,[.lst])] [] [.bool,i6,iu] 64])] [2064450] Pb
def mR(a:Int×List (Int×Int×Rat))(b:Int):Option (List (List (Bool×Rat))):=if 0<=a.1/\a.1=a.1/\a.1<=65536 then(ae (List.replicate (Int.toNat a.1) ((false,0):Bool×Rat)) b).bind λc=>(ae (List.replicate (Int.toNat a.1) ((false,0):Bool×Rat)) b).bind λd=>some [(zM (List.replicate (Int.toNat a.1) ((false,0):Bool×Rat)) (Int.toNat b) (true,d.2))]else none
def Eb:=zm nw 210 ⟨[uG,i6],WE,3,λx=>mR x.1 x.2⟩
theorem Uu:ad Eb:=cn [] [3] Pd
def td(a:Int×List (Int×Int×Rat))(b:List (Bool×Rat)):Option (List (Bool×Rat)):=if 0<=a.1/\a.1=a.1/\a.1<=65536 then zk (λc (d:Int×List (Bool×Rat))=>if decide (d.1<a.2.length)then(ae a.2 d.1).bind λe=>(ae b e.2.1).bind λf=>if !f.1 then(i64 (d.1+1)).bind λg=>c (g,d.2)else(qF e.2.2 f.2).bind λg=>(ae d.2 e.1).bind λh=>(ae d.2 e.1).bind λi=>if !i.1 then(ae d.2 e.1).bind λj=>(ae d.2 e.1).bind λk=>(i64 (d.1+1)).bind λl=>c (l,(zM d.2 (Int.toNat e.1) (true,g)))else(yu g i.2).bind λj=>if decide (j<0)then(ae d.2 e.1).bind λk=>(ae d.2 e.1).bind λl=>(i64 (d.1+1)).bind λm=>c (m,(zM d.2 (Int.toNat e.1) (true,g)))else(i64 (d.1+1)).bind λk=>c (k,d.2)else some d.2) (zi 64) (0,(List.replicate (Int.toNat a.1) ((false,0):Bool×Rat)))else none
def Ec:=zm Eb 211 ⟨[uG,jX],jX,32387,λx=>td x.1 x.2⟩
theorem Pe:ad Ec:=cn [(211,[hi [] [1,5,15,16] [(17,false,[.hole])] [(1,[.lst])] [] [i6,jX] 64])] [32387] Uu
end
end Go.Proofs.YtocnbjjmmgolfaaGreat
