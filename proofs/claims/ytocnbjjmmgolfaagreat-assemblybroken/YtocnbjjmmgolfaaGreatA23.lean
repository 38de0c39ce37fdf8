/- Functions as plain definitions (printed by zfile.py). -/
import Derived.Test.YtocnbjjmmgolfaaGreatA22
set_option linter.unusedSimpArgs false
set_option linter.unusedVariables false
set_option linter.unusedSectionVars false
namespace Go.Proofs.YtocnbjjmmgolfaaGreat
open Go Go.M Go.Proofs.C14
noncomputable section
abbrev V:=Rat×Rat
abbrev Pl:=V×Rat×Rat
abbrev Pc:=Int×Int×(List (Int×Int))×List Bool×List Int×Rat×Rat×Rat×Rat×Rat
abbrev Fq:=Int×Int×Int×Int×Int×V×V×Rat×Rat
abbrev S3:Ty:=.sl 3 1 i6
abbrev tJ:Ty:=.pair i6 i6
abbrev tW:Ty:=.sl 77 2 tJ
abbrev S69:Ty:=.sl 69 1 tW
abbrev bw:Ty:=.pair .rat .rat
abbrev dz:Ty:=.sl 38 8 bw
abbrev S4:Ty:=.sl 4 1 .bool
abbrev dx:Ty:=.pair i6 (.pair i6 (.pair tW (.pair S4 (.pair S3 (.pair .rat (.pair .rat (.pair .rat (.pair .rat .rat))))))))
abbrev bG:Ty:=.pair .rat .rat
abbrev fM:Ty:=.pair i6 (.pair i6 (.pair i6 (.pair i6 (.pair i6 (.pair bG (.pair bw bw))))))
abbrev tG:Ty:=.sl 72 25 dx
abbrev fH:Ty:=.sl 40 29 fM
abbrev hZ:Ty:=.pair bG bw
abbrev tV:Ty:=.sl 54 16 hZ
abbrev Le:Ty:=.pair tG (.pair fH tV)
abbrev MU:Ty:=.pair i6 (.pair i6 (.pair i6 i6))
abbrev iu:Ty:=.sl 34 4 .rat
abbrev iE:Ty:=.pair .rat (.pair .rat (.pair .rat (.pair .rat .rat)))
abbrev QD:Ty:=.pair i6 (.pair i6 .rat)
abbrev jw:Ty:=.sl 164 6 QD
abbrev nv:Ty:=.pair jw jw
abbrev ny:Ty:=.pair .rat .rat
abbrev La:Ty:=.sl 36 8 bG
abbrev uG:Ty:=.pair i6 jw
abbrev np:Ty:=.sl 139 1 dz
abbrev nA:Ty:=.pair dz S3
abbrev iF:Ty:=.pair i6 (.pair i6 i6)
abbrev SS:Ty:=.sl 271 3 iF
abbrev Wh:Ty:=.pair i6 i6
abbrev Kh:Ty:=.sl 185 2 Wh
abbrev F9:Ty:=.pair .bool .rat
abbrev jX:Ty:=.sl 229 5 F9
abbrev WE:Ty:=.sl 226 1 jX
def Γ1:TypeId->Option Ty:=λt=>cW [(77,tJ),(69,tW),(38,bw),(34,.rat),(72,dx),(4,.bool),(3,i6),(36,bG),(40,fM),(27,Le),(54,hZ),(87,MU),(214,iE),(126,nv),(162,ny),(164,QD),(166,uG),(139,dz),(290,nA),(271,iF),(185,Wh),(229,F9),(226,jX)] t
theorem cn(H:List (FuncId×List Hi))(rs:List Nat){T:FuncId->Option eQ}{g:FuncId}{ar:List Ty}{τ:Ty}{z:Tp ar->Option τ.T}(a:ad T)(he:∀x,zK Γ1 T (fa H) rs g ar τ x=z x:=by intro x;kernel_rfl)(b:Ws ar=true:=by rfl):ad (zm T g ⟨ar,τ,fF rs,z⟩):=ad.next a b he
def T0c:FuncId->Option eQ:=λ_=>none
theorem t0:ad T0c:=ad.nil
def Ml:=zm T0c 30 ⟨[.rat,.rat],.rat,400,λx=>qF x.1 x.2⟩
theorem t30:ad Ml:=ad.add t0 ES
def MQ:=zm Ml 79 ⟨[.rat,.rat],.rat,408,λx=>wW x.1 x.2⟩
theorem t79:ad MQ:=ad.add t30 Nn
def Dx:=zm MQ 122 ⟨[.rat,.rat],.rat,579,λx=>qG x.1 x.2⟩
theorem TQ:ad Dx:=ad.add t79 Nj
def DR:=zm Dx 159 ⟨[.rat,.rat],i6,102,λx=>yu x.1 x.2⟩
theorem Uc:ad DR:=ad.add TQ Ng
def DJ:=zm DR 139 ⟨[.rat],.rat,5,λx=>jL x⟩
theorem T4:ad DJ:=ad.add Uc Nl
def D5:=zm DJ 193 ⟨[.rat],i6,3,λx=>qA x⟩
theorem Uq:ad D5:=ad.add T4 ow
def Mr:=zm D5 36 ⟨[.rat,.rat],.rat,1795,λx=>qF x.1 x.2⟩
theorem t36:ad Mr:=ad.add Uq Nf
def M0:=zm Mr 98 ⟨[.rat,.rat],.rat,1810,λx=>wW x.1 x.2⟩
theorem t98:ad M0:=ad.add t36 No
def M1:=zm M0 99 ⟨[.rat,.rat],.rat,1630,λx=>qG x.1 x.2⟩
theorem t99:ad M1:=ad.add t98 Nk
def DH:=zm M1 135 ⟨[.rat,.rat],i6,112,λx=>yu x.1 x.2⟩
theorem T0:ad DH:=ad.add t99 Nh
def Mt:=zm DH 38 ⟨[.rat],.rat,12,λx=>jL x⟩
theorem t38:ad Mt:=ad.add T0 Nm
def MR:=zm Mt 80 ⟨[.rat],i6,14,λx=>qA x⟩
theorem t80:ad MR:=ad.add t38 GK
def Dm:=zm MR 106 ⟨[.rat,.rat],.bool,12,λx=>wm x.1 x.2⟩
theorem TI:ad Dm:=ad.add t80 GI
def Dn:=zm Dm 109 ⟨[.rat,.rat],.bool,18,λx=>wm x.1 x.2⟩
theorem TJ:ad Dn:=ad.add TI GJ
def Du:=zm Dn 120 ⟨[.rat],.bool,103,λx=>qu x⟩
theorem TO:ad Du:=ad.add TJ An
def Dp:=zm Du 110 ⟨[.rat],.bool,805,λx=>qu x⟩
theorem TK:ad Dp:=ad.add TO Ao
def Dy:=zm Dp 123 ⟨[i6,i6],.rat,241,λx=>dh x.1 x.2⟩
theorem TR:ad Dy:=ad.add TK Ta
def Me:=zm Dy 20 ⟨[i6,i6],.rat,1564,λx=>dh x.1 x.2⟩
theorem t20:ad Me:=ad.add TR Tb
def FG(a:Int)(b:Int):Option Int:=if decide (a<0)then(i64 (a+1)).bind λc=>(i64 (0-c)).bind λd=>if b=0 then none else some (Int.tmod d b)else if b=0 then none else some (Int.tmod a b)
def L7:=zm Me 10 ⟨[i6,i6],i6,0,λx=>FG x.1 x.2⟩
theorem t10:ad L7:=cn [] [0] t20
def fB(a:List Int)(b:Int)(c:Int):Option Int:=if decide (b<0)then some 0 else if decide ((a.length:Int)<=b)then some 0 else(ae a b).bind λd=>(FG d c).bind λe=>some e
def Mf:=zm L7 21 ⟨[S3,i6,i6],i6,1,λx=>fB x.1 x.2.1 x.2.2⟩
theorem t21:ad Mf:=cn [] [1] t10
def Qv(a0:Int)(a:Int)(b:Int×Int)(c:Int)(d:Int)(e:Int)(f:Int):Option (List (List (Int×Int))):=some [[(0,0),(c,0),b,(0,f)],[(c,0),(a0,0),(a0,d),b],[b,(a0,d),(a0,a),(e,a)],[(0,f),b,(e,a),(0,a)]]
def Mn:=zm Mf 32 ⟨[i6,i6,tJ,i6,i6,i6,i6],S69,10,λx=>Qv x.1 x.2.1 x.2.2.1 x.2.2.2.1 x.2.2.2.2.1 x.2.2.2.2.2.1 x.2.2.2.2.2.2⟩
theorem t32:ad Mn:=cn [] [10] t21
def sO(a:List V):Option Bool:=zk (λb (c:Int)=>if decide (c<a.length)then(ae a c).bind λd=>(qu d.1).bind λe=>if !e then some false else(ae a c).bind λf=>(qu f.2).bind λg=>if !g then some false else(i64 (c+1)).bind λh=>b h else some true) (zi 64) 0
def DV:=zm Mn 163 ⟨[dz],.bool,103104,λx=>sO x⟩
theorem Ug:ad DV:=cn [(163,[hi [] [0] [(3,false,[.hole])] [] [] [i6] 64])] [103104] t32
def iA(a:Rat×Rat)(b:Rat×Rat):Option V:=(wW a.1 b.1).bind λc=>(wW a.2 b.2).bind λd=>some (c,d)
def Mu:=zm DV 39 ⟨[bw,bw],bw,3623,λx=>iA x.1 x.2⟩
theorem t39:ad Mu:=cn [] [3623] Ug
def Cb(a:Rat×Rat)(b:Rat×Rat):Option Rat:=(qG a.1 b.2).bind λc=>(qG a.2 b.1).bind λd=>(wW c d).bind λe=>some e
def Ek:=zm Mu 226 ⟨[bw,bw],.rat,5073,λx=>Cb x.1 x.2⟩
theorem UD:ad Ek:=cn [] [5073] t39
def sQ(a:Rat×Rat)(b:Rat×Rat)(c:Rat×Rat):Option Int:=(iA b a).bind λd=>(iA c a).bind λe=>(Cb d e).bind λf=>(qA f).bind λg=>some g
def DW:=zm Ek 164 ⟨[bw,bw,bw],i6,12336,λx=>sQ x.1 x.2.1 x.2.2⟩
theorem Uh:ad DW:=cn [] [12336] UD
def vy(a:List V)(b:Int):Option V:=if (a.length:Int)=0 then none else(ae a (Int.tmod b a.length)).bind λc=>some c
def DY:=zm DW 165 ⟨[dz,i6],bw,2,λx=>vy x.1 x.2⟩
theorem Ui:ad DY:=cn [] [2] Uh
def ti(a:Rat×Rat):Option V:=(jL a.2).bind λb=>some (b,a.1)
def El:=zm DY 227 ⟨[bw],bw,14,λx=>ti x⟩
theorem UE:ad El:=cn [] [14] Ui
def IP(a:Rat×Rat)(b:Rat×Rat):Option Rat:=(qG a.1 b.1).bind λc=>(qG a.2 b.2).bind λd=>(qF c d).bind λe=>some e
def ED:=zm El 265 ⟨[bw,bw],.rat,5058,λx=>IP x.1 x.2⟩
theorem UU:ad ED:=cn [] [5058] UE
def Cc(a:Rat×Rat)(b:Rat×Rat)(c:Rat×Rat)(d:Rat×Rat)(e:Rat×Rat):Option Bool:=(IP a b).bind λf=>(IP a c).bind λg=>(IP a d).bind λh=>(IP a e).bind λi=>(yu f h).bind λj=>if decide (j<0)then(yu f i).bind λk=>if decide (k<0)then(yu g h).bind λl=>if decide (l<0)then(yu g i).bind λm=>(yu f h).bind λn=>if decide (0<n)then(yu f i).bind λo=>if decide (0<o)then(yu g h).bind λp=>if decide (0<p)then(yu g i).bind λq=>if decide (m<0)then some true else some (decide (0<q))else if decide (m<0)then some true else some false else if decide (m<0)then some true else some false else if decide (m<0)then some true else some false else(yu f h).bind λm=>if decide (0<m)then(yu f i).bind λn=>if decide (0<n)then(yu g h).bind λo=>if decide (0<o)then(yu g i).bind λp=>some (decide (0<p))else some false else some false else some false else(yu f h).bind λl=>if decide (0<l)then(yu f i).bind λm=>if decide (0<m)then(yu g h).bind λn=>if decide (0<n)then(yu g i).bind λo=>some (decide (0<o))else some false else some false else some false else(yu f h).bind λk=>if decide (0<k)then(yu f i).bind λl=>if decide (0<l)then(yu g h).bind λm=>if decide (0<m)then(yu g i).bind λn=>some (decide (0<n))else some false else some false else some false
def Em:=zm ED 228 ⟨[bw,bw,bw,bw,bw],.bool,21137,λx=>Cc x.1 x.2.1 x.2.2.1 x.2.2.2.1 x.2.2.2.2⟩
theorem UF:ad Em:=cn [] [21137] UU
def sR(a:Rat×Rat)(b:Rat×Rat)(c:Rat×Rat)(d:Rat×Rat):Option Bool:=(iA b a).bind λe=>(iA d c).bind λf=>(ti e).bind λg=>(ti f).bind λh=>(iA c a).bind λi=>zk (λj (k:Int)=>if decide (k<([g,h,e,f,i].length:Int))then(ae [g,h,e,f,i] k).bind λl=>(ae [g,h,e,f,i] k).bind λm=>(Cc m a b c d).bind λn=>if n then some false else(i64 (k+1)).bind λo=>j o else some true) (zi 12) 0
def DZ:=zm Em 166 ⟨[bw,bw,bw,bw],.bool,264560,λx=>sR x.1 x.2.1 x.2.2.1 x.2.2.2⟩
theorem Uj:ad DZ:=cn [(166,[hi [] [4,5,6,7,11] [(12,false,[.hole])] [] [] [i6] 12])] [264560] UF
def IT(a:List V)(b:Int):Option V:=(i64 (b+1)).bind λc=>if decide (c<a.length)then(i64 (b+1)).bind λd=>(ae a d).bind λe=>some e else(ae a 0).bind λd=>some d
def Eo:=zm DZ 229 ⟨[dz,i6],bw,2,λx=>IT x.1 x.2⟩
theorem UG:ad Eo:=cn [] [2] Uj
def sS(a:List V):Option Rat:=zk (λb (c:Int×Rat)=>if decide (c.1<a.length)then(IT a c.1).bind λd=>(ae a c.1).bind λe=>(ae a c.1).bind λf=>(wW e.1 d.1).bind λg=>(qF f.2 d.2).bind λh=>(qG g h).bind λi=>(qF c.2 i).bind λj=>(i64 (c.1+1)).bind λk=>b (k,j)else(dh 1 2).bind λd=>(qG c.2 d).bind λe=>some e) (zi 12) (0,0)
def D0:=zm Eo 167 ⟨[dz],.rat,87604,λx=>sS x⟩
theorem Uk:ad D0:=cn [(167,[hi [] [0,2,3] [(4,false,[.hole])] [(1,[.hole])] [] [i6,.rat] 12])] [87604] UG
def Rd(a:List V):Option Bool:=if decide ((a.length:Int)<3)then some false else if decide (12<(a.length:Int))then some false else(sO a).bind λb=>if !b then some false else zk (λc (d:Int)=>if decide (d<a.length)then(ae a d).bind λe=>(i64 (d+1)).bind λf=>(i64 (d+2)).bind λg=>(vy a f).bind λh=>(vy a g).bind λi=>(sQ e h i).bind λj=>if decide (j=0)then some false else zk (λk (l:Int)=>if decide (l<a.length)then(i64 (l-d)).bind λm=>(i64 (m+a.length)).bind λn=>if (a.length:Int)=0 then none else if decide (1<(Int.tmod n a.length))then(i64 ((a.length:Int)-1)).bind λo=>if decide ((Int.tmod n a.length)<o)then(ae a d).bind λp=>(i64 (d+1)).bind λq=>(ae a l).bind λr=>(i64 (l+1)).bind λs=>(vy a q).bind λt=>(vy a s).bind λu=>(sR p t r u).bind λv=>if v then some false else(i64 (l+1)).bind λw=>k w else(i64 (l+1)).bind λp=>k p else(i64 (l+1)).bind λo=>k o else(i64 (d+1)).bind λm=>c m) (zi 12) 0 else(sS a).bind λe=>(qA e).bind λf=>some (decide (0<f))) (zi 12) 0
def MY:=zm D0 92 ⟨[dz],.bool,38436608,λx=>Rd x⟩
theorem t92:ad MY:=cn [(92,[hi [] [0] [(3,false,[.hole])] [] [] [i6] 12,hi [] [3] [(4,false,[.hole])] [] [] [i6] 12])] [38436608] Uk
def m6(a:Int)(b:Int):Option V:=(dh a 1).bind λc=>(dh b 1).bind λd=>some (c,d)
def Mw:=zm MY 41 ⟨[i6,i6],bw,3129,λx=>m6 x.1 x.2⟩
theorem t41:ad Mw:=cn [] [3129] t92
def IM(a:Pc):Option (List V):=zk (λb (c:Int×List V)=>if decide (c.1<a.2.2.1.length)then(ae a.2.2.1 c.1).bind λd=>(ae a.2.2.1 c.1).bind λe=>(m6 d.1 e.2).bind λf=>(app c.2 [f]).bind λg=>(i64 (c.1+1)).bind λh=>b (h,g)else some c.2) (zi 12) (0,[])
def MZ:=zm Mw 93 ⟨[dx],dz,37585,λx=>IM x⟩
theorem t93:ad MZ:=cn [(93,[hi [] [1] [(3,false,[.own 0]),(4,false,[.hole])] [] [⟨.s 3,38,8,bw⟩] [i6,dz] 12])] [37585] t41
def RM(a:List (List (Int×Int))):Option Bool:=zk (λb (c:Int)=>if decide (c<a.length)then(ae a c).bind λd=>(IM (0,0,d,[],[],0,0,0,0,0)).bind λe=>(Rd e).bind λf=>if !f then some false else(i64 (c+1)).bind λg=>b g else some true) (zi 12) 0
def Mo:=zm MZ 33 ⟨[S69],.bool,461690328,λx=>RM x⟩
theorem t33:ad Mo:=cn [(33,[hi [] [0] [(3,false,[.hole])] [] [] [i6] 12])] [461690328] t93
def Ra(a:Int×Int)(b:Int):Option (Int×Int):=zk (λc (d:Int×Int×Int)=>if decide (d.1<b)then(i64 (0-d.2.2)).bind λe=>(i64 (d.1+1)).bind λf=>c (f,e,d.2.1)else some d.2) (zi 12) (0,a.1,a.2)
def Mp:=zm Mo 34 ⟨[tJ,i6],tJ,2,λx=>Ra x.1 x.2⟩
theorem t34:ad Mp:=cn [(34,[hi [] [1,2,4] [(5,false,[.hole])] [(0,[.hole,.hole])] [] [i6,i6,i6] 12])] [2] t33
def tM(a:Int)(b:List (Int×Int)):Option Pc:=(dh 1 1).bind λc=>(app ([]:List (Int×Int)) b).bind λd=>(dh 100 1).bind λe=>(dh 1 2).bind λf=>if 0<=(b.length:Int)/\(b.length:Int)=b.length/\(b.length:Int)<=65536 then if 0<=(b.length:Int)/\(b.length:Int)=b.length/\(b.length:Int)<=65536 then some (a,0,d,(List.replicate (Int.toNat (b.length:Int)) false),(List.replicate (Int.toNat (b.length:Int)) (0:Int)),0,c,c,e,f)else none else none
def Mq:=zm Mp 35 ⟨[i6,tW],dx,4701,λx=>tM x.1 x.2⟩
theorem t35:ad Mq:=cn [] [4701] t34
def gx:Option V:=((dh 1 1).bind λr1=>some (r1,0))
def Ms:=zm Mq 37 ⟨[],bG,1565,λx=>gx⟩
theorem t37:ad Ms:=cn [] [1565] t35
def Lw(a:Rat×Rat)(b:Rat×Rat):Option V:=(qG a.1 b.1).bind λc=>(qG a.2 b.2).bind λd=>(wW c d).bind λe=>(qG a.2 b.1).bind λf=>(qG a.1 b.2).bind λg=>(qF f g).bind λh=>some (e,h)
def Mv:=zm Ms 40 ⟨[bG,bw],bw,10130,λx=>Lw x.1 x.2⟩
theorem t40:ad Mv:=cn [] [10130] t37
def fR(a:Rat×Rat)(b:Rat×Rat):Option V:=(qG a.1 b.1).bind λc=>(qG a.2 b.2).bind λd=>(wW c d).bind λe=>(qG a.2 b.1).bind λf=>(qG a.1 b.2).bind λg=>(qF f g).bind λh=>some (e,h)
def MO:=zm Mv 73 ⟨[bG,bG],bG,10130,λx=>fR x.1 x.2⟩
theorem t73:ad MO:=cn [] [10130] t40
def jC(a:Rat×Rat):Option V:=(jL a.2).bind λb=>some (a.1,b)
def Dj:=zm MO 100 ⟨[bG],bG,14,λx=>jC x⟩
theorem TG:ad Dj:=cn [] [14] t73
def Lv(a:Rat×Rat)(b:Rat×Rat):Option V:=(qF a.1 b.1).bind λc=>(qF a.2 b.2).bind λd=>some (c,d)
def Md:=zm Dj 19 ⟨[bw,bw],bw,3593,λx=>Lv x.1 x.2⟩
theorem t19:ad Md:=cn [] [3593] TG
def Ci(a:Rat×Rat):Option Bool:=(qu a.1).bind λb=>if !b then some false else(qu a.2).bind λc=>if !c then some false else(qG a.1 a.1).bind λd=>(qG a.2 a.2).bind λe=>(qF d e).bind λf=>(dh 1 1).bind λg=>(wm f g).bind λh=>some h
def MB:=zm Md 54 ⟨[bG],.bool,8249,λx=>Ci x⟩
theorem t54:ad MB:=cn [] [8249] t19
def mM(a0:Pc)(b:Pc)(a:Fq):Option Bool:=(if (decide (0<=a.2.2.1))=true then(if (decide (a.2.2.1<(a0.2.2.1.length:Int)))=true then(if (decide (0<=a.2.2.2.1))=true then(if (decide (a.2.2.2.1<(b.2.2.1.length:Int)))=true then(if (decide (1<=a.2.2.2.2.1))=true then(if (decide (a.2.2.2.2.1<(a0.2.2.1.length:Int)))=true then some (decide (a.2.2.2.2.1<(b.2.2.1.length:Int)))else some false)else some false)else some false)else some false)else some false)else some false)
def D1:=zm MB 171 ⟨[dx,dx,fM],.bool,5,λx=>mM x.1 x.2.1 x.2.2⟩
theorem Ul:ad D1:=cn [] [5] t54
def Q8(a:Int)(b:Int):Option Int:=if b=0 then none else(i64 ((Int.tmod a b)+b)).bind λc=>if b=0 then none else some (Int.tmod c b)
def D2:=zm D1 172 ⟨[i6,i6],i6,0,λx=>Q8 x.1 x.2⟩
theorem Um:ad D2:=cn [] [0] Ul
def vz(a:Pc)(b:Pc)(c:Fq):Option (V×V×Bool):=(mM a b c).bind λd=>if !d then some ((0,0),(0,0),false)else(Ci c.2.2.2.2.2.1).bind λe=>if !e then some ((0,0),(0,0),false)else(IM a).bind λf=>(IM b).bind λg=>(qF a.2.2.2.2.2.1 b.2.2.2.2.2.1).bind λh=>zk (λi (j:Int×Rat×Rat×Rat×Rat)=>if decide (j.1<=c.2.2.2.2.1)then(i64 (c.2.2.1+j.1)).bind λk=>(i64 (c.2.2.2.1+1)).bind λl=>(i64 (l-j.1)).bind λm=>(Q8 k (f.length:Int)).bind λn=>(ae f n).bind λo=>(Q8 m (g.length:Int)).bind λp=>(ae g p).bind λq=>(Lw c.2.2.2.2.2.1 q).bind λr=>(iA o r).bind λs=>(iA s (h,h)).bind λt=>(Lv s (h,h)).bind λu=>if decide (j.1=0)then if decide (j.1=0)then if decide (j.1=0)then if decide (j.1=0)then(i64 (j.1+1)).bind λv=>i (v,t.1,t.2,u.1,u.2)else(yu u.2 j.2.2.2.2).bind λv=>if decide (v<0)then(i64 (j.1+1)).bind λw=>i (w,t.1,t.2,u.1,u.2)else(i64 (j.1+1)).bind λw=>i (w,t.1,t.2,u.1,j.2.2.2.2)else(yu u.1 j.2.2.2.1).bind λv=>if decide (v<0)then if decide (j.1=0)then(i64 (j.1+1)).bind λw=>i (w,t.1,t.2,u.1,u.2)else(yu u.2 j.2.2.2.2).bind λw=>if decide (w<0)then(i64 (j.1+1)).bind λx=>i (x,t.1,t.2,u.1,u.2)else(i64 (j.1+1)).bind λx=>i (x,t.1,t.2,u.1,j.2.2.2.2)else if decide (j.1=0)then(i64 (j.1+1)).bind λw=>i (w,t.1,t.2,j.2.2.2.1,u.2)else(yu u.2 j.2.2.2.2).bind λw=>if decide (w<0)then(i64 (j.1+1)).bind λx=>i (x,t.1,t.2,j.2.2.2.1,u.2)else(i64 (j.1+1)).bind λx=>i (x,t.1,t.2,j.2.2.2.1,j.2.2.2.2)else(yu t.2 j.2.2.1).bind λv=>if decide (0<v)then if decide (j.1=0)then if decide (j.1=0)then(i64 (j.1+1)).bind λw=>i (w,t.1,t.2,u.1,u.2)else(yu u.2 j.2.2.2.2).bind λw=>if decide (w<0)then(i64 (j.1+1)).bind λx=>i (x,t.1,t.2,u.1,u.2)else(i64 (j.1+1)).bind λx=>i (x,t.1,t.2,u.1,j.2.2.2.2)else(yu u.1 j.2.2.2.1).bind λw=>if decide (w<0)then if decide (j.1=0)then(i64 (j.1+1)).bind λx=>i (x,t.1,t.2,u.1,u.2)else(yu u.2 j.2.2.2.2).bind λx=>if decide (x<0)then(i64 (j.1+1)).bind λy=>i (y,t.1,t.2,u.1,u.2)else(i64 (j.1+1)).bind λy=>i (y,t.1,t.2,u.1,j.2.2.2.2)else if decide (j.1=0)then(i64 (j.1+1)).bind λx=>i (x,t.1,t.2,j.2.2.2.1,u.2)else(yu u.2 j.2.2.2.2).bind λx=>if decide (x<0)then(i64 (j.1+1)).bind λy=>i (y,t.1,t.2,j.2.2.2.1,u.2)else(i64 (j.1+1)).bind λy=>i (y,t.1,t.2,j.2.2.2.1,j.2.2.2.2)else if decide (j.1=0)then if decide (j.1=0)then(i64 (j.1+1)).bind λw=>i (w,t.1,j.2.2.1,u.1,u.2)else(yu u.2 j.2.2.2.2).bind λw=>if decide (w<0)then(i64 (j.1+1)).bind λx=>i (x,t.1,j.2.2.1,u.1,u.2)else(i64 (j.1+1)).bind λx=>i (x,t.1,j.2.2.1,u.1,j.2.2.2.2)else(yu u.1 j.2.2.2.1).bind λw=>if decide (w<0)then if decide (j.1=0)then(i64 (j.1+1)).bind λx=>i (x,t.1,j.2.2.1,u.1,u.2)else(yu u.2 j.2.2.2.2).bind λx=>if decide (x<0)then(i64 (j.1+1)).bind λy=>i (y,t.1,j.2.2.1,u.1,u.2)else(i64 (j.1+1)).bind λy=>i (y,t.1,j.2.2.1,u.1,j.2.2.2.2)else if decide (j.1=0)then(i64 (j.1+1)).bind λx=>i (x,t.1,j.2.2.1,j.2.2.2.1,u.2)else(yu u.2 j.2.2.2.2).bind λx=>if decide (x<0)then(i64 (j.1+1)).bind λy=>i (y,t.1,j.2.2.1,j.2.2.2.1,u.2)else(i64 (j.1+1)).bind λy=>i (y,t.1,j.2.2.1,j.2.2.2.1,j.2.2.2.2)else(yu t.1 j.2.1).bind λv=>if decide (0<v)then if decide (j.1=0)then if decide (j.1=0)then if decide (j.1=0)then(i64 (j.1+1)).bind λw=>i (w,t.1,t.2,u.1,u.2)else(yu u.2 j.2.2.2.2).bind λw=>if decide (w<0)then(i64 (j.1+1)).bind λx=>i (x,t.1,t.2,u.1,u.2)else(i64 (j.1+1)).bind λx=>i (x,t.1,t.2,u.1,j.2.2.2.2)else(yu u.1 j.2.2.2.1).bind λw=>if decide (w<0)then if decide (j.1=0)then(i64 (j.1+1)).bind λx=>i (x,t.1,t.2,u.1,u.2)else(yu u.2 j.2.2.2.2).bind λx=>if decide (x<0)then(i64 (j.1+1)).bind λy=>i (y,t.1,t.2,u.1,u.2)else(i64 (j.1+1)).bind λy=>i (y,t.1,t.2,u.1,j.2.2.2.2)else if decide (j.1=0)then(i64 (j.1+1)).bind λx=>i (x,t.1,t.2,j.2.2.2.1,u.2)else(yu u.2 j.2.2.2.2).bind λx=>if decide (x<0)then(i64 (j.1+1)).bind λy=>i (y,t.1,t.2,j.2.2.2.1,u.2)else(i64 (j.1+1)).bind λy=>i (y,t.1,t.2,j.2.2.2.1,j.2.2.2.2)else(yu t.2 j.2.2.1).bind λw=>if decide (0<w)then if decide (j.1=0)then if decide (j.1=0)then(i64 (j.1+1)).bind λx=>i (x,t.1,t.2,u.1,u.2)else(yu u.2 j.2.2.2.2).bind λx=>if decide (x<0)then(i64 (j.1+1)).bind λy=>i (y,t.1,t.2,u.1,u.2)else(i64 (j.1+1)).bind λy=>i (y,t.1,t.2,u.1,j.2.2.2.2)else(yu u.1 j.2.2.2.1).bind λx=>if decide (x<0)then if decide (j.1=0)then(i64 (j.1+1)).bind λy=>i (y,t.1,t.2,u.1,u.2)else(yu u.2 j.2.2.2.2).bind λy=>if decide (y<0)then(i64 (j.1+1)).bind λz=>i (z,t.1,t.2,u.1,u.2)else(i64 (j.1+1)).bind λz=>i (z,t.1,t.2,u.1,j.2.2.2.2)else if decide (j.1=0)then(i64 (j.1+1)).bind λy=>i (y,t.1,t.2,j.2.2.2.1,u.2)else(yu u.2 j.2.2.2.2).bind λy=>if decide (y<0)then(i64 (j.1+1)).bind λz=>i (z,t.1,t.2,j.2.2.2.1,u.2)else(i64 (j.1+1)).bind λz=>i (z,t.1,t.2,j.2.2.2.1,j.2.2.2.2)else if decide (j.1=0)then if decide (j.1=0)then(i64 (j.1+1)).bind λx=>i (x,t.1,j.2.2.1,u.1,u.2)else(yu u.2 j.2.2.2.2).bind λx=>if decide (x<0)then(i64 (j.1+1)).bind λy=>i (y,t.1,j.2.2.1,u.1,u.2)else(i64 (j.1+1)).bind λy=>i (y,t.1,j.2.2.1,u.1,j.2.2.2.2)else(yu u.1 j.2.2.2.1).bind λx=>if decide (x<0)then if decide (j.1=0)then(i64 (j.1+1)).bind λy=>i (y,t.1,j.2.2.1,u.1,u.2)else(yu u.2 j.2.2.2.2).bind λy=>if decide (y<0)then(i64 (j.1+1)).bind λz=>i (z,t.1,j.2.2.1,u.1,u.2)else(i64 (j.1+1)).bind λz=>i (z,t.1,j.2.2.1,u.1,j.2.2.2.2)else if decide (j.1=0)then(i64 (j.1+1)).bind λy=>i (y,t.1,j.2.2.1,j.2.2.2.1,u.2)else(yu u.2 j.2.2.2.2).bind λy=>if decide (y<0)then(i64 (j.1+1)).bind λz=>i (z,t.1,j.2.2.1,j.2.2.2.1,u.2)else(i64 (j.1+1)).bind λz=>i (z,t.1,j.2.2.1,j.2.2.2.1,j.2.2.2.2)else if decide (j.1=0)then if decide (j.1=0)then if decide (j.1=0)then(i64 (j.1+1)).bind λw=>i (w,j.2.1,t.2,u.1,u.2)else(yu u.2 j.2.2.2.2).bind λw=>if decide (w<0)then(i64 (j.1+1)).bind λx=>i (x,j.2.1,t.2,u.1,u.2)else(i64 (j.1+1)).bind λx=>i (x,j.2.1,t.2,u.1,j.2.2.2.2)else(yu u.1 j.2.2.2.1).bind λw=>if decide (w<0)then if decide (j.1=0)then(i64 (j.1+1)).bind λx=>i (x,j.2.1,t.2,u.1,u.2)else(yu u.2 j.2.2.2.2).bind λx=>if decide (x<0)then(i64 (j.1+1)).bind λy=>i (y,j.2.1,t.2,u.1,u.2)else(i64 (j.1+1)).bind λy=>i (y,j.2.1,t.2,u.1,j.2.2.2.2)else if decide (j.1=0)then(i64 (j.1+1)).bind λx=>i (x,j.2.1,t.2,j.2.2.2.1,u.2)else(yu u.2 j.2.2.2.2).bind λx=>if decide (x<0)then(i64 (j.1+1)).bind λy=>i (y,j.2.1,t.2,j.2.2.2.1,u.2)else(i64 (j.1+1)).bind λy=>i (y,j.2.1,t.2,j.2.2.2.1,j.2.2.2.2)else(yu t.2 j.2.2.1).bind λw=>if decide (0<w)then if decide (j.1=0)then if decide (j.1=0)then(i64 (j.1+1)).bind λx=>i (x,j.2.1,t.2,u.1,u.2)else(yu u.2 j.2.2.2.2).bind λx=>if decide (x<0)then(i64 (j.1+1)).bind λy=>i (y,j.2.1,t.2,u.1,u.2)else(i64 (j.1+1)).bind λy=>i (y,j.2.1,t.2,u.1,j.2.2.2.2)else(yu u.1 j.2.2.2.1).bind λx=>if decide (x<0)then if decide (j.1=0)then(i64 (j.1+1)).bind λy=>i (y,j.2.1,t.2,u.1,u.2)else(yu u.2 j.2.2.2.2).bind λy=>if decide (y<0)then(i64 (j.1+1)).bind λz=>i (z,j.2.1,t.2,u.1,u.2)else(i64 (j.1+1)).bind λz=>i (z,j.2.1,t.2,u.1,j.2.2.2.2)else if decide (j.1=0)then(i64 (j.1+1)).bind λy=>i (y,j.2.1,t.2,j.2.2.2.1,u.2)else(yu u.2 j.2.2.2.2).bind λy=>if decide (y<0)then(i64 (j.1+1)).bind λz=>i (z,j.2.1,t.2,j.2.2.2.1,u.2)else(i64 (j.1+1)).bind λz=>i (z,j.2.1,t.2,j.2.2.2.1,j.2.2.2.2)else if decide (j.1=0)then if decide (j.1=0)then(i64 (j.1+1)).bind λx=>i (x,j.2.1,j.2.2.1,u.1,u.2)else(yu u.2 j.2.2.2.2).bind λx=>if decide (x<0)then(i64 (j.1+1)).bind λy=>i (y,j.2.1,j.2.2.1,u.1,u.2)else(i64 (j.1+1)).bind λy=>i (y,j.2.1,j.2.2.1,u.1,j.2.2.2.2)else(yu u.1 j.2.2.2.1).bind λx=>if decide (x<0)then if decide (j.1=0)then(i64 (j.1+1)).bind λy=>i (y,j.2.1,j.2.2.1,u.1,u.2)else(yu u.2 j.2.2.2.2).bind λy=>if decide (y<0)then(i64 (j.1+1)).bind λz=>i (z,j.2.1,j.2.2.1,u.1,u.2)else(i64 (j.1+1)).bind λz=>i (z,j.2.1,j.2.2.1,u.1,j.2.2.2.2)else if decide (j.1=0)then(i64 (j.1+1)).bind λy=>i (y,j.2.1,j.2.2.1,j.2.2.2.1,u.2)else(yu u.2 j.2.2.2.2).bind λy=>if decide (y<0)then(i64 (j.1+1)).bind λz=>i (z,j.2.1,j.2.2.1,j.2.2.2.1,u.2)else(i64 (j.1+1)).bind λz=>i (z,j.2.1,j.2.2.1,j.2.2.2.1,j.2.2.2.2)else(yu j.2.1 j.2.2.2.1).bind λk=>if decide (0<k)then some ((0,0),(0,0),false)else(yu j.2.2.1 j.2.2.2.2).bind λl=>if decide (0<l)then some ((0,0),(0,0),false)else some ((j.2.1,j.2.2.1),j.2.2.2,true)) (zi 12) (0,0,0,0,0)
def Dk:=zm D2 101 ⟨[dx,dx,fM],(.tup3 bw bw .bool),342516,λx=>vz x.1 x.2.1 x.2.2⟩
theorem TH:ad Dk:=cn [(101,[hi [] [5,6,7,9,10,12,13,14] [(15,false,[.hole])] [(7,[.hole,.hole]),(8,[.hole,.hole])] [] [i6,.rat,.rat,.rat,.rat] 12])] [342516] Um
def SX(a:List Int)(b:List (List (Int×Int)))(c:(Int×List Pc×List Pl)->Option ((List Pc)×(List Fq)×List Pl))(d:Int×List Pc×List Pl):Option ((List Pc)×(List Fq)×List Pl):=zk (λe (f:Int×List (Int×Int))=>if decide (f.1<4)then(ae b d.1).bind λg=>(ae g f.1).bind λh=>(Ra h 0).bind λi=>(i64 (i.1+0)).bind λj=>(i64 (i.2+0)).bind λk=>(app f.2 [(j,k)]).bind λl=>(i64 (f.1+1)).bind λm=>e (m,l)else(i64 (10+d.1)).bind λg=>(tM g f.2).bind λh=>(i64 (21+d.1)).bind λi=>(fB a i 3).bind λj=>(dh j 4).bind λk=>(i64 (25+d.1)).bind λl=>(fB a l 3).bind λm=>(i64 (1+m)).bind λn=>(dh n 1).bind λo=>(i64 (29+d.1)).bind λp=>(fB a p 3).bind λq=>(dh q 2).bind λr=>(qF o r).bind λs=>(app d.2.1 [(h.1,h.2.1,h.2.2.1,h.2.2.2.1,h.2.2.2.2.1,k,o,s,h.2.2.2.2.2.2.2.2)]).bind λt=>(gx).bind λu=>zk (λv (w:Int×Rat×Rat)=>if 4=0 then none else if decide (w.1<(Int.tmod 4 4))then(jL w.2.2).bind λx=>(i64 (w.1+1)).bind λy=>v (y,x,w.2.1)else(m6 0 0).bind λx=>(Lw w.2 x).bind λy=>(iA (0,0) y).bind λz=>(app d.2.2 [(w.2,z)]).bind λA=>(i64 (d.1+1)).bind λB=>c (B,t,A)) (zi 12) (0,u.1,u.2)) (zi 12) (0,[])
def M8(a:List Int)(b:List (List (Int×Int)))(c:(Int×List Pc×List Pl)->Option ((List Pc)×(List Fq)×List Pl))(d:Int×List Pc×List Pl)(e f g:Int):Option ((List Pc)×(List Fq)×List Pl):=zk (λh (i:Int×List (Int×Int))=>if decide (i.1<4)then(ae b d.1).bind λj=>(ae j i.1).bind λk=>(Ra k e).bind λl=>(i64 (l.1+f)).bind λm=>(i64 (l.2+g)).bind λn=>(app i.2 [(m,n)]).bind λo=>(i64 (i.1+1)).bind λp=>h (p,o)else(i64 (10+d.1)).bind λj=>(tM j i.2).bind λk=>(i64 (21+d.1)).bind λl=>(fB a l 3).bind λm=>(dh m 4).bind λn=>(i64 (25+d.1)).bind λo=>(fB a o 3).bind λp=>(i64 (1+p)).bind λq=>(dh q 1).bind λr=>(i64 (29+d.1)).bind λs=>(fB a s 3).bind λt=>(dh t 2).bind λu=>(qF r u).bind λv=>(app d.2.1 [(k.1,k.2.1,k.2.2.1,k.2.2.2.1,k.2.2.2.2.1,n,r,v,k.2.2.2.2.2.2.2.2)]).bind λw=>(gx).bind λx=>zk (λy (z:Int×Rat×Rat)=>(i64 (4-e)).bind λA=>if 4=0 then none else if decide (z.1<(Int.tmod A 4))then(jL z.2.2).bind λB=>(i64 (z.1+1)).bind λC=>y (C,B,z.2.1)else(m6 f g).bind λB=>(Lw z.2 B).bind λC=>(iA (0,0) C).bind λD=>(app d.2.2 [(z.2,D)]).bind λE=>(i64 (d.1+1)).bind λF=>c (F,w,E)) (zi 12) (0,x.1,x.2)) (zi 12) (0,[])
def SY(a:Int)(b:Int×List Pc×List Pl):Option ((List Pc)×(List Fq)×List Pl):=(ae [(0,1,1,3),(0,3,2,0),(1,2,2,0),(2,3,3,1)] 0).bind λc=>(ae [(0,1,1,3),(0,3,2,0),(1,2,2,0),(2,3,3,1)] 0).bind λd=>if decide (d.2.1<a)then(ae b.2.2 d.1).bind λe=>(ae b.2.2 d.1).bind λf=>(ae b.2.2 d.2.1).bind λg=>(ae b.2.2 d.2.1).bind λh=>(jC f.1).bind λi=>(fR i h.1).bind λj=>(ae b.2.1 d.1).bind λk=>(ae b.2.1 d.1).bind λl=>(ae b.2.1 d.2.1).bind λm=>(ae b.2.1 d.2.1).bind λn=>(vz l n (d.1,d.2.1,d.2.2.1,d.2.2.2,1,j,(0,0),0,0)).bind λo=>(app ([]:List Fq) [(d.1,d.2.1,d.2.2.1,d.2.2.2,1,j,o.1,o.2.1)]).bind λp=>(ae [(0,1,1,3),(0,3,2,0),(1,2,2,0),(2,3,3,1)] 1).bind λq=>(ae [(0,1,1,3),(0,3,2,0),(1,2,2,0),(2,3,3,1)] 1).bind λr=>if decide (r.2.1<a)then(ae b.2.2 r.1).bind λs=>(ae b.2.2 r.1).bind λt=>(ae b.2.2 r.2.1).bind λu=>(ae b.2.2 r.2.1).bind λv=>(jC t.1).bind λw=>(fR w v.1).bind λx=>(ae b.2.1 r.1).bind λy=>(ae b.2.1 r.1).bind λz=>(ae b.2.1 r.2.1).bind λA=>(ae b.2.1 r.2.1).bind λB=>(vz z B (r.1,r.2.1,r.2.2.1,r.2.2.2,1,x,(0,0),0,0)).bind λC=>(app p [(r.1,r.2.1,r.2.2.1,r.2.2.2,1,x,C.1,C.2.1)]).bind λD=>(ae [(0,1,1,3),(0,3,2,0),(1,2,2,0),(2,3,3,1)] 2).bind λE=>(ae [(0,1,1,3),(0,3,2,0),(1,2,2,0),(2,3,3,1)] 2).bind λF=>if decide (F.2.1<a)then(ae b.2.2 F.1).bind λG=>(ae b.2.2 F.1).bind λH=>(ae b.2.2 F.2.1).bind λI=>(ae b.2.2 F.2.1).bind λJ=>(jC H.1).bind λK=>(fR K J.1).bind λL=>(ae b.2.1 F.1).bind λM=>(ae b.2.1 F.1).bind λN=>(ae b.2.1 F.2.1).bind λO=>(ae b.2.1 F.2.1).bind λP=>(vz N P (F.1,F.2.1,F.2.2.1,F.2.2.2,1,L,(0,0),0,0)).bind λQ=>(app D [(F.1,F.2.1,F.2.2.1,F.2.2.2,1,L,Q.1,Q.2.1)]).bind λR=>(ae [(0,1,1,3),(0,3,2,0),(1,2,2,0),(2,3,3,1)] 3).bind λS=>(ae [(0,1,1,3),(0,3,2,0),(1,2,2,0),(2,3,3,1)] 3).bind λT=>if decide (T.2.1<a)then(ae b.2.2 T.1).bind λU=>(ae b.2.2 T.1).bind λV=>(ae b.2.2 T.2.1).bind λW=>(ae b.2.2 T.2.1).bind λX=>(jC V.1).bind λY=>(fR Y X.1).bind λZ=>(ae b.2.1 T.1).bind λa0=>(ae b.2.1 T.1).bind λa1=>(ae b.2.1 T.2.1).bind λa2=>(ae b.2.1 T.2.1).bind λa3=>(vz a1 a3 (T.1,T.2.1,T.2.2.1,T.2.2.2,1,Z,(0,0),0,0)).bind λa4=>(app R [(T.1,T.2.1,T.2.2.1,T.2.2.2,1,Z,a4.1,a4.2.1)]).bind λa5=>some (b.2.1,a5,b.2.2)else some (b.2.1,R,b.2.2)else(ae [(0,1,1,3),(0,3,2,0),(1,2,2,0),(2,3,3,1)] 3).bind λG=>(ae [(0,1,1,3),(0,3,2,0),(1,2,2,0),(2,3,3,1)] 3).bind λH=>if decide (H.2.1<a)then(ae b.2.2 H.1).bind λI=>(ae b.2.2 H.1).bind λJ=>(ae b.2.2 H.2.1).bind λK=>(ae b.2.2 H.2.1).bind λL=>(jC J.1).bind λM=>(fR M L.1).bind λN=>(ae b.2.1 H.1).bind λO=>(ae b.2.1 H.1).bind λP=>(ae b.2.1 H.2.1).bind λQ=>(ae b.2.1 H.2.1).bind λR=>(vz P R (H.1,H.2.1,H.2.2.1,H.2.2.2,1,N,(0,0),0,0)).bind λS=>(app D [(H.1,H.2.1,H.2.2.1,H.2.2.2,1,N,S.1,S.2.1)]).bind λT=>some (b.2.1,T,b.2.2)else some (b.2.1,D,b.2.2)else(ae [(0,1,1,3),(0,3,2,0),(1,2,2,0),(2,3,3,1)] 2).bind λs=>(ae [(0,1,1,3),(0,3,2,0),(1,2,2,0),(2,3,3,1)] 2).bind λt=>if decide (t.2.1<a)then(ae b.2.2 t.1).bind λu=>(ae b.2.2 t.1).bind λv=>(ae b.2.2 t.2.1).bind λw=>(ae b.2.2 t.2.1).bind λx=>(jC v.1).bind λy=>(fR y x.1).bind λz=>(ae b.2.1 t.1).bind λA=>(ae b.2.1 t.1).bind λB=>(ae b.2.1 t.2.1).bind λC=>(ae b.2.1 t.2.1).bind λD=>(vz B D (t.1,t.2.1,t.2.2.1,t.2.2.2,1,z,(0,0),0,0)).bind λE=>(app p [(t.1,t.2.1,t.2.2.1,t.2.2.2,1,z,E.1,E.2.1)]).bind λF=>(ae [(0,1,1,3),(0,3,2,0),(1,2,2,0),(2,3,3,1)] 3).bind λG=>(ae [(0,1,1,3),(0,3,2,0),(1,2,2,0),(2,3,3,1)] 3).bind λH=>if decide (H.2.1<a)then(ae b.2.2 H.1).bind λI=>(ae b.2.2 H.1).bind λJ=>(ae b.2.2 H.2.1).bind λK=>(ae b.2.2 H.2.1).bind λL=>(jC J.1).bind λM=>(fR M L.1).bind λN=>(ae b.2.1 H.1).bind λO=>(ae b.2.1 H.1).bind λP=>(ae b.2.1 H.2.1).bind λQ=>(ae b.2.1 H.2.1).bind λR=>(vz P R (H.1,H.2.1,H.2.2.1,H.2.2.2,1,N,(0,0),0,0)).bind λS=>(app F [(H.1,H.2.1,H.2.2.1,H.2.2.2,1,N,S.1,S.2.1)]).bind λT=>some (b.2.1,T,b.2.2)else some (b.2.1,F,b.2.2)else(ae [(0,1,1,3),(0,3,2,0),(1,2,2,0),(2,3,3,1)] 3).bind λu=>(ae [(0,1,1,3),(0,3,2,0),(1,2,2,0),(2,3,3,1)] 3).bind λv=>if decide (v.2.1<a)then(ae b.2.2 v.1).bind λw=>(ae b.2.2 v.1).bind λx=>(ae b.2.2 v.2.1).bind λy=>(ae b.2.2 v.2.1).bind λz=>(jC x.1).bind λA=>(fR A z.1).bind λB=>(ae b.2.1 v.1).bind λC=>(ae b.2.1 v.1).bind λD=>(ae b.2.1 v.2.1).bind λE=>(ae b.2.1 v.2.1).bind λF=>(vz D F (v.1,v.2.1,v.2.2.1,v.2.2.2,1,B,(0,0),0,0)).bind λG=>(app p [(v.1,v.2.1,v.2.2.1,v.2.2.2,1,B,G.1,G.2.1)]).bind λH=>some (b.2.1,H,b.2.2)else some (b.2.1,p,b.2.2)else(ae [(0,1,1,3),(0,3,2,0),(1,2,2,0),(2,3,3,1)] 1).bind λe=>(ae [(0,1,1,3),(0,3,2,0),(1,2,2,0),(2,3,3,1)] 1).bind λf=>if decide (f.2.1<a)then(ae b.2.2 f.1).bind λg=>(ae b.2.2 f.1).bind λh=>(ae b.2.2 f.2.1).bind λi=>(ae b.2.2 f.2.1).bind λj=>(jC h.1).bind λk=>(fR k j.1).bind λl=>(ae b.2.1 f.1).bind λm=>(ae b.2.1 f.1).bind λn=>(ae b.2.1 f.2.1).bind λo=>(ae b.2.1 f.2.1).bind λp=>(vz n p (f.1,f.2.1,f.2.2.1,f.2.2.2,1,l,(0,0),0,0)).bind λq=>(app ([]:List Fq) [(f.1,f.2.1,f.2.2.1,f.2.2.2,1,l,q.1,q.2.1)]).bind λr=>(ae [(0,1,1,3),(0,3,2,0),(1,2,2,0),(2,3,3,1)] 2).bind λs=>(ae [(0,1,1,3),(0,3,2,0),(1,2,2,0),(2,3,3,1)] 2).bind λt=>if decide (t.2.1<a)then(ae b.2.2 t.1).bind λu=>(ae b.2.2 t.1).bind λv=>(ae b.2.2 t.2.1).bind λw=>(ae b.2.2 t.2.1).bind λx=>(jC v.1).bind λy=>(fR y x.1).bind λz=>(ae b.2.1 t.1).bind λA=>(ae b.2.1 t.1).bind λB=>(ae b.2.1 t.2.1).bind λC=>(ae b.2.1 t.2.1).bind λD=>(vz B D (t.1,t.2.1,t.2.2.1,t.2.2.2,1,z,(0,0),0,0)).bind λE=>(app r [(t.1,t.2.1,t.2.2.1,t.2.2.2,1,z,E.1,E.2.1)]).bind λF=>(ae [(0,1,1,3),(0,3,2,0),(1,2,2,0),(2,3,3,1)] 3).bind λG=>(ae [(0,1,1,3),(0,3,2,0),(1,2,2,0),(2,3,3,1)] 3).bind λH=>if decide (H.2.1<a)then(ae b.2.2 H.1).bind λI=>(ae b.2.2 H.1).bind λJ=>(ae b.2.2 H.2.1).bind λK=>(ae b.2.2 H.2.1).bind λL=>(jC J.1).bind λM=>(fR M L.1).bind λN=>(ae b.2.1 H.1).bind λO=>(ae b.2.1 H.1).bind λP=>(ae b.2.1 H.2.1).bind λQ=>(ae b.2.1 H.2.1).bind λR=>(vz P R (H.1,H.2.1,H.2.2.1,H.2.2.2,1,N,(0,0),0,0)).bind λS=>(app F [(H.1,H.2.1,H.2.2.1,H.2.2.2,1,N,S.1,S.2.1)]).bind λT=>some (b.2.1,T,b.2.2)else some (b.2.1,F,b.2.2)else(ae [(0,1,1,3),(0,3,2,0),(1,2,2,0),(2,3,3,1)] 3).bind λu=>(ae [(0,1,1,3),(0,3,2,0),(1,2,2,0),(2,3,3,1)] 3).bind λv=>if decide (v.2.1<a)then(ae b.2.2 v.1).bind λw=>(ae b.2.2 v.1).bind λx=>(ae b.2.2 v.2.1).bind λy=>(ae b.2.2 v.2.1).bind λz=>(jC x.1).bind λA=>(fR A z.1).bind λB=>(ae b.2.1 v.1).bind λC=>(ae b.2.1 v.1).bind λD=>(ae b.2.1 v.2.1).bind λE=>(ae b.2.1 v.2.1).bind λF=>(vz D F (v.1,v.2.1,v.2.2.1,v.2.2.2,1,B,(0,0),0,0)).bind λG=>(app r [(v.1,v.2.1,v.2.2.1,v.2.2.2,1,B,G.1,G.2.1)]).bind λH=>some (b.2.1,H,b.2.2)else some (b.2.1,r,b.2.2)else(ae [(0,1,1,3),(0,3,2,0),(1,2,2,0),(2,3,3,1)] 2).bind λg=>(ae [(0,1,1,3),(0,3,2,0),(1,2,2,0),(2,3,3,1)] 2).bind λh=>if decide (h.2.1<a)then(ae b.2.2 h.1).bind λi=>(ae b.2.2 h.1).bind λj=>(ae b.2.2 h.2.1).bind λk=>(ae b.2.2 h.2.1).bind λl=>(jC j.1).bind λm=>(fR m l.1).bind λn=>(ae b.2.1 h.1).bind λo=>(ae b.2.1 h.1).bind λp=>(ae b.2.1 h.2.1).bind λq=>(ae b.2.1 h.2.1).bind λr=>(vz p r (h.1,h.2.1,h.2.2.1,h.2.2.2,1,n,(0,0),0,0)).bind λs=>(app ([]:List Fq) [(h.1,h.2.1,h.2.2.1,h.2.2.2,1,n,s.1,s.2.1)]).bind λt=>(ae [(0,1,1,3),(0,3,2,0),(1,2,2,0),(2,3,3,1)] 3).bind λu=>(ae [(0,1,1,3),(0,3,2,0),(1,2,2,0),(2,3,3,1)] 3).bind λv=>if decide (v.2.1<a)then(ae b.2.2 v.1).bind λw=>(ae b.2.2 v.1).bind λx=>(ae b.2.2 v.2.1).bind λy=>(ae b.2.2 v.2.1).bind λz=>(jC x.1).bind λA=>(fR A z.1).bind λB=>(ae b.2.1 v.1).bind λC=>(ae b.2.1 v.1).bind λD=>(ae b.2.1 v.2.1).bind λE=>(ae b.2.1 v.2.1).bind λF=>(vz D F (v.1,v.2.1,v.2.2.1,v.2.2.2,1,B,(0,0),0,0)).bind λG=>(app t [(v.1,v.2.1,v.2.2.1,v.2.2.2,1,B,G.1,G.2.1)]).bind λH=>some (b.2.1,H,b.2.2)else some (b.2.1,t,b.2.2)else(ae [(0,1,1,3),(0,3,2,0),(1,2,2,0),(2,3,3,1)] 3).bind λi=>(ae [(0,1,1,3),(0,3,2,0),(1,2,2,0),(2,3,3,1)] 3).bind λj=>if decide (j.2.1<a)then(ae b.2.2 j.1).bind λk=>(ae b.2.2 j.1).bind λl=>(ae b.2.2 j.2.1).bind λm=>(ae b.2.2 j.2.1).bind λn=>(jC l.1).bind λo=>(fR o n.1).bind λp=>(ae b.2.1 j.1).bind λq=>(ae b.2.1 j.1).bind λr=>(ae b.2.1 j.2.1).bind λs=>(ae b.2.1 j.2.1).bind λt=>(vz r t (j.1,j.2.1,j.2.2.1,j.2.2.2,1,p,(0,0),0,0)).bind λu=>(app ([]:List Fq) [(j.1,j.2.1,j.2.2.1,j.2.2.2,1,p,u.1,u.2.1)]).bind λv=>some (b.2.1,v,b.2.2)else some (b.2.1,[],b.2.2)
def SZ(a:List Int)(b:List (List (Int×Int)))(c:Int)(d:(Int×List Pc×List Pl)->Option ((List Pc)×(List Fq)×List Pl))(e:Int×List Pc×List Pl):Option ((List Pc)×(List Fq)×List Pl):=if decide (e.1<c)then(i64 (9+e.1)).bind λf=>(fB a f 4).bind λg=>(i64 (13+e.1)).bind λh=>(fB a h 9).bind λi=>(i64 (i-4)).bind λj=>(i64 (17+e.1)).bind λk=>(fB a k 9).bind λl=>(i64 (l-4)).bind λm=>if decide (e.1=0)then SX a b d e else M8 a b d e g j m else SY c e
def Lg(a:List Int)(b:List (List (Int×Int))):Option ((List Pc)×(List Fq)×List Pl):=(fB a 8 3).bind λc=>(i64 (2+c)).bind λd=>zk (SZ a b d) (zi 12) (0,[],[])
def z8(a:List Int):Option ((List Pc)×(List Fq)×List Pl):=(fB a 0 5).bind λb=>(i64 (4+b)).bind λc=>(fB a 1 5).bind λd=>(i64 (4+d)).bind λe=>(i64 (c-1)).bind λf=>(fB a 2 f).bind λg=>(i64 (1+g)).bind λh=>(i64 (e-1)).bind λi=>(fB a 3 i).bind λj=>(i64 (1+j)).bind λk=>(i64 (c-1)).bind λl=>(i64 (e-1)).bind λm=>(i64 (c-1)).bind λn=>(i64 (e-1)).bind λo=>(fB a 4 l).bind λp=>(i64 (1+p)).bind λq=>(fB a 5 m).bind λr=>(i64 (1+r)).bind λs=>(fB a 6 n).bind λt=>(i64 (1+t)).bind λu=>(fB a 7 o).bind λv=>(i64 (1+v)).bind λw=>(Qv c e (h,k) q s u w).bind λx=>(RM x).bind λy=>if !y then(Qv 4 4 (2,2) 2 2 2 2).bind λz=>Lg a z else Lg a x
def T8c:=zm Dk 8 ⟨[S3],Le,463811925,λx=>z8 x⟩
theorem t8:ad T8c:=cn [(8,[hi [] [0,2,6,7,8] [(9,false,[.hole])] [(2,[.own 0,.nil,.own 1])] [⟨.o 2 0,72,25,dx⟩,⟨.o 2 2,54,16,hZ⟩] [i6,tG,tV] 12,hi [] [9,10,11] [(12,false,[.own 0]),(13,false,[.hole])] [] [⟨.s 12,77,2,tJ⟩] [i6,tW] 12,hi [] [9,10,11,16] [(17,false,[.hole])] [(10,[.hole,.hole])] [] [i6,.rat,.rat] 12,{frz:=[],cst:=[],vars:=[],objs:=[],own:=[],ts:=[],fuel:=5,un:=true}])] [463811925,352665] TH
def z43(a:Int):Option V:=(FG a 64).bind λb=>if 4=0 then none else(i64 (Int.tdiv b 4)).bind λc=>if 4=0 then none else(i64 (1+(Int.tmod c 4))).bind λd=>if 16=0 then none else(i64 (Int.tdiv b 16)).bind λe=>(i64 (d*d)).bind λf=>(i64 (e*e)).bind λg=>(i64 (f+g)).bind λh=>(i64 (d*d)).bind λi=>(i64 (e*e)).bind λj=>(i64 (i-j)).bind λk=>(dh k h).bind λl=>(i64 (2*d)).bind λm=>(i64 (m*e)).bind λn=>(dh n h).bind λo=>zk (λp (q:Int×Rat×Rat)=>if 4=0 then none else if decide (q.1<(Int.tmod b 4))then(jL q.2.2).bind λr=>(i64 (q.1+1)).bind λs=>p (s,r,q.2.1)else some q.2) (zi 12) (0,l,o)
def Mx:=zm T8c 43 ⟨[i6],bG,3274,λx=>z43 x⟩
theorem t43:ad Mx:=cn [(43,[hi [] [2,3,7] [(8,false,[.hole])] [(1,[.hole,.hole])] [] [i6,.rat,.rat] 12])] [3274] t8
def z9(a:List Fq)(b:Int)(c:Int):Option (List Fq):=if decide ((a.length:Int)=0)then some []else(app ([]:List Fq) a).bind λd=>(FG c (a.length:Int)).bind λe=>if 4=0 then none else(i64 (Int.tdiv c 4)).bind λf=>(FG f 32).bind λg=>(FG b 7).bind λh=>if decide (h=0)then(i64 (e+1)).bind λi=>(GD d e i).bind λj=>some j else if decide (h=1)then(z43 g).bind λi=>(ae d e).bind λj=>(ae d e).bind λk=>some (zM d (Int.toNat e) (k.1,k.2.1,k.2.2.1,k.2.2.2.1,k.2.2.2.2.1,i,k.2.2.2.2.2.2))else if decide (h=2)then if 5=0 then none else(ae d e).bind λi=>(ae d e).bind λj=>some (zM d (Int.toNat e) (j.1,j.2.1,(Int.tmod g 5),j.2.2.2))else if decide (h=3)then if 5=0 then none else(ae d e).bind λi=>(ae d e).bind λj=>some (zM d (Int.toNat e) (j.1,j.2.1,j.2.2.1,(Int.tmod g 5),j.2.2.2.2))else if decide (h=4)then if 5=0 then none else(ae d e).bind λi=>(ae d e).bind λj=>some (zM d (Int.toNat e) (j.1,j.2.1,j.2.2.1,j.2.2.2.1,(Int.tmod g 5),j.2.2.2.2.2))else if decide (h=5)then if 5=0 then none else(i64 ((Int.tmod g 5)-1)).bind λi=>(ae d e).bind λj=>(ae d e).bind λk=>if 5=0 then none else(i64 (Int.tdiv g 5)).bind λl=>if 5=0 then none else(ae (zM d (Int.toNat e) (i,k.2)) e).bind λm=>(ae (zM d (Int.toNat e) (i,k.2)) e).bind λn=>some (zM (zM d (Int.toNat e) (i,k.2)) (Int.toNat e) (n.1,(Int.tmod l 5),n.2.2))else(ae a e).bind λi=>if 4=0 then none else if 4=0 then none else(i64 (Int.tdiv g 4)).bind λj=>if 4=0 then none else(app d [(i.1,i.2.1,(Int.tmod g 4),(Int.tmod j 4),i.2.2.2.2)]).bind λk=>some k
def T9c:=zm Mx 9 ⟨[fH,i6,i6],fH,3282,λx=>z9 x.1 x.2.1 x.2.2⟩
theorem t9:ad T9c:=cn [] [3282] t43
def Qw(a:List Rat):Option Rat:=zk (λb (c:Int×Rat)=>if decide (c.1<a.length)then(ae a c.1).bind λd=>(qF c.2 d).bind λe=>(i64 (c.1+1)).bind λf=>b (f,e)else some c.2) (zi 12) (0,0)
def Dv:=zm T9c 121 ⟨[iu],.rat,4815,λx=>Qw x⟩
theorem TP:ad Dv:=cn [(121,[hi [] [2,3,6,7] [(8,false,[.hole])] [(1,[.hole])] [] [i6,.rat] 12])] [4815] t9
def FI(a:Rat×Rat):Option Bool:=(qu a.1).bind λb=>if b then(qu a.2).bind λc=>if c then(qG a.1 a.1).bind λd=>(qG a.2 a.2).bind λe=>(Qw [d,e]).bind λf=>(dh 1 1).bind λg=>(wm f g).bind λh=>some h else some false else some false
def MF:=zm Dv 63 ⟨[bG],.bool,6434,λx=>FI x⟩
theorem t63:ad MF:=cn [] [6434] TP
def tN(a:Int)(b:List Fq):Option Bool:=zk (λc (d:Int)=>if decide (d<b.length)then(ae b d).bind λe=>if decide (e.1<0)then some (!(decide (0<=d)))else if decide (e.2.1<=e.1)then some (!(decide (0<=d)))else if decide (a<=e.2.1)then some (!(decide (0<=d)))else(FI e.2.2.2.2.2.1).bind λf=>if !f then some (!(decide (0<=d)))else(i64 (d+1)).bind λg=>c g else some true) (zi 12) 0
def My:=zm MF 44 ⟨[i6,fH],.bool,77222,λx=>tN x.1 x.2⟩
theorem t44:ad My:=cn [(173,[hi [] [0,1,7] [(8,false,[.hole])] [] [] [i6] 12])] [77222,77221,77221,6435] t63
def RP(a:List Int)(b:Int)(c:Int):Option (List Int):=if 0<a.length then(app ([]:List (Int)) a).bind λd=>zk (λe (f:Int×List Int)=>if decide (f.1<a.length)then(ae a f.1).bind λg=>if decide (g=b)then(ae f.2 f.1).bind λh=>(ae f.2 f.1).bind λi=>(i64 (f.1+1)).bind λj=>e (j,(zM f.2 (Int.toNat f.1) c))else(i64 (f.1+1)).bind λh=>e (h,f.2)else some f.2) (zi 12) (0,d)else none
def MC:=zm My 55 ⟨[S3,i6,i6],S3,3,λx=>RP x.1 x.2.1 x.2.2⟩
theorem t55:ad MC:=cn [(55,[hi [] [1,2,7,12,13] [(14,false,[.hole])] [(1,[.lst])] [] [i6,S3] 12])] [3,2] t44
def tL(a:Int)(b:List Fq):Option (List Int):=if decide (a<0)then some []else if decide (12<a)then some []else(tN a b).bind λc=>if !c then some []else zk (λd (e:Int×List Int)=>if decide (e.1<a)then(app e.2 [e.1]).bind λf=>(i64 (e.1+1)).bind λg=>d (g,f)else zk (λf (g:List Int×Int)=>if decide (g.2<b.length)then(ae b g.2).bind λh=>(ae g.1 h.1).bind λi=>(ae g.1 h.2.1).bind λj=>(RP g.1 (max i j) (min i j)).bind λk=>(i64 (g.2+1)).bind λl=>f (k,l)else some g.1) (zi 12) (e.2,0)) (zi 12) (0,[])
def Mb:=zm MC 17 ⟨[i6,fH],S3,77319,λx=>tL x.1 x.2⟩
theorem t17:ad Mb:=cn [(17,[hi [] [1,23] [(5,false,[.own 0]),(24,false,[.hole])] [] [⟨.s 5,3,1,i6⟩] [i6,S3] 12,hi [5] [32,33] [(5,false,[.hole]),(34,false,[.hole])] [] [] [S3,i6] 12])] [77319] t55
def m7(a:Rat×Rat)(b:Rat×Rat):Option Bool:=(wm a.1 b.1).bind λc=>if c then(wm a.2 b.2).bind λd=>some d else some false
def Mz:=zm Mb 47 ⟨[bG,bG],.bool,26,λx=>m7 x.1 x.2⟩
theorem t47:ad Mz:=cn [] [26] t17
def Xd(a:Int)(b:Int):Option V:=(dh a 1).bind λc=>(dh b 1).bind λd=>some (c,d)
def DB:=zm Mz 127 ⟨[i6,i6],bw,483,λx=>Xd x.1 x.2⟩
theorem TU:ad DB:=cn [] [483] t47
def JX(a:Pc):Option (List V):=zk (λb (c:Int×List V)=>if decide (c.1<a.2.2.1.length)then(ae a.2.2.1 c.1).bind λd=>(Xd d.1 d.2).bind λe=>(app c.2 [e]).bind λf=>(i64 (c.1+1)).bind λg=>b (g,f)else some c.2) (zi 12) (0,[])
def DM:=zm DB 154 ⟨[dx],dz,5834,λx=>JX x⟩
theorem T7:ad DM:=cn [(154,[hi [] [7,8] [(3,false,[.own 0]),(9,false,[.hole])] [] [⟨.s 3,38,8,bw⟩] [i6,dz] 12])] [5834] TU
def Wl(a0:Int)(a:Int)(b:Int):Option Bool:=(if (decide (a<=a0))=true then some (decide (a0<=b))else some false)
def Er:=zm DM 238 ⟨[i6,i6,i6],.bool,0,λx=>Wl x.1 x.2.1 x.2.2⟩
theorem UI:ad Er:=cn [] [0] T7
def B4(a:Pc):Option Bool:=zk (λb (c:Int)=>if decide (c<a.2.2.1.length)then(ae a.2.2.1 c).bind λd=>(Wl d.1 (-65536) 65536).bind λe=>if !e then some false else(Wl d.2 (-65536) 65536).bind λf=>if !f then some false else(i64 (c+1)).bind λg=>b g else zk (λd (e:Int)=>if decide (e<a.2.2.2.2.1.length)then(ae a.2.2.2.2.1 e).bind λf=>(Wl f 0 1024).bind λg=>if !g then some false else(i64 (e+1)).bind λh=>d h else(Wl a.1 0 999).bind λf=>if f then(Wl a.2.1 0 4).bind λg=>some g else some false) (zi 12) 0) (zi 12) 0
def D3:=zm Er 191 ⟨[dx],.bool,15,λx=>B4 x⟩
theorem Uo:ad D3:=cn [(191,[hi [] [1,8,9] [(10,false,[.hole])] [] [] [i6] 12,hi [] [1,26,27] [(28,false,[.hole])] [] [] [i6] 12])] [15] UI
def Iu(a0:Pc):Option (Rat×Rat×Rat×Rat×Rat):=some a0.2.2.2.2.2
def D4:=zm D3 192 ⟨[dx],iE,2,λx=>Iu x⟩
theorem Up:ad D4:=cn [] [2] Uo
def ZA(a:Rat×Rat)(b:Rat×Rat):Option V:=(wW a.1 b.1).bind λc=>(wW a.2 b.2).bind λd=>some (c,d)
def DA:=zm D4 126 ⟨[bw,bw],bw,819,λx=>ZA x.1 x.2⟩
theorem TT:ad DA:=cn [] [819] Up
def mU(a:Rat×Rat)(b:Rat×Rat):Option Rat:=(qG a.1 b.2).bind λc=>(qG a.2 b.1).bind λd=>(jL d).bind λe=>(Qw [c,e]).bind λf=>some f
def Ey:=zm DA 259 ⟨[bw,bw],.rat,5982,λx=>mU x.1 x.2⟩
theorem UP:ad Ey:=cn [] [5982] TT
def jZ(a:Rat×Rat)(b:Rat×Rat)(c:Rat×Rat):Option Int:=(ZA b a).bind λd=>(ZA c a).bind λe=>(mU d e).bind λf=>(qA f).bind λg=>some g
def Es:=zm Ey 241 ⟨[bw,bw,bw],i6,7626,λx=>jZ x.1 x.2.1 x.2.2⟩
theorem UJ:ad Es:=cn [] [7626] UP
def Qu(a:Rat×Rat)(b:Rat×Rat):Option Rat:=(qG a.1 b.1).bind λc=>(qG a.2 b.2).bind λd=>(Qw [c,d]).bind λe=>some e
def Ew:=zm Es 257 ⟨[bw,bw],.rat,5977,λx=>Qu x.1 x.2⟩
theorem UN:ad Ew:=cn [] [5977] UJ
def Q6(a:Rat×Rat)(b:Rat×Rat)(c:Rat×Rat):Option Bool:=(jZ a b c).bind λd=>if decide (d=0)then(ZA a c).bind λe=>(ZA b c).bind λf=>(Qu e f).bind λg=>(qA g).bind λh=>some (decide (h<=0))else some false
def EE:=zm Ew 267 ⟨[bw,bw,bw],.bool,15247,λx=>Q6 x.1 x.2.1 x.2.2⟩
theorem UW:ad EE:=cn [] [15247] UN
def tj(a:Rat×Rat)(b:Rat×Rat)(c:Rat×Rat)(d:Rat×Rat):Option Bool:=(jZ a b c).bind λe=>(jZ a b d).bind λf=>(i64 (e*f)).bind λg=>if decide (g<0)then(jZ c d a).bind λh=>(jZ c d b).bind λi=>(i64 (h*i)).bind λj=>if decide (j<0)then some true else(Q6 a b c).bind λk=>if k then some true else(Q6 a b d).bind λl=>if l then some true else(Q6 c d a).bind λm=>if m then some true else(Q6 c d b).bind λn=>some n else(Q6 a b c).bind λh=>if h then some true else(Q6 a b d).bind λi=>if i then some true else(Q6 c d a).bind λj=>if j then some true else(Q6 c d b).bind λk=>some k
def Et:=zm EE 242 ⟨[bw,bw,bw,bw],.bool,91496,λx=>tj x.1 x.2.1 x.2.2.1 x.2.2.2⟩
theorem UK:ad Et:=cn [] [91496] UW
def tk(a:List V):Option Rat:=zk (λb (c:Int×Rat)=>if decide (c.1<a.length)then(ae a c.1).bind λd=>(i64 (c.1+1)).bind λe=>if (a.length:Int)=0 then none else(ae a (Int.tmod e a.length)).bind λf=>(mU d f).bind λg=>(qF c.2 g).bind λh=>(i64 (c.1+1)).bind λi=>b (i,h)else(dh 1 2).bind λd=>(qG c.2 d).bind λe=>some e) (zi 12) (0,0)
def Eu:=zm Et 243 ⟨[dz],.rat,154089,λx=>tk x⟩
theorem UL:ad Eu:=cn [(289,[hi [] [0,1,5,6] [(7,false,[.hole])] [(1,[.hole])] [] [i6,.rat] 12])] [154089,76633,6384] UK
def mO(a:List V):Option Bool:=if decide ((a.length:Int)<3)then some false else if decide (12<(a.length:Int))then some false else zk (λb (c:Int)=>if decide (c<a.length)then(ae a c).bind λd=>(qu d.1).bind λe=>if !e then some false else(qu d.2).bind λf=>if !f then some false else(i64 (c+1)).bind λg=>b g else zk (λd (e:Int)=>if decide (e<a.length)then if (a.length:Int)=0 then none else(ae a (Int.tmod e a.length)).bind λf=>(i64 (e+1)).bind λg=>if (a.length:Int)=0 then none else(ae a (Int.tmod g a.length)).bind λh=>(i64 (e+2)).bind λi=>if (a.length:Int)=0 then none else(ae a (Int.tmod i a.length)).bind λj=>(jZ f h j).bind λk=>if decide (k=0)then some false else(i64 (e+2)).bind λl=>zk (λm (n:Int)=>if decide (n<a.length)then(i64 (n+1)).bind λo=>if (a.length:Int)=0 then none else if decide ((Int.tmod o a.length)≠e)then if (a.length:Int)=0 then none else(ae a (Int.tmod e a.length)).bind λp=>(i64 (e+1)).bind λq=>if (a.length:Int)=0 then none else(ae a (Int.tmod q a.length)).bind λr=>if (a.length:Int)=0 then none else(ae a (Int.tmod n a.length)).bind λs=>(i64 (n+1)).bind λt=>if (a.length:Int)=0 then none else(ae a (Int.tmod t a.length)).bind λu=>(tj p r s u).bind λv=>if v then some false else(i64 (n+1)).bind λw=>m w else(i64 (n+1)).bind λp=>m p else(i64 (e+1)).bind λo=>d o) (zi 12) l else(tk a).bind λf=>(qA f).bind λg=>some (decide (0<g))) (zi 12) 0) (zi 12) 0
def D6:=zm Eu 194 ⟨[dz],.bool,13424128,λx=>mO x⟩
theorem Ur:ad D6:=cn [(194,[hi [] [1,3,17,18] [(19,false,[.hole])] [] [] [i6] 12,hi [] [1,3,6,35] [(36,false,[.hole])] [] [] [i6] 12,hi [] [7,36] [(8,false,[.hole])] [] [] [i6] 12])] [13424128,1] UL
def BW(a:Pc):Option Int:=(B4 a).bind λb=>if !b then some 5 else if decide (12<(a.2.2.1.length:Int))then some 1 else if decide ((a.2.2.2.1.length:Int)≠(a.2.2.1.length:Int))then some 1 else if decide ((a.2.2.2.2.1.length:Int)≠(a.2.2.1.length:Int))then some 1 else(Iu a).bind λc=>zk (λd (e:Int)=>if decide (e<5)then(ae [c.1,c.2.1,c.2.2.1,c.2.2.2.1,c.2.2.2.2] e).bind λf=>(qu f).bind λg=>if !g then some 1 else(qA f).bind λh=>if decide (h<0)then some 1 else(i64 (e+1)).bind λi=>d i else(dh 4 1).bind λf=>(yu a.2.2.2.2.2.1 f).bind λg=>if decide (g<=0)then(yu a.2.2.2.2.2.2.2.2.2 f).bind λh=>(qA a.2.2.2.2.2.2.1).bind λi=>if decide (0<i)then(yu a.2.2.2.2.2.2.1 a.2.2.2.2.2.2.2.1).bind λj=>if decide (j<=0)then(dh 1000 1).bind λk=>(yu a.2.2.2.2.2.2.2.1 k).bind λl=>if !(decide (h<=0))then some 1 else if !(decide (l<=0))then some 1 else(qA a.2.2.2.2.2.2.2.2.1).bind λm=>if decide (m=0)then some 1 else(JX a).bind λn=>(mO n).bind λo=>if !o then some 1 else some 0 else if !(decide (h<=0))then some 1 else some 1 else if !(decide (h<=0))then some 1 else some 1 else(qA a.2.2.2.2.2.2.1).bind λh=>if decide (0<h)then(yu a.2.2.2.2.2.2.1 a.2.2.2.2.2.2.2.1).bind λi=>if decide (i<=0)then(dh 1000 1).bind λj=>(yu a.2.2.2.2.2.2.2.1 j).bind λk=>some 1 else some 1 else some 1) (zi 64) 0
def Dr:=zm D6 117 ⟨[dx],i6,13437728,λx=>BW x⟩
theorem TM:ad Dr:=cn [(117,[hi [] [1,32] [(33,false,[.hole])] [] [] [i6] 64])] [13437728] Ur
def BV(a:Pc):Option Bool:=(BW a).bind λb=>some (decide (b≠0))
def Dq:=zm Dr 116 ⟨[dx],.bool,13437729,λx=>BV x⟩
theorem TL:ad Dq:=cn [] [13437729] TM
def sE(a:List Pc)(b:List Fq):Option Bool:=zk (λc (d:Int)=>if decide (d<b.length)then(ae b d).bind λe=>(ae a e.1).bind λf=>(ae a e.2.1).bind λg=>if decide (e.2.2.1<0)then some false else if decide ((f.2.2.1.length:Int)<=e.2.2.1)then some false else if decide (e.2.2.2.1<0)then some false else if decide ((g.2.2.1.length:Int)<=e.2.2.2.1)then some false else if decide (e.2.2.2.2.1<1)then some false else if decide ((min (f.2.2.1.length:Int) (g.2.2.1.length:Int))<=e.2.2.2.2.1)then some false else(i64 (d+1)).bind λh=>c h else some true) (zi 12) 0
def Ds:=zm Dq 119 ⟨[tG,fH],.bool,49,λx=>sE x.1 x.2⟩
theorem TN:ad Ds:=cn [(119,[hi [] [0,9,10] [(11,false,[.hole])] [] [] [i6] 12])] [49] TL
def Rb(a:List Pc)(b:List Fq):Option Int:=if decide (12<(a.length:Int))then some 4 else if decide (64<(b.length:Int))then some 4 else zk (λc (d:Int)=>if decide (d<a.length)then(ae a d).bind λe=>(BV e).bind λf=>if f then if decide (0<=d)then some 1 else(tN (a.length:Int) b).bind λg=>if !g then some 1 else(sE a b).bind λh=>if !h then some 1 else some 0 else(i64 (d+1)).bind λg=>c g else(tN (a.length:Int) b).bind λe=>if !e then some 1 else(sE a b).bind λf=>if !f then some 1 else some 0) (zi 12) 0
def MD:=zm Ds 61 ⟨[tG,fH],i6,161330023,λx=>Rb x.1 x.2⟩
theorem t61:ad MD:=cn [(195,[hi [] [0,1,7] [(8,false,[.hole])] [] [] [i6] 12])] [161330023,161252749,161252749,13437729] TN
def RQ(a:Pl):Option Bool:=(FI a.1).bind λb=>some (!b)
def ME:=zm MD 62 ⟨[hZ],.bool,6435,λx=>RQ x⟩
theorem t62:ad ME:=cn [] [6435] t61
def Cj:Option V:=((dh 1 1).bind λr1=>some (r1,0))
def MG:=zm ME 65 ⟨[],bG,242,λx=>Cj⟩
theorem t65:ad MG:=cn [] [242] t62
def Lz(a:Rat×Rat)(b:Rat×Rat):Option Bool:=(wm a.1 b.1).bind λc=>if c then(wm a.2 b.2).bind λd=>some d else some false
def MH:=zm MG 66 ⟨[bw,bw],.bool,26,λx=>Lz x.1 x.2⟩
theorem t66:ad MH:=cn [] [26] t65
def FP(a:Rat×Rat)(b:Rat×Rat):Option V:=(qG a.1 b.1).bind λc=>(qG a.2 b.2).bind λd=>(jL d).bind λe=>(Qw [c,e]).bind λf=>(qG a.2 b.1).bind λg=>(qG a.1 b.2).bind λh=>(Qw [g,h]).bind λi=>some (f,i)
def Dz:=zm MH 125 ⟨[bG,bw],bw,11956,λx=>FP x.1 x.2⟩
theorem TS:ad Dz:=cn [] [11956] t66
def FJ(a:Rat×Rat)(b:Rat×Rat):Option V:=(FP a b).bind λc=>some c
def MJ:=zm Dz 67 ⟨[bG,bG],bG,11960,λx=>FJ x.1 x.2⟩
theorem t67:ad MJ:=cn [] [11960] TS
def FK(a:List Pc)(b:List Fq)(c:List V):Option ((List (Int×Int×Rat))×(List (Int×Int×Rat))×List Int):=zk (λd (e:Int×List Int×(List (Int×Int×Rat))×List (Int×Int×Rat))=>if decide (e.1<b.length)then(ae b e.1).bind λf=>(ae a f.1).bind λg=>(ae a f.2.1).bind λh=>(qF g.2.2.2.2.2.1 h.2.2.2.2.2.1).bind λi=>(i64 (f.2.2.2.2.1+1)).bind λj=>zk (λk (l:Int×List Int×(List (Int×Int×Rat))×List (Int×Int×Rat))=>if decide (l.1<j)then(i64 (f.2.2.1+l.1)).bind λm=>if (g.2.2.1.length:Int)=0 then none else(ae g.2.2.1 (Int.tmod m g.2.2.1.length)).bind λn=>(i64 (f.2.2.2.1+1)).bind λo=>(i64 (o-l.1)).bind λp=>(i64 (p+h.2.2.1.length)).bind λq=>if (h.2.2.1.length:Int)=0 then none else(ae h.2.2.1 (Int.tmod q h.2.2.1.length)).bind λr=>(ae c f.1).bind λs=>(ae c f.2.1).bind λt=>(Xd n.1 n.2).bind λu=>(FP s u).bind λv=>(Xd r.1 r.2).bind λw=>(FP t w).bind λx=>(ZA v x).bind λy=>(ae [y.1,y.2] 0).bind λz=>(qF z i).bind λA=>(wW i z).bind λB=>(app l.2.2.1 [(f.1,f.2.1,A),(f.2.1,f.1,B)]).bind λC=>(ae [y.1,y.2] 1).bind λD=>(qF D i).bind λE=>(wW i D).bind λF=>(app l.2.2.2 [(f.1,f.2.1,E),(f.2.1,f.1,F)]).bind λG=>(app l.2.1 [e.1,e.1]).bind λH=>(i64 (l.1+1)).bind λI=>k (I,H,C,G)else(i64 (e.1+1)).bind λm=>d (m,l.2.1,l.2.2.1,l.2.2.2)) (zi 64) (0,e.2.1,e.2.2.1,e.2.2.2)else some (e.2.2.1,e.2.2.2,e.2.1)) (zi 64) (0,[],[],[])
def MK:=zm MJ 68 ⟨[tG,fH,La],(.tup3 jw jw S3),115279106,λx=>FK x.1 x.2.1 x.2.2⟩
theorem t68:ad MK:=cn [(68,[hi [] [0,2,9,22,23] [(10,false,[.own 0]),(24,false,[.hole])] [(0,[.own 1,.own 2])] [⟨.s 10,3,1,i6⟩,⟨.o 0 0,164,6,QD⟩,⟨.o 0 1,164,6,QD⟩] [i6,S3,jw,jw] 64,hi [] [11,12,13,14,15,24,46] [(10,false,[.own 0]),(47,false,[.hole])] [(0,[.own 1,.own 2])] [⟨.s 10,3,1,i6⟩,⟨.o 0 0,164,6,QD⟩,⟨.o 0 1,164,6,QD⟩] [i6,S3,jw,jw] 64,{frz:=[],cst:=[],vars:=[],objs:=[],own:=[],ts:=[],fuel:=3,un:=true}])] [115279106] t67
def sG(a:Int)(b:List (Int×Int×Rat)):Option ((Int×List (Int×Int×Rat))×Bool):=if decide (1<=a)then if decide (a<=32)then if decide ((b.length:Int)<=2048)then zk (λc (d:Int)=>if decide (d<b.length)then(ae b d).bind λe=>if decide (e.1<0)then some ((a,b),(!(decide (0<=d))))else if decide (a<=e.1)then some ((a,b),(!(decide (0<=d))))else if decide (e.2.1<0)then some ((a,b),(!(decide (0<=d))))else if decide (a<=e.2.1)then some ((a,b),(!(decide (0<=d))))else(i64 (d+1)).bind λf=>c f else some ((a,b),true)) (zi 64) 0 else some ((a,b),false)else some ((a,b),false)else some ((a,b),false)
def DC:=zm MK 128 ⟨[i6,jw],(.tup uG .bool),69,λx=>sG x.1 x.2⟩
theorem TV:ad DC:=cn [(246,[hi [] [0,1,7] [(8,false,[.hole])] [] [] [i6] 64])] [69,65,65,1,0] t68
def BY(a:Int×List (Int×Int×Rat))(b:List Rat):Option Bool:=if decide ((b.length:Int)=a.1)then zk (λc (d:Int)=>if decide (d<a.2.length)then(ae a.2 d).bind λe=>(ae b e.2.1).bind λf=>(ae b e.1).bind λg=>(wW f g).bind λh=>(yu h e.2.2).bind λi=>if decide (0<i)then some (!(decide (0<=d)))else(i64 (d+1)).bind λj=>c j else some true) (zi 64) 0 else some false
def DD:=zm DC 129 ⟨[uG,iu],.bool,32708,λx=>BY x.1 x.2⟩
theorem TW:ad DD:=cn [(246,[hi [] [0,1,7] [(8,false,[.hole])] [] [] [i6] 64])] [32708,32705,32705,511] TV
def Ip(a:Int×List (Int×Int×Rat))(b:List Int):Option Bool:=zk (λc (d:Int×Rat)=>if decide (d.1<b.length)then(ae b d.1).bind λe=>if decide (e<0)then some false else if decide ((a.2.length:Int)<=e)then some false else(i64 (d.1+b.length)).bind λf=>(i64 (f-1)).bind λg=>if (b.length:Int)=0 then none else(ae b (Int.tmod g b.length)).bind λh=>if decide (h<0)then some false else if decide ((a.2.length:Int)<=h)then some false else(ae a.2 h).bind λi=>(ae a.2 e).bind λj=>if decide (i.2.1≠j.1)then some false else(ae a.2 e).bind λk=>(qF d.2 k.2.2).bind λl=>(i64 (d.1+1)).bind λm=>c (m,l)else(qA d.2).bind λe=>some (decide (e<0))) (zi 64) (0,0)
def DE:=zm DD 130 ⟨[uG,S3],.bool,25862,λx=>Ip x.1 x.2⟩
theorem TX:ad DE:=cn [(130,[hi [] [1,2,5,10,11] [(12,false,[.hole])] [(1,[.hole])] [] [i6,.rat] 64])] [25862] TW
def Ck(a:Int)(b:List (Int×Int×Rat))(c:List Rat)(d:List Int):Option Int:=(sG a b).bind λe=>if !e.2 then some 1 else if decide ((d.length:Int)=0)then(BY e.1 c).bind λf=>if f then some 0 else if decide ((c.length:Int)=0)then(Ip e.1 d).bind λg=>if g then some 0 else some 22 else some 22 else if decide ((c.length:Int)=0)then(Ip e.1 d).bind λf=>if f then some 0 else some 22 else some 22
def ML:=zm DE 69 ⟨[i6,jw,iu,S3],i6,58642,λx=>Ck x.1 x.2.1 x.2.2.1 x.2.2.2⟩
theorem t69:ad ML:=cn [] [58642] TX
def tA(a:Rat×Rat)(b:Rat×Rat):Option V:=(ZA b a).bind λc=>(jL c.1).bind λd=>some (c.2,d)
def EF:=zm ML 282 ⟨[bw,bw],bw,828,λx=>tA x.1 x.2⟩
theorem UX:ad EF:=cn [] [828] t69
def Cd(a:List V)(b:List V):Option (List V):=zk (λc (d:Int×List V)=>if decide (d.1<a.length)then(ae a d.1).bind λe=>(i64 (d.1+1)).bind λf=>if (a.length:Int)=0 then none else(ae a (Int.tmod f a.length)).bind λg=>(tA e g).bind λh=>(app d.2 [h]).bind λi=>(i64 (d.1+1)).bind λj=>c (j,i)else zk (λe (f:Int×List V)=>if decide (f.1<b.length)then(ae b f.1).bind λg=>(i64 (f.1+1)).bind λh=>if (b.length:Int)=0 then none else(ae b (Int.tmod h b.length)).bind λi=>(tA i g).bind λj=>(app f.2 [j]).bind λk=>(i64 (f.1+1)).bind λl=>e (l,k)else(Xd 1 0).bind λg=>(Xd 0 1).bind λh=>(Xd (-1) 0).bind λi=>(Xd 0 (-1)).bind λj=>(app f.2 [g,h,i,j]).bind λk=>some k) (zi 12) (0,d.2)) (zi 12) (0,[])
def Ez:=zm EF 261 ⟨[dz,dz],dz,21904,λx=>Cd x.1 x.2⟩
theorem UQ:ad Ez:=cn [(261,[hi [] [0,1,10,11] [(5,false,[.own 0]),(12,false,[.hole])] [] [⟨.s 5,38,8,bw⟩] [i6,dz] 12,hi [] [1,31,32] [(5,false,[.own 0]),(33,false,[.hole])] [] [⟨.s 5,38,8,bw⟩] [i6,dz] 12])] [21904] UX
def mV(a:Rat×Rat)(b:List V):Option (List Rat):=zk (λc (d:Int×List Rat)=>if decide (d.1<b.length)then(ae b d.1).bind λe=>(Qu a e).bind λf=>(app d.2 [f]).bind λg=>(i64 (d.1+1)).bind λh=>c (h,g)else some d.2) (zi 12) (0,[])
def EI:=zm Ez 302 ⟨[bw,dz],iu,71762,λx=>mV x.1 x.2⟩
theorem U0:ad EI:=cn [(302,[hi [] [2,8,9] [(5,false,[.own 0]),(10,false,[.hole])] [] [⟨.s 5,34,4,.rat⟩] [i6,iu] 12])] [71762] UQ
def Wk(a:Int)(b:Rat)(c:List Rat):Option Rat:=zk (λd (e:Int×Rat)=>if decide (e.1<c.length)then(ae c e.1).bind λf=>(yu f e.2).bind λg=>if decide (g=a)then(i64 (e.1+1)).bind λh=>d (h,f)else(i64 (e.1+1)).bind λh=>d (h,e.2)else some e.2) (zi 12) (0,b)
def EJ:=zm EI 303 ⟨[i6,.rat,iu],.rat,1239,λx=>Wk x.1 x.2.1 x.2.2⟩
theorem U1:ad EJ:=cn [(303,[hi [] [0,4,6,9,10] [(11,false,[.hole])] [(0,[.hole])] [] [i6,.rat] 12])] [1239] U0
def Cf(a:Rat×Rat)(b:List V)(c:List V):Option Rat:=(mV a b).bind λd=>(mV a c).bind λe=>(ae e 0).bind λf=>(ae d 0).bind λg=>(qK e 1 (e.length:Int)).bind λh=>(Wk (-1) f h).bind λi=>(qK d 1 (d.length:Int)).bind λj=>(Wk 1 g j).bind λk=>(wW i k).bind λl=>some l
def EG:=zm EJ 283 ⟨[bw,dz,dz],.rat,146412,λx=>Cf x.1 x.2.1 x.2.2⟩
theorem UY:ad EG:=cn [] [146412] U1
def IB(a:Rat×Rat):Option Rat:=(jL a.1).bind λb=>(Wk 1 a.1 [b]).bind λc=>(jL a.2).bind λd=>(Wk 1 a.2 [d]).bind λe=>(qF c e).bind λf=>some f
def EK:=zm EG 304 ⟨[bw],.rat,2892,λx=>IB x⟩
theorem U2:ad EK:=cn [] [2892] UY
def Cg(a:Rat×Rat)(b:Rat):Option Rat:=(IB a).bind λc=>(qG b c).bind λd=>some d
def EH:=zm EK 284 ⟨[bw,.rat],.rat,3474,λx=>Cg x.1 x.2⟩
theorem UZ:ad EH:=cn [] [3474] U2
def Ce(a:Rat×Rat)(b:List V)(c:List V)(d:Rat):Option Bool:=(Cf a b c).bind λe=>(Cg a d).bind λf=>(yu e f).bind λg=>some (decide (0<=g))
def EA:=zm EH 262 ⟨[bw,dz,dz,.rat],.bool,149990,λx=>Ce x.1 x.2.1 x.2.2.1 x.2.2.2⟩
theorem UR:ad EA:=cn [] [149990] UZ
def B9(a:List V)(b:List V)(c:Rat):Option (V×Bool):=(Cd a b).bind λd=>zk (λe (f:Int×Rat×Rat)=>if decide (f.1<d.length)then(ae d f.1).bind λg=>(Ce g a b c).bind λh=>if h then some (g,true)else(i64 (f.1+1)).bind λi=>e (i,f.2.1,f.2.2)else some ((0,0),false)) (zi 12) (0,0,0)
def Ei:=zm EA 223 ⟨[dz,dz,.rat],(.tup bw .bool),1821799,λx=>B9 x.1 x.2.1 x.2.2⟩
theorem UA:ad Ei:=cn [(223,[hi [] [0,1,5,6,12,13] [(14,false,[.hole])] [(1,[.hole,.hole])] [] [i6,.rat,.rat] 12])] [1821799] UR
def sM(a:List (List V))(b:List (List V))(c:Rat):Option ((List V)×Bool):=zk (λd (e:Int×Bool×List V)=>if decide (e.1<a.length)then(ae a e.1).bind λf=>zk (λg (h:Int×Bool×List V)=>if decide (h.1<b.length)then(ae b h.1).bind λi=>(B9 f i c).bind λj=>if !j.2 then some ([],false)else(app h.2.2 [j.1]).bind λk=>(i64 (h.1+1)).bind λl=>g (l,h.2.1,k)else(i64 (e.1+1)).bind λi=>d (i,h.2.1,h.2.2)) (zi 5) (0,e.2.1,e.2.2)else some (e.2.2,true)) (zi 5) (0,false,[])
def DT:=zm Ei 161 ⟨[np,np,.rat],(.tup dz .bool),91090117,λx=>sM x.1 x.2.1 x.2.2⟩
theorem Ue:ad DT:=cn [(260,[hi [] [0,2,8,9] [(10,false,[.hole])] [(1,[.nil]),(2,[.hole]),(3,[.own 0])] [⟨.o 3 0,38,8,bw⟩] [i6,.bool,dz] 5,hi [] [5,10,14,15] [(16,false,[.hole])] [(1,[.nil]),(2,[.hole]),(3,[.own 0])] [⟨.o 3 0,38,8,bw⟩] [i6,.bool,dz] 5])] [91090117,45545056,1821802] UA
def Zg(a:List Int)(b:Int):Option Int:=zk (λc (d:Int)=>if decide (d<a.length)then(ae a d).bind λe=>if decide (b=e)then some d else(i64 (d+1)).bind λf=>c f else some (-1)) (zi 12) 0
def EL:=zm DT 316 ⟨[S3,i6],i6,1,λx=>Zg x.1 x.2⟩
theorem U3:ad EL:=cn [(316,[hi [] [0,1,7] [(8,false,[.hole])] [] [] [i6] 12])] [1] Ue
end
end Go.Proofs.YtocnbjjmmgolfaaGreat
