/- The number packages as plain definitions over digits (printed by znf.py). -/
import Derived.Test.YtocnbjjmmgolfaaGreatA19
set_option linter.unusedSimpArgs false
set_option linter.unusedVariables false
set_option linter.unusedSectionVars false
namespace Go.Proofs.YtocnbjjmmgolfaaGreat
open Go Go.M Go.Proofs.C14
noncomputable section
abbrev S3n:Ty:=.sl 3 1 i6
abbrev xf:Ty:=.pair .bool S3n
abbrev T34n:Ty:=.pair xf xf
def Γn:TypeId→Option Ty:=fun t=>find [(32,xf),(3,i6),(34,T34n)] t
theorem cm(H:List (FuncId×List Hi))(rs:List Nat){T:FuncId→Option Con}{g:FuncId}{ar:List Ty}{τ:Ty}{z:Tp ar→Option τ.T}(a:ConOK T)(he:∀x,zK Γn T (hsF H) rs g ar τ x=z x:=by intro x;kernel_rfl)(b:VX ar=true:=by rfl):ConOK (zm T g ⟨ar,τ,hdN rs,z⟩):=ConOK.next a b he
def N0c:FuncId→Option Con:=fun _=>none
theorem tn0:ConOK N0c:=ConOK.nil
def jp(a0:Bool)(b:List Int):Option (Bool×List Int):=(zj (fun g1 (a:Int)=>(if (decide (0<a))=true then((i64 (a-1)).bind fun d=>((idx b (max d 0)).bind fun e=>(if (decide (e=0))=true then((i64 (a-1)).bind fun n4=>g1 n4)else(if (decide (a=0))=true then some (false,[])else((xK b 0 a).bind fun c=>some (a0,c))))))else(if (decide (a=0))=true then some (false,[])else((xK b 0 a).bind fun l6=>some (a0,l6))))) (zi 6) (b.length:Int))
def N115c:=zm N0c 115 ⟨[.bool,S3n],xf,8,fun x=>jp x.1 x.2⟩
theorem tn115:ConOK N115c:=cm [(115,[hi [] [0,1,4] [(5,false,[.hole])] [] [] [i6] 6])] [8] tn0
def z97(a0:Bool×List Int):Option (Bool×List Int):=((jp (!a0.1) a0.2).bind fun r1=>some r1)
def N97c:=zm N115c 97 ⟨[xf],xf,10,fun x=>z97 x⟩
theorem tn97:ConOK N97c:=cm [] [10] tn115
def z59(a0:Int):Option (Bool×List Int):=(zj (fun g1 (a:Int×List Int)=>(if (decide (a.1≠0))=true then(if 1000000000=0 then none else(if (decide ((Int.tmod a.1 1000000000)<0))=true then((i64 (0-(Int.tmod a.1 1000000000))).bind fun d=>((app a.2 [d]).bind fun b=>(if 1000000000=0 then none else((i64 (Int.tdiv a.1 1000000000)).bind fun n4=>g1 (n4,b)))))else((app a.2 [(Int.tmod a.1 1000000000)]).bind fun c=>(if 1000000000=0 then none else((i64 (Int.tdiv a.1 1000000000)).bind fun e=>g1 (e,c))))))else((jp (decide (a0<0)) a.2).bind fun f=>some f))) (zi 4) (a0,[]))
def N59c:=zm N97c 59 ⟨[i6],xf,17,fun x=>z59 x⟩
theorem tn59:ConOK N59c:=cm [(59,[hi [] [2,4] [(0,false,[.hole]),(3,false,[.own 0])] [] [⟨.s 3,3,1,i6⟩] [i6,S3n] 4])] [17] tn97
def Yj(a0:List Int)(a:Int):Option Int:=(if (decide (a<(a0.length:Int)))=true then((idx a0 a).bind fun b=>some b)else some 0)
def N230c:=zm N59c 230 ⟨[S3n,i6],i6,1,fun x=>Yj x.1 x.2⟩
theorem tn230:ConOK N230c:=cm [] [1] tn59
def z168(a0:List Int)(d:List Int):Option (List Int):=(zj (fun g1 (a:Int×Int×List Int)=>(if (decide (a.2.1<(a0.length:Int)))=true then((Yj a0 a.2.1).bind fun r2=>((Yj d a.2.1).bind fun s=>((i64 (r2+s)).bind fun n4=>((i64 (n4+a.1)).bind fun p=>(if 1000000000=0 then none else((app a.2.2 [(Int.tmod p 1000000000)]).bind fun l6=>(if 1000000000=0 then none else((i64 (Int.tdiv p 1000000000)).bind fun q=>((i64 (a.2.1+1)).bind fun r=>g1 (q,r,l6))))))))))else(if (decide (a.2.1<(d.length:Int)))=true then((Yj a0 a.2.1).bind fun t=>((Yj d a.2.1).bind fun m=>((i64 (t+m)).bind fun g=>((i64 (g+a.1)).bind fun b=>(if 1000000000=0 then none else((app a.2.2 [(Int.tmod b 1000000000)]).bind fun e=>(if 1000000000=0 then none else((i64 (Int.tdiv b 1000000000)).bind fun h=>((i64 (a.2.1+1)).bind fun i=>g1 (h,i,e))))))))))else(if (decide (0<a.1))=true then((Yj a0 a.2.1).bind fun n=>((Yj d a.2.1).bind fun o=>((i64 (n+o)).bind fun j=>((i64 (j+a.1)).bind fun c=>(if 1000000000=0 then none else((app a.2.2 [(Int.tmod c 1000000000)]).bind fun f=>(if 1000000000=0 then none else((i64 (Int.tdiv c 1000000000)).bind fun k=>((i64 (a.2.1+1)).bind fun l=>g1 (k,l,f))))))))))else some a.2.2)))) (zi 5) (0,0,[]))
def N168c:=zm N230c 168 ⟨[S3n,S3n],S3n,30,fun x=>z168 x.1 x.2⟩
theorem tn168:ConOK N168c:=cm [(168,[hi [] [0,1] [(5,false,[.own 0]),(6,false,[.hole]),(7,false,[.hole])] [] [⟨.s 5,3,1,i6⟩] [i6,i6,S3n] 5])] [30] tn230
def JD(a0:List Int)(a:List Int):Option Int:=(if (decide ((a0.length:Int)<(a.length:Int)))=true then some (-1)else(if (decide ((a.length:Int)<(a0.length:Int)))=true then some 1 else((i64 ((a0.length:Int)-1)).bind fun b=>(zj (fun g2 (x2:Int)=>(if (decide (0≤x2))=true then((idx a0 x2).bind fun d=>((idx a x2).bind fun e=>(if (decide (d<e))=true then some (-1)else((idx a0 x2).bind fun f=>((idx a x2).bind fun g=>(if (decide (g<f))=true then some 1 else((i64 (x2-1)).bind fun c=>g2 c)))))))else some 0)) (zi 4) b))))
def N169c:=zm N168c 169 ⟨[S3n,S3n],i6,5,fun x=>JD x.1 x.2⟩
theorem tn169:ConOK N169c:=cm [(169,[hi [] [0,1] [(5,false,[.hole])] [] [] [i6] 4])] [5] tn168
def zbh(a0:List Int)(d:List Int):Option (List Int):=(zj (fun g1 (a:Int×Int×List Int)=>(if (decide (a.2.1<(a0.length:Int)))=true then((idx a0 a.2.1).bind fun x2=>((Yj d a.2.1).bind fun i=>((i64 (x2-i)).bind fun n4=>((i64 (n4-a.1)).bind fun c=>(if (decide (c<0))=true then((i64 (c+1000000000)).bind fun g=>((app a.2.2 [g]).bind fun e=>((i64 (a.2.1+1)).bind fun h=>g1 (1,h,e))))else((app a.2.2 [c]).bind fun f=>((i64 (a.2.1+1)).bind fun b=>g1 (0,b,f))))))))else some a.2.2)) (zi 4) (0,0,[]))
def N170c:=zm N169c 170 ⟨[S3n,S3n],S3n,16,fun x=>zbh x.1 x.2⟩
theorem tn170:ConOK N170c:=cm [(170,[hi [] [0,1] [(5,false,[.own 0]),(6,false,[.hole]),(7,false,[.hole])] [] [⟨.s 5,3,1,i6⟩] [i6,i6,S3n] 4])] [16] tn169
def z96(a0:Bool×List Int)(a:Bool×List Int):Option (Bool×List Int):=(if (a0.1==a.1)=true then((z168 a0.2 a.2).bind fun r1=>((jp a0.1 r1).bind fun r2=>some r2))else((JD a0.2 a.2).bind fun b=>(if (decide (b<0))=true then((zbh a.2 a0.2).bind fun c=>((jp a.1 c).bind fun d=>some d))else((zbh a0.2 a.2).bind fun e=>((jp a0.1 e).bind fun f=>some f)))))
def N96c:=zm N170c 96 ⟨[xf,xf],xf,94,fun x=>z96 x.1 x.2⟩
theorem tn96:ConOK N96c:=cm [] [94] tn170
def JC(a0:List Int):Option Int:=((Yj a0 1).bind fun r1=>((i64 (r1*1000000000)).bind fun a=>((Yj a0 0).bind fun b=>((i64 (a+b)).bind fun n4=>some n4))))
def N189c:=zm N96c 189 ⟨[S3n],i6,2,fun x=>JC x⟩
theorem tn189:ConOK N189c:=cm [] [2] tn96
def z94(a0:Bool×List Int)(d:Bool×List Int):Option (Bool×List Int):=((i64 ((a0.2.length:Int)+(d.2.length:Int))).bind fun e=>(if 0≤e∧e=e∧e≤65536 then(zj (fun g2 (x2:Int×List Int)=>(if (decide (x2.1<(a0.2.length:Int)))=true then(zj (fun l (a:Int×Int×List Int)=>(if (decide (a.2.1<(d.2.length:Int)))=true then((i64 (x2.1+a.2.1)).bind fun n4=>((idx a.2.2 n4).bind fun x5=>((idx a.2.2 n4).bind fun n=>((idx a0.2 x2.1).bind fun o=>((idx d.2 a.2.1).bind fun p=>((i64 (o*p)).bind fun m=>((i64 (n+m)).bind fun g=>((i64 (g+a.1)).bind fun f=>((i64 (x2.1+a.2.1)).bind fun b=>(if 1000000000=0 then none else((idx a.2.2 b).bind fun x13=>((idx a.2.2 b).bind fun x14=>(if 1000000000=0 then none else((i64 (Int.tdiv f 1000000000)).bind fun h=>((i64 (a.2.1+1)).bind fun i=>l (h,i,(zE a.2.2 (Int.toNat b) (Int.tmod f 1000000000))))))))))))))))))else((i64 (x2.1+(d.2.length:Int))).bind fun c=>((idx a.2.2 c).bind fun x18=>((idx a.2.2 c).bind fun x19=>((i64 (x2.1+1)).bind fun j=>g2 (j,(zE a.2.2 (Int.toNat c) a.1)))))))) (zi 3) (0,0,x2.2))else((jp (!(a0.1==d.1)) x2.2).bind fun k=>some k))) (zi 3) (0,(List.replicate (Int.toNat e) (0:Int))))else none))
def N94c:=zm N189c 94 ⟨[xf,xf],xf,29,fun x=>z94 x.1 x.2⟩
theorem tn94:ConOK N94c:=cm [(94,[hi [] [2,3,4,5] [(6,false,[.hole])] [(3,[.lst])] [] [i6,S3n] 3,hi [] [6] [(7,false,[.hole]),(8,false,[.hole])] [(3,[.lst])] [] [i6,i6,S3n] 3])] [29] tn189
def z237(a0:List Int)(a:Int):Option (List Int):=((jp false a0).bind fun r1=>((z59 a).bind fun r2=>((z94 r1 r2).bind fun b=>some b.2)))
def N237c:=zm N94c 237 ⟨[S3n,i6],S3n,55,fun x=>z237 x.1 x.2⟩
theorem tn237:ConOK N237c:=cm [] [55] tn94
def z190(a0:List Int)(b:List Int):Option (List Int×List Int):=(if (decide ((a0.length:Int)≤2))=true then(if (decide ((b.length:Int)≤2))=true then((JC a0).bind fun r1=>((JC b).bind fun r2=>(if r2=0 then none else((i64 (Int.tdiv r1 r2)).bind fun f=>((z59 f).bind fun h=>((JC a0).bind fun i=>((JC b).bind fun d=>(if d=0 then none else((z59 (Int.tmod i d)).bind fun j=>some (h.2,j.2))))))))))else(if 0≤(a0.length:Int)∧(a0.length:Int)=(a0.length:Int)∧(a0.length:Int)≤65536 then((i64 ((a0.length:Int)-1)).bind fun g=>(zj (fun g9 (e:Int)=>(if (decide (0≤e))=true then((idx a0 e).bind fun x10=>none)else some ((List.replicate (Int.toNat (a0.length:Int)) (0:Int)),[]))) (zi 1) g))else none))else(if 0≤(a0.length:Int)∧(a0.length:Int)=(a0.length:Int)∧(a0.length:Int)≤65536 then((i64 ((a0.length:Int)-1)).bind fun c=>(zj (fun g12 (a:Int)=>(if (decide (0≤a))=true then((idx a0 a).bind fun x13=>none)else some ((List.replicate (Int.toNat (a0.length:Int)) (0:Int)),[]))) (zi 1) c))else none))
def N190c:=zm N237c 190 ⟨[S3n,S3n],(.tup S3n S3n),205,fun x=>z190 x.1 x.2⟩
theorem tn190:ConOK N190c:=cm [(190,[hi [] [0,1,8] [(9,false,[.nil]),(10,false,[.hole])] [] [] [i6] 1,hi [] [] [] [] [] [] 0])] [205] tn237
def zdS(a0:Bool×List Int)(a:Bool×List Int):Option ((Bool×List Int)×(Bool×List Int)):=(if (decide ((a.2.length:Int)=0))=true then some ((false,[]),(false,[]))else((z190 a0.2 a.2).bind fun r1=>((jp (!(a0.1==a.1)) r1.1).bind fun r2=>((jp false r1.2).bind fun b=>(if a0.1=true then(if (decide (0<(b.2.length:Int)))=true then((jp (!(a0.1==a.1)) [1]).bind fun c=>((z96 r2 c).bind fun d=>((zbh a.2 b.2).bind fun e=>((jp false e).bind fun f=>some (d,f)))))else some (r2,b))else some (r2,b))))))
def N113c:=zm N190c 113 ⟨[xf,xf],(.tup xf xf),356,fun x=>zdS x.1 x.2⟩
theorem tn113:ConOK N113c:=cm [] [356] tn190
def z112(a0:Bool×List Int)(f:Bool×List Int):Option (Bool×List Int):=((jp false a0.2).bind fun r1=>((jp false f.2).bind fun r2=>(zj (fun c (a:Bool×Bool×List Int×Bool×List Int)=>(if (decide (0<(a.2.2.2.2.length:Int)))=true then(if (decide ((a.2.2.1.length:Int)≤2))=true then(if (decide ((a.2.2.2.2.length:Int)≤2))=true then((JC a.2.2.1).bind fun h=>((JC a.2.2.2.2).bind fun i=>(zj (fun g (b:Int×Int)=>(if (decide (0<b.2))=true then(if b.2=0 then none else g (b.2,(Int.tmod b.1 b.2)))else((z59 b.1).bind fun j=>some j))) (zi 130) (h,i))))else((zdS (a.2.1,a.2.2.1) a.2.2.2).bind fun d=>c (a.1,a.2.2.2.1,a.2.2.2.2,d.2.1,d.2.2)))else((zdS (a.2.1,a.2.2.1) a.2.2.2).bind fun e=>c (a.1,a.2.2.2.1,a.2.2.2.2,e.2.1,e.2.2)))else some (a.2.1,a.2.2.1))) (zi 2) (false,r1.1,r1.2,r2.1,r2.2))))
def N112c:=zm N113c 112 ⟨[xf,xf],xf,785,fun x=>z112 x.1 x.2⟩
theorem tn112:ConOK N112c:=cm [(112,[hi [] [4,5,6] [] [(2,[.hole,.nil]),(3,[.hole,.hole]),(4,[.hole,.hole])] [] [.bool,.bool,S3n,.bool,S3n] 2,hi [] [] [(7,false,[.hole]),(8,false,[.hole])] [] [] [i6,i6] 130])] [785] tn113
def zbl(a0:Bool×List Int):Option Bool:=(if a0.1=true then some false else(if (decide ((a0.2.length:Int)≠1))=true then some false else((idx a0.2 0).bind fun a=>some (decide (a=1)))))
def N114c:=zm N112c 114 ⟨[xf],.bool,2,fun x=>zbl x⟩
theorem tn114:ConOK N114c:=cm [] [2] tn112
def z58(a0:Bool×List Int)(b:Bool×List Int):Option ((Bool×List Int)×Bool×List Int):=(if (decide ((b.2.length:Int)=0))=true then some ((false,[]),false,[])else(if (decide ((a0.2.length:Int)=0))=true then some ((false,[]),false,[])else((z112 a0 b).bind fun r1=>((zdS a0 r1).bind fun r2=>((zdS b r1).bind fun a=>(if a.1.1=true then((z97 r2.1).bind fun c=>((z97 a.1).bind fun d=>((zbl d).bind fun e=>(if e=true then some (c,false,[])else some (c,d)))))else((zbl a.1).bind fun f=>(if f=true then some (r2.1,false,[])else some (r2.1,a.1)))))))))
def N58c:=zm N114c 58 ⟨[xf,xf],T34n,1529,fun x=>z58 x.1 x.2⟩
theorem tn58:ConOK N58c:=cm [] [1529] tn114
def z20(a0:Int)(a:Int):Option ((Bool×List Int)×Bool×List Int):=((z59 a0).bind fun r1=>((z59 a).bind fun r2=>((z58 r1 r2).bind fun b=>some b)))
def N20c:=zm N58c 20 ⟨[i6,i6],T34n,1564,fun x=>z20 x.1 x.2⟩
theorem tn20:ConOK N20c:=cm [] [1564] tn58
def uR(a0:Bool)(b:List Int):Option (Bool×List Int):=(zj (fun g1 (a:Int)=>(if (decide (0<a))=true then((i64 (a-1)).bind fun d=>((idx b d).bind fun e=>(if (decide (e=0))=true then((i64 (a-1)).bind fun n4=>g1 n4)else(if (decide (a=0))=true then some (false,[])else(if a=a then((xK b 0 a).bind fun c=>some (a0,c))else none)))))else(if (decide (a=0))=true then some (false,[])else(if a=a then((xK b 0 a).bind fun l6=>some (a0,l6))else none)))) (zi 6) (b.length:Int))
def N141c:=zm N20c 141 ⟨[.bool,S3n],xf,2,fun x=>uR x.1 x.2⟩
theorem tn141:ConOK N141c:=cm [(141,[hi [] [0,1,4] [(5,false,[.hole])] [] [] [i6] 6])] [2] tn20
def VV(a0:List Int)(c:List Int):Option (List Int):=(if (decide ((a0.length:Int)<(c.length:Int)))=true then((i64 ((c.length:Int)+1)).bind fun g=>(if 0≤g∧g=g∧g≤65536 then(zj (fun g2 (x2:Int×Int×List Int)=>(if (decide (x2.2.1<(c.length:Int)))=true then((idx c x2.2.1).bind fun w=>((i64 (w+x2.1)).bind fun n4=>(if (decide (x2.2.1<(a0.length:Int)))=true then((idx a0 x2.2.1).bind fun x=>((i64 (n4+x)).bind fun s=>(if (decide (1000000000≤s))=true then((i64 (s-1000000000)).bind fun v=>((idx x2.2.2 x2.2.1).bind fun x8=>((idx x2.2.2 x2.2.1).bind fun x9=>((i64 (x2.2.1+1)).bind fun h=>g2 (1,h,(zE x2.2.2 (Int.toNat x2.2.1) v))))))else((idx x2.2.2 x2.2.1).bind fun x11=>((idx x2.2.2 x2.2.1).bind fun x12=>((i64 (x2.2.1+1)).bind fun i=>g2 (0,i,(zE x2.2.2 (Int.toNat x2.2.1) s))))))))else(if (decide (1000000000≤n4))=true then((i64 (n4-1000000000)).bind fun j=>((idx x2.2.2 x2.2.1).bind fun x15=>((idx x2.2.2 x2.2.1).bind fun x16=>((i64 (x2.2.1+1)).bind fun k=>g2 (1,k,(zE x2.2.2 (Int.toNat x2.2.1) j))))))else((idx x2.2.2 x2.2.1).bind fun x18=>((idx x2.2.2 x2.2.1).bind fun x19=>((i64 (x2.2.1+1)).bind fun l=>g2 (0,l,(zE x2.2.2 (Int.toNat x2.2.1) n4)))))))))else((idx x2.2.2 (c.length:Int)).bind fun x21=>((idx x2.2.2 (c.length:Int)).bind fun x22=>some (zE x2.2.2 (Int.toNat (c.length:Int)) x2.1))))) (zi 4) (0,0,(List.replicate (Int.toNat g) (0:Int))))else none))else((i64 ((a0.length:Int)+1)).bind fun b=>(if 0≤b∧b=b∧b≤65536 then(zj (fun d (a:Int×Int×List Int)=>(if (decide (a.2.1<(a0.length:Int)))=true then((idx a0 a.2.1).bind fun t=>((i64 (t+a.1)).bind fun e=>(if (decide (a.2.1<(c.length:Int)))=true then((idx c a.2.1).bind fun u=>((i64 (e+u)).bind fun f=>(if (decide (1000000000≤f))=true then((i64 (f-1000000000)).bind fun m=>((idx a.2.2 a.2.1).bind fun x30=>((idx a.2.2 a.2.1).bind fun x31=>((i64 (a.2.1+1)).bind fun n=>d (1,n,(zE a.2.2 (Int.toNat a.2.1) m))))))else((idx a.2.2 a.2.1).bind fun x33=>((idx a.2.2 a.2.1).bind fun x34=>((i64 (a.2.1+1)).bind fun o=>d (0,o,(zE a.2.2 (Int.toNat a.2.1) f))))))))else(if (decide (1000000000≤e))=true then((i64 (e-1000000000)).bind fun p=>((idx a.2.2 a.2.1).bind fun x37=>((idx a.2.2 a.2.1).bind fun x38=>((i64 (a.2.1+1)).bind fun q=>d (1,q,(zE a.2.2 (Int.toNat a.2.1) p))))))else((idx a.2.2 a.2.1).bind fun x40=>((idx a.2.2 a.2.1).bind fun x41=>((i64 (a.2.1+1)).bind fun r=>d (0,r,(zE a.2.2 (Int.toNat a.2.1) e)))))))))else((idx a.2.2 (a0.length:Int)).bind fun x43=>((idx a.2.2 (a0.length:Int)).bind fun x44=>some (zE a.2.2 (Int.toNat (a0.length:Int)) a.1))))) (zi 4) (0,0,(List.replicate (Int.toNat b) (0:Int))))else none)))
def N142c:=zm N141c 142 ⟨[S3n,S3n],S3n,10,fun x=>VV x.1 x.2⟩
set_option maxRecDepth 100000 in
theorem tn142:ConOK N142c:=cm [(142,[hi [] [0,1,5,21,22] [(6,false,[.hole]),(23,false,[.hole])] [(0,[.lst])] [] [i6,i6,S3n] 4])] [10] tn141
def Y2(a0:List Int)(a:List Int):Option Int:=(if (decide ((a0.length:Int)≠(a.length:Int)))=true then(if (decide ((a0.length:Int)≠(a0.length:Int)))=true then(if (decide ((a.length:Int)≠(a.length:Int)))=true then some 0 else some (-1))else(if (decide ((a.length:Int)≠(a.length:Int)))=true then some 1 else(if (decide ((a0.length:Int)<(a.length:Int)))=true then some (-1)else(if (decide ((a.length:Int)<(a0.length:Int)))=true then some 1 else some 0))))else((i64 ((a0.length:Int)-1)).bind fun d=>(zj (fun g2 (x2:Int)=>(if (decide (0≤x2))=true then((idx a0 x2).bind fun f=>((idx a x2).bind fun g=>(if (decide (f≠g))=true then((idx a0 x2).bind fun c=>((idx a x2).bind fun b=>(if (decide (c≠c))=true then(if (decide (b≠b))=true then some 0 else some (-1))else(if (decide (b≠b))=true then some 1 else(if (decide (c<b))=true then some (-1)else(if (decide (b<c))=true then some 1 else some 0))))))else((i64 (x2-1)).bind fun e=>g2 e))))else some 0)) (zi 4) d)))
def N143c:=zm N142c 143 ⟨[S3n,S3n],i6,5,fun x=>Y2 x.1 x.2⟩
theorem tn143:ConOK N143c:=cm [(143,[hi [] [0,1] [(5,false,[.hole])] [] [] [i6] 4])] [5,0,0] tn142
def zbj(a0:List Int)(r:List Int):Option (List Int):=(if 0≤(a0.length:Int)∧(a0.length:Int)=(a0.length:Int)∧(a0.length:Int)≤65536 then(if (List.replicate (Int.toNat (a0.length:Int)) (0:Int)).length=a0.length∧0<a0.length then(zj (fun g1 (a:Int×List Int)=>(if (decide (a.1<(a0.length:Int)))=true then(if (decide (a.1<(r.length:Int)))=true then((idx a.2 a.1).bind fun x2=>((idx a.2 a.1).bind fun s=>((idx r a.1).bind fun t=>((i64 (s-t)).bind fun b=>((idx a.2 a.1).bind fun x6=>((idx a.2 a.1).bind fun x7=>((idx (zE a.2 (Int.toNat a.1) b) a.1).bind fun x8=>((idx (zE a.2 (Int.toNat a.1) b) a.1).bind fun u=>(if (decide (u<0))=true then((idx (zE a.2 (Int.toNat a.1) b) a.1).bind fun x10=>((idx (zE a.2 (Int.toNat a.1) b) a.1).bind fun m=>((i64 (m+1000000000)).bind fun c=>((idx (zE a.2 (Int.toNat a.1) b) a.1).bind fun x13=>((idx (zE a.2 (Int.toNat a.1) b) a.1).bind fun x14=>((i64 (a.1+1)).bind fun d=>((idx (zE (zE a.2 (Int.toNat a.1) b) (Int.toNat a.1) c) d).bind fun x16=>((idx (zE (zE a.2 (Int.toNat a.1) b) (Int.toNat a.1) c) d).bind fun n=>((i64 (n-1)).bind fun g=>((idx (zE (zE a.2 (Int.toNat a.1) b) (Int.toNat a.1) c) d).bind fun x19=>((idx (zE (zE a.2 (Int.toNat a.1) b) (Int.toNat a.1) c) d).bind fun x20=>((i64 (a.1+1)).bind fun h=>g1 (h,(zE (zE (zE a.2 (Int.toNat a.1) b) (Int.toNat a.1) c) (Int.toNat d) g))))))))))))))else((i64 (a.1+1)).bind fun i=>g1 (i,(zE a.2 (Int.toNat a.1) b))))))))))))else((idx a.2 a.1).bind fun x23=>((idx a.2 a.1).bind fun o=>(if (decide (o<0))=true then((idx a.2 a.1).bind fun x25=>((idx a.2 a.1).bind fun p=>((i64 (p+1000000000)).bind fun e=>((idx a.2 a.1).bind fun x28=>((idx a.2 a.1).bind fun x29=>((i64 (a.1+1)).bind fun f=>((idx (zE a.2 (Int.toNat a.1) e) f).bind fun x31=>((idx (zE a.2 (Int.toNat a.1) e) f).bind fun q=>((i64 (q-1)).bind fun j=>((idx (zE a.2 (Int.toNat a.1) e) f).bind fun x34=>((idx (zE a.2 (Int.toNat a.1) e) f).bind fun x35=>((i64 (a.1+1)).bind fun k=>g1 (k,(zE (zE a.2 (Int.toNat a.1) e) (Int.toNat f) j))))))))))))))else((i64 (a.1+1)).bind fun l=>g1 (l,a.2))))))else some a.2)) (zi 4) (0,a0))else none)else none)
def N144c:=zm N143c 144 ⟨[S3n,S3n],S3n,8,fun x=>zbj x.1 x.2⟩
theorem tn144:ConOK N144c:=cm [(144,[hi [] [1,5,14] [(15,false,[.hole])] [(0,[.lst])] [] [i6,S3n] 4])] [8] tn143
def z81(a0:Bool×List Int)(a:Bool×List Int):Option (Bool×List Int):=(if (a0.1==a.1)=true then((VV a0.2 a.2).bind fun r1=>((uR a0.1 r1).bind fun r2=>some r2))else((Y2 a0.2 a.2).bind fun b=>(if (decide (b<0))=true then((zbj a.2 a0.2).bind fun c=>((uR a.1 c).bind fun d=>some d))else((zbj a0.2 a.2).bind fun e=>((uR a0.1 e).bind fun f=>some f)))))
def N81c:=zm N144c 81 ⟨[xf,xf],xf,40,fun x=>z81 x.1 x.2⟩
theorem tn81:ConOK N81c:=cm [] [40] tn144
def Q3(a0:Bool)(a:Int):Option (Bool×List Int):=(if (decide (a=0))=true then some (false,[])else(if (decide (a<1000000000))=true then((i64 a).bind fun f=>some (a0,[f]))else(if (decide (a<1000000000000000000))=true then(if 1000000000=0 then none else((i64 (Int.tmod a 1000000000)).bind fun g=>(if 1000000000=0 then none else((uZ (Int.tdiv a 1000000000)).bind fun n4=>((i64 n4).bind fun h=>some (a0,[g,h]))))))else(if 1000000000=0 then none else((i64 (Int.tmod a 1000000000)).bind fun i=>(if 1000000000=0 then none else((uZ (Int.tdiv a 1000000000)).bind fun j=>(if 1000000000=0 then none else((i64 (Int.tmod j 1000000000)).bind fun b=>(if 1000000000=0 then none else((uZ (Int.tdiv a 1000000000)).bind fun c=>(if 1000000000=0 then none else((uZ (Int.tdiv c 1000000000)).bind fun d=>((i64 d).bind fun e=>some (a0,[i,b,e])))))))))))))))
def N150c:=zm N81c 150 ⟨[.bool,(.int .u64)],xf,4,fun x=>Q3 x.1 x.2⟩
theorem tn150:ConOK N150c:=cm [] [4] tn81
def VU(a0:Int):Option (Bool×List Int):=(if (decide (a0<0))=true then((Q3 (decide (a0<0)) ((0-(a0 % 18446744073709551616)) % 18446744073709551616)).bind fun r2=>some r2)else((Q3 (decide (a0<0)) (a0 % 18446744073709551616)).bind fun a=>some a))
def N197c:=zm N150c 197 ⟨[i6],xf,5,fun x=>VU x⟩
theorem tn197:ConOK N197c:=cm [] [5] tn150
def z145:Option (Bool×List Int):=((VU 1).bind fun r1=>some r1)
def N145c:=zm N197c 145 ⟨[],xf,6,fun x=>z145⟩
theorem tn145:ConOK N145c:=cm [] [6] tn197
def z82(a0:(Bool×List Int)×Bool×List Int):Option (Bool×List Int):=(if (decide ((a0.2.2.length:Int)=0))=true then((z145).bind fun r1=>some r1)else some a0.2)
def N82c:=zm N145c 82 ⟨[T34n],xf,9,fun x=>z82 x⟩
theorem tn82:ConOK N82c:=cm [] [9] tn145
def zdK(a0:List Int):Option (Int×Bool):=(if (decide ((a0.length:Int)=0))=true then some (0,true)else(if (decide ((a0.length:Int)=1))=true then((idx a0 0).bind fun c=>some (c,true))else(if (decide ((a0.length:Int)=2))=true then((idx a0 1).bind fun x2=>((i64 (x2*1000000000)).bind fun a=>((idx a0 0).bind fun d=>((i64 (a+d)).bind fun b=>some (b,true)))))else some (0,false))))
def N216c:=zm N82c 216 ⟨[S3n],(.tup i6 .bool),1,fun x=>zdK x⟩
theorem tn216:ConOK N216c:=cm [] [1] tn82
def zdJ(a0:List Int)(a:List Int):Option ((Bool×List Int)×(Bool×List Int)):=((zdK a0).bind fun r1=>(if r1.2=true then((zdK a).bind fun r2=>(if r2.2=true then(if r2.1=0 then none else((i64 (Int.tdiv r1.1 r2.1)).bind fun c=>(if r2.1=0 then none else((Q3 false (c % 18446744073709551616)).bind fun d=>((Q3 false ((Int.tmod r1.1 r2.1) % 18446744073709551616)).bind fun e=>some (d,e))))))else((Y2 a0 a).bind fun f=>(if (decide (f<0))=true then((uR false a0).bind fun g=>some ((false,[]),g))else(if (decide ((a.length:Int)=1))=true then((idx a 0).bind fun x8=>none)else none)))))else((Y2 a0 a).bind fun h=>(if (decide (h<0))=true then((uR false a0).bind fun b=>some ((false,[]),b))else(if (decide ((a.length:Int)=1))=true then((idx a 0).bind fun x11=>none)else none)))))
def N217c:=zm N216c 217 ⟨[S3n,S3n],(.tup xf xf),30,fun x=>zdJ x.1 x.2⟩
theorem tn217:ConOK N217c:=cm [] [30] tn216
def z146(a0:Bool×List Int)(h:Bool×List Int):Option (Bool×List Int):=((uR false a0.2).bind fun r1=>((uR false h.2).bind fun r2=>(zj (fun c (a:Bool×Bool×List Int×Bool×List Int)=>(if (decide (0<(a.2.2.2.2.length:Int)))=true then((zdK a.2.2.1).bind fun d=>((zdK a.2.2.2.2).bind fun e=>(if d.2=true then(if e.2=true then(zj (fun i (b:Int×Int)=>(if (decide (0<b.2))=true then(if b.2=0 then none else i (b.2,(Int.tmod b.1 b.2)))else((Q3 false (b.1 % 18446744073709551616)).bind fun j=>some j))) (zi 130) (d.1,e.1))else((zdJ a.2.2.1 a.2.2.2.2).bind fun f=>c (a.1,a.2.2.2.1,a.2.2.2.2,f.2.1,f.2.2)))else((zdJ a.2.2.1 a.2.2.2.2).bind fun g=>c (a.1,a.2.2.2.1,a.2.2.2.2,g.2.1,g.2.2)))))else some (a.2.1,a.2.2.1))) (zi 2) (false,r1.1,r1.2,r2.1,r2.2))))
def N146c:=zm N217c 146 ⟨[xf,xf],xf,87,fun x=>z146 x.1 x.2⟩
theorem tn146:ConOK N146c:=cm [(146,[hi [] [4,5,6] [] [(2,[.hole,.nil]),(3,[.hole,.hole]),(4,[.hole,.hole])] [] [.bool,.bool,S3n,.bool,S3n] 2,hi [] [] [(7,false,[.hole]),(9,false,[.hole])] [] [] [i6,i6] 130])] [87] tn217
def JE(a0:Bool×List Int):Option Bool:=(if (!a0.1)=true then(if (decide ((a0.2.length:Int)=1))=true then((idx a0.2 0).bind fun a=>some (decide (a=1)))else some false)else some false)
def N147c:=zm N146c 147 ⟨[xf],.bool,2,fun x=>JE x⟩
theorem tn147:ConOK N147c:=cm [] [2] tn146
def z148(a0:Bool×List Int)(a:Bool×List Int):Option ((Bool×List Int)×(Bool×List Int)):=(if (decide ((a.2.length:Int)=0))=true then some ((false,[]),(false,[]))else((zdJ a0.2 a.2).bind fun r1=>(if a0.1=true then(if (decide (0<(r1.2.2.length:Int)))=true then((VV r1.1.2 [1]).bind fun r2=>((uR false r2).bind fun b=>((zbj a.2 r1.2.2).bind fun d=>((uR false d).bind fun c=>(if (!(a0.1==a.1))=true then some (((decide (0<(b.2.length:Int))),b.2),c)else some ((false,b.2),c))))))else(if (!(a0.1==a.1))=true then some (((decide (0<(r1.1.2.length:Int))),r1.1.2),r1.2)else some ((false,r1.1.2),r1.2)))else(if (!(a0.1==a.1))=true then some (((decide (0<(r1.1.2.length:Int))),r1.1.2),r1.2)else some ((false,r1.1.2),r1.2)))))
def N148c:=zm N147c 148 ⟨[xf,xf],(.tup xf xf),62,fun x=>z148 x.1 x.2⟩
theorem tn148:ConOK N148c:=cm [] [62] tn147
def z214(a0:Bool×List Int):Option (Bool×List Int):=(if (!a0.1)=true then some ((decide (0<(a0.2.length:Int))),a0.2)else some (false,a0.2))
def N214c:=zm N148c 214 ⟨[xf],xf,3,fun x=>z214 x⟩
theorem tn214:ConOK N214c:=cm [] [3] tn148
def zdP(a0:Bool×List Int)(a:Bool×List Int):Option ((Bool×List Int)×Bool×List Int):=(if a.1=true then((z214 a0).bind fun r1=>((z214 a).bind fun r2=>((JE r2).bind fun b=>(if b=true then some (r1,false,[])else some (r1,r2)))))else((JE a).bind fun c=>(if c=true then some (a0,false,[])else some (a0,a))))
def N149c:=zm N214c 149 ⟨[xf,xf],T34n,11,fun x=>zdP x.1 x.2⟩
theorem tn149:ConOK N149c:=cm [] [11] tn214
def z83(a0:Bool×List Int)(a:Bool×List Int):Option ((Bool×List Int)×Bool×List Int):=(if (decide ((a.2.length:Int)=0))=true then some ((false,[]),false,[])else(if (decide ((a0.2.length:Int)=0))=true then some ((false,[]),false,[])else((z146 a0 a).bind fun r1=>((JE r1).bind fun r2=>(if (!r2)=true then((z148 a0 r1).bind fun b=>((z148 a r1).bind fun c=>((zdP b.1 c.1).bind fun d=>some d)))else((zdP a0 a).bind fun e=>some e))))))
def N83c:=zm N149c 83 ⟨[xf,xf],T34n,230,fun x=>z83 x.1 x.2⟩
theorem tn83:ConOK N83c:=cm [] [230] tn149
def z84(a0:Bool×List Int)(d:Bool×List Int):Option (Bool×List Int):=(if (decide ((a0.2.length:Int)=1))=true then(if (decide ((d.2.length:Int)=1))=true then((idx a0.2 0).bind fun P=>((idx d.2 0).bind fun x2=>((uZ ((P % 18446744073709551616)*(x2 % 18446744073709551616))).bind fun N=>((Q3 (!(a0.1==d.1)) N).bind fun O=>some O))))else((i64 ((a0.2.length:Int)+(d.2.length:Int))).bind fun q=>(if 0≤q∧q=q∧q≤65536 then(zj (fun L (f:Int×List Int)=>(if (decide (f.1<(a0.2.length:Int)))=true then((idx a0.2 f.1).bind fun Q=>(zj (fun M (c:Int×Int×List Int)=>(if (decide (c.2.1<(d.2.length:Int)))=true then((idx d.2 c.2.1).bind fun R=>((i64 (f.1+c.2.1)).bind fun k=>((idx c.2.2 k).bind fun x11=>((idx c.2.2 k).bind fun H=>((i64 (Q*R)).bind fun t=>((i64 (H+t)).bind fun u=>((i64 (u+c.1)).bind fun l=>(if 1000000000=0 then none else((i64 (Int.tdiv l 1000000000)).bind fun m=>((i64 (f.1+c.2.1)).bind fun g=>((i64 (m*1000000000)).bind fun v=>((i64 (l-v)).bind fun w=>((idx c.2.2 g).bind fun x20=>((idx c.2.2 g).bind fun x21=>((i64 (c.2.1+1)).bind fun x=>M (m,x,(zE c.2.2 (Int.toNat g) w)))))))))))))))))else((i64 (f.1+(d.2.length:Int))).bind fun h=>((idx c.2.2 h).bind fun x24=>((idx c.2.2 h).bind fun x25=>((i64 (f.1+1)).bind fun y=>L (y,(zE c.2.2 (Int.toNat h) c.1)))))))) (zi 3) (0,0,f.2)))else((uR (!(a0.1==d.1)) f.2).bind fun F=>some F))) (zi 3) (0,(List.replicate (Int.toNat q) (0:Int))))else none)))else((i64 ((a0.2.length:Int)+(d.2.length:Int))).bind fun e=>(if 0≤e∧e=e∧e≤65536 then(zj (fun r (b:Int×List Int)=>(if (decide (b.1<(a0.2.length:Int)))=true then((idx a0.2 b.1).bind fun I=>(zj (fun s (a:Int×Int×List Int)=>(if (decide (a.2.1<(d.2.length:Int)))=true then((idx d.2 a.2.1).bind fun J=>((i64 (b.1+a.2.1)).bind fun n=>((idx a.2.2 n).bind fun x34=>((idx a.2.2 n).bind fun K=>((i64 (I*J)).bind fun z=>((i64 (K+z)).bind fun A=>((i64 (A+a.1)).bind fun o=>(if 1000000000=0 then none else((i64 (Int.tdiv o 1000000000)).bind fun p=>((i64 (b.1+a.2.1)).bind fun i=>((i64 (p*1000000000)).bind fun B=>((i64 (o-B)).bind fun C=>((idx a.2.2 i).bind fun x43=>((idx a.2.2 i).bind fun x44=>((i64 (a.2.1+1)).bind fun D=>s (p,D,(zE a.2.2 (Int.toNat i) C)))))))))))))))))else((i64 (b.1+(d.2.length:Int))).bind fun j=>((idx a.2.2 j).bind fun x47=>((idx a.2.2 j).bind fun x48=>((i64 (b.1+1)).bind fun E=>r (E,(zE a.2.2 (Int.toNat j) a.1)))))))) (zi 3) (0,0,b.2)))else((uR (!(a0.1==d.1)) b.2).bind fun G=>some G))) (zi 3) (0,(List.replicate (Int.toNat e) (0:Int))))else none)))
def N84c:=zm N83c 84 ⟨[xf,xf],xf,21,fun x=>z84 x.1 x.2⟩
theorem tn84:ConOK N84c:=cm [(84,[hi [] [2,3,4,6,7,47,48] [(49,false,[.hole])] [(3,[.lst])] [] [i6,S3n] 3,hi [] [8,9,49,54,55] [(10,false,[.hole]),(56,false,[.hole])] [(3,[.lst])] [] [i6,i6,S3n] 3])] [21] tn83
def z30(a0:(Bool×List Int)×Bool×List Int)(a:(Bool×List Int)×Bool×List Int):Option ((Bool×List Int)×Bool×List Int):=(if (decide ((a0.2.2.length:Int)=0))=true then(if (decide ((a.2.2.length:Int)=0))=true then((z81 a0.1 a.1).bind fun r1=>some (r1,false,[]))else(if (decide ((a0.1.2.length:Int)=0))=true then some a else(if (decide ((a.1.2.length:Int)=0))=true then some a0 else((z82 a0).bind fun r2=>((z82 a).bind fun h=>((z84 a0.1 h).bind fun j=>((z84 a.1 r2).bind fun k=>((z81 j k).bind fun l=>((z84 r2 h).bind fun m=>((z83 l m).bind fun n=>some n))))))))))else(if (decide ((a0.1.2.length:Int)=0))=true then some a else(if (decide ((a.1.2.length:Int)=0))=true then some a0 else((z82 a0).bind fun i=>((z82 a).bind fun b=>((z84 a0.1 b).bind fun c=>((z84 a.1 i).bind fun d=>((z81 c d).bind fun e=>((z84 i b).bind fun f=>((z83 e f).bind fun g=>some g))))))))))
def N30c:=zm N84c 30 ⟨[T34n,T34n],T34n,400,fun x=>z30 x.1 x.2⟩
theorem tn30:ConOK N30c:=cm [] [400] tn84
def z95(a0:(Bool×List Int)×Bool×List Int):Option (Bool×List Int):=(if (decide ((a0.2.2.length:Int)=0))=true then((z59 1).bind fun r1=>some r1)else some a0.2)
def N95c:=zm N30c 95 ⟨[T34n],xf,20,fun x=>z95 x⟩
theorem tn95:ConOK N95c:=cm [] [20] tn30
def z36(a0:(Bool×List Int)×Bool×List Int)(a:(Bool×List Int)×Bool×List Int):Option ((Bool×List Int)×Bool×List Int):=((z95 a).bind fun r1=>((z94 a0.1 r1).bind fun r2=>((z95 a0).bind fun b=>((z94 a.1 b).bind fun c=>((z96 r2 c).bind fun d=>((z95 a0).bind fun e=>((z95 a).bind fun f=>((z94 e f).bind fun g=>((z58 d g).bind fun h=>some h)))))))))
def N36c:=zm N95c 36 ⟨[T34n,T34n],T34n,1795,fun x=>z36 x.1 x.2⟩
theorem tn36:ConOK N36c:=cm [] [1795] tn95
def z38(a0:(Bool×List Int)×Bool×List Int):Option ((Bool×List Int)×Bool×List Int):=((z97 a0.1).bind fun r1=>some (r1,a0.2))
def N38c:=zm N36c 38 ⟨[T34n],T34n,12,fun x=>z38 x⟩
theorem tn38:ConOK N38c:=cm [] [12] tn36
def z139(a0:(Bool×List Int)×Bool×List Int):Option ((Bool×List Int)×Bool×List Int):=((z214 a0.1).bind fun r1=>some (r1,a0.2))
def N139c:=zm N38c 139 ⟨[T34n],T34n,5,fun x=>z139 x⟩
theorem tn139:ConOK N139c:=cm [] [5] tn38
def z79(a0:(Bool×List Int)×Bool×List Int)(a:(Bool×List Int)×Bool×List Int):Option ((Bool×List Int)×Bool×List Int):=((z139 a).bind fun r1=>((z30 a0 r1).bind fun r2=>some r2))
def N79c:=zm N139c 79 ⟨[T34n,T34n],T34n,408,fun x=>z79 x.1 x.2⟩
theorem tn79:ConOK N79c:=cm [] [408] tn139
def z207(a0:Bool×List Int)(a:Bool×List Int):Option Int:=(if (!(a0.1==a.1))=true then(if a0.1=true then some (-1)else some 1)else(if a0.1=true then((JD a.2 a0.2).bind fun r1=>some r1)else((JD a0.2 a.2).bind fun r2=>some r2)))
def N207c:=zm N79c 207 ⟨[xf,xf],i6,12,fun x=>z207 x.1 x.2⟩
theorem tn207:ConOK N207c:=cm [] [12] tn79
def z140(a0:Bool×List Int):Option Int:=((z207 a0 (false,[])).bind fun r1=>some r1)
def N140c:=zm N207c 140 ⟨[xf],i6,13,fun x=>z140 x⟩
theorem tn140:ConOK N140c:=cm [] [13] tn207
def z80(a0:(Bool×List Int)×Bool×List Int):Option Int:=((z140 a0.1).bind fun r1=>some r1)
def N80c:=zm N140c 80 ⟨[T34n],i6,14,fun x=>z80 x⟩
theorem tn80:ConOK N80c:=cm [] [14] tn140
def z98(a0:(Bool×List Int)×Bool×List Int)(a:(Bool×List Int)×Bool×List Int):Option ((Bool×List Int)×Bool×List Int):=((z38 a).bind fun r1=>((z36 a0 r1).bind fun r2=>some r2))
def N98c:=zm N80c 98 ⟨[T34n,T34n],T34n,1810,fun x=>z98 x.1 x.2⟩
theorem tn98:ConOK N98c:=cm [] [1810] tn80
def z99(a0:(Bool×List Int)×Bool×List Int)(a:(Bool×List Int)×Bool×List Int):Option ((Bool×List Int)×Bool×List Int):=((z94 a0.1 a.1).bind fun r1=>((z95 a0).bind fun r2=>((z95 a).bind fun b=>((z94 r2 b).bind fun c=>((z58 r1 c).bind fun d=>some d)))))
def N99c:=zm N98c 99 ⟨[T34n,T34n],T34n,1630,fun x=>z99 x.1 x.2⟩
theorem tn99:ConOK N99c:=cm [] [1630] tn98
def zdN(a0:Bool×List Int)(b:Bool×List Int):Option Bool:=(if (a0.1==b.1)=true then(if (decide ((a0.2.length:Int)≠(b.2.length:Int)))=true then some false else(zj (fun g1 (a:Int)=>(if (decide (a<(a0.2.length:Int)))=true then((idx a0.2 a).bind fun x2=>((idx b.2 a).bind fun c=>(if (decide (x2≠c))=true then some false else((i64 (a+1)).bind fun n4=>g1 n4))))else some true)) (zi 12) 0))else some false)
def N174c:=zm N99c 174 ⟨[xf,xf],.bool,5,fun x=>zdN x.1 x.2⟩
theorem tn174:ConOK N174c:=cm [(175,[hi [] [0,1,12] [(13,false,[.hole])] [] [] [i6] 12])] [5,3] tn99
def z106(a0:(Bool×List Int)×Bool×List Int)(a:(Bool×List Int)×Bool×List Int):Option Bool:=((zdN a0.1 a.1).bind fun r1=>(if r1=true then((zdN a0.2 a.2).bind fun r2=>some r2)else some false))
def N106c:=zm N174c 106 ⟨[T34n,T34n],.bool,12,fun x=>z106 x.1 x.2⟩
theorem tn106:ConOK N106c:=cm [] [12,5] tn174
def zdM(a0:Bool×List Int)(b:Bool×List Int):Option Bool:=(if (!(a0.1==b.1))=true then some false else(if (decide ((a0.2.length:Int)≠(b.2.length:Int)))=true then some false else(zj (fun g1 (a:Int)=>(if (decide (a<(a0.2.length:Int)))=true then((idx a0.2 a).bind fun x2=>((idx b.2 a).bind fun c=>(if (decide (x2≠c))=true then some false else((i64 (a+1)).bind fun n4=>g1 n4))))else some true)) (zi 4) 0)))
def N187c:=zm N106c 187 ⟨[xf,xf],.bool,8,fun x=>zdM x.1 x.2⟩
theorem tn187:ConOK N187c:=cm [(187,[hi [] [2,3] [(5,false,[.hole])] [] [] [i6] 4])] [8] tn106
def z109(a0:(Bool×List Int)×Bool×List Int)(a:(Bool×List Int)×Bool×List Int):Option Bool:=((zdM a0.1 a.1).bind fun r1=>(if r1=true then((zdM a0.2 a.2).bind fun r2=>some r2)else some false))
def N109c:=zm N187c 109 ⟨[T34n,T34n],.bool,18,fun x=>z109 x.1 x.2⟩
theorem tn109:ConOK N109c:=cm [] [18] tn187
def z188(a0:Bool×List Int):Option Bool:=(zj (fun g1 (a:Int)=>(if (decide (a<(a0.2.length:Int)))=true then((idx a0.2 a).bind fun x2=>(if (decide (x2<0))=true then some false else((idx a0.2 a).bind fun c=>(if (decide (1000000000≤c))=true then some false else((i64 (a+1)).bind fun n4=>g1 n4)))))else(if (decide ((a0.2.length:Int)=0))=true then some (!a0.1)else((i64 ((a0.2.length:Int)-1)).bind fun b=>((idx a0.2 b).bind fun d=>some (decide (d≠0))))))) (zi 4) 0)
def N188c:=zm N109c 188 ⟨[xf],.bool,7,fun x=>z188 x⟩
theorem tn188:ConOK N188c:=cm [(188,[hi [] [1] [(3,false,[.hole])] [] [] [i6] 4])] [7] tn109
def z110(a0:(Bool×List Int)×Bool×List Int):Option Bool:=((z188 a0.1).bind fun r1=>(if (!r1)=true then some false else((z188 a0.2).bind fun r2=>(if (!r2)=true then some false else(if a0.2.1=true then some false else((zbl a0.2).bind fun a=>(if a=true then some false else(if (decide ((a0.2.2.length:Int)=0))=true then some true else((z112 a0.1 a0.2).bind fun b=>((zbl b).bind fun c=>some c))))))))))
def N110c:=zm N188c 110 ⟨[T34n],.bool,805,fun x=>z110 x⟩
theorem tn110:ConOK N110c:=cm [] [805] tn188
def z245(a0:Int):Option Bool:=(if (decide (a0<0))=true then some true else some (decide (1000000000≤a0)))
def N245c:=zm N110c 245 ⟨[i6],.bool,0,fun x=>z245 x⟩
theorem tn245:ConOK N245c:=cm [] [0] tn110
def z196(a0:Bool×List Int):Option Bool:=(zj (fun g1 (a:Int)=>(if (decide (a<(a0.2.length:Int)))=true then((idx a0.2 a).bind fun x2=>((z245 x2).bind fun h=>(if h=true then(if (decide (0≤a))=true then some false else(if (decide ((a0.2.length:Int)=0))=true then(if (!a0.1)=true then some true else(if (decide (0<(a0.2.length:Int)))=true then((i64 ((a0.2.length:Int)-1)).bind fun n4=>((idx a0.2 n4).bind fun i=>some (decide (i≠0))))else some false))else(if (decide (0<(a0.2.length:Int)))=true then((i64 ((a0.2.length:Int)-1)).bind fun e=>((idx a0.2 e).bind fun j=>some (decide (j≠0))))else some false)))else((i64 (a+1)).bind fun f=>g1 f))))else(if (decide ((a0.2.length:Int)=0))=true then(if (!a0.1)=true then some true else(if (decide (0<(a0.2.length:Int)))=true then((i64 ((a0.2.length:Int)-1)).bind fun g=>((idx a0.2 g).bind fun c=>some (decide (c≠0))))else some false))else(if (decide (0<(a0.2.length:Int)))=true then((i64 ((a0.2.length:Int)-1)).bind fun b=>((idx a0.2 b).bind fun d=>some (decide (d≠0))))else some false)))) (zi 4) 0)
def N196c:=zm N245c 196 ⟨[xf],.bool,5,fun x=>z196 x⟩
theorem tn196:ConOK N196c:=cm [(269,[hi [] [0,1,7] [(8,false,[.hole])] [] [] [i6] 4])] [5,1,1,0] tn245
def z120(a0:(Bool×List Int)×Bool×List Int):Option Bool:=((z196 a0.1).bind fun r1=>(if (!r1)=true then some false else((z196 a0.2).bind fun r2=>(if (!r2)=true then some false else(if a0.2.1=true then some false else((JE a0.2).bind fun a=>(if a=true then some false else(if (decide ((a0.2.2.length:Int)=0))=true then some true else((z146 a0.1 a0.2).bind fun b=>((JE b).bind fun c=>some c))))))))))
def N120c:=zm N196c 120 ⟨[T34n],.bool,103,fun x=>z120 x⟩
theorem tn120:ConOK N120c:=cm [] [103] tn196
def z122(a0:(Bool×List Int)×Bool×List Int)(a:(Bool×List Int)×Bool×List Int):Option ((Bool×List Int)×Bool×List Int):=(if (decide ((a0.1.2.length:Int)=0))=true then some ((false,[]),false,[])else(if (decide ((a.1.2.length:Int)=0))=true then some ((false,[]),false,[])else(if (decide ((a0.2.2.length:Int)=0))=true then(if (decide ((a.2.2.length:Int)=0))=true then((z84 a0.1 a.1).bind fun r1=>some (r1,false,[]))else((z82 a).bind fun r2=>((z83 a0.1 r2).bind fun l=>((z82 a0).bind fun n=>((z83 a.1 n).bind fun m=>((z84 l.1 m.1).bind fun o=>((z82 l).bind fun p=>((z82 m).bind fun q=>((z84 p q).bind fun r=>((zdP o r).bind fun d=>some d))))))))))else((z82 a).bind fun e=>((z83 a0.1 e).bind fun b=>((z82 a0).bind fun f=>((z83 a.1 f).bind fun c=>((z84 b.1 c.1).bind fun g=>((z82 b).bind fun h=>((z82 c).bind fun i=>((z84 h i).bind fun j=>((zdP g j).bind fun k=>some k))))))))))))
def N122c:=zm N120c 122 ⟨[T34n,T34n],T34n,579,fun x=>z122 x.1 x.2⟩
theorem tn122:ConOK N122c:=cm [] [579] tn120
def z123(a0:Int)(a:Int):Option ((Bool×List Int)×Bool×List Int):=((VU a0).bind fun r1=>((VU a).bind fun r2=>((z83 r1 r2).bind fun b=>some b)))
def N123c:=zm N122c 123 ⟨[i6,i6],T34n,241,fun x=>z123 x.1 x.2⟩
theorem tn123:ConOK N123c:=cm [] [241] tn122
def z135(a0:(Bool×List Int)×Bool×List Int)(a:(Bool×List Int)×Bool×List Int):Option Int:=((z95 a).bind fun r1=>((z94 a0.1 r1).bind fun r2=>((z95 a0).bind fun b=>((z94 a.1 b).bind fun c=>((z207 r2 c).bind fun d=>some d)))))
def N135c:=zm N123c 135 ⟨[T34n,T34n],i6,112,fun x=>z135 x.1 x.2⟩
theorem tn135:ConOK N135c:=cm [] [112] tn123
def z239(a0:Bool×List Int):Option Int:=(if a0.1=true then some (-1)else(if (decide ((a0.2.length:Int)=0))=true then some 0 else some 1))
def N239c:=zm N135c 239 ⟨[xf],i6,2,fun x=>z239 x⟩
theorem tn239:ConOK N239c:=cm [] [2] tn135
def z193(a0:(Bool×List Int)×Bool×List Int):Option Int:=((z239 a0.1).bind fun r1=>some r1)
def N193c:=zm N239c 193 ⟨[T34n],i6,3,fun x=>z193 x⟩
theorem tn193:ConOK N193c:=cm [] [3] tn239
def z221(a0:Bool×List Int)(a:Bool×List Int):Option Int:=(if (!(a0.1==a.1))=true then(if a0.1=true then some (-1)else(if (!(a0.1==a.1))=true then some 1 else(if a0.1=true then((Y2 a.2 a0.2).bind fun r1=>some r1)else((Y2 a0.2 a.2).bind fun r2=>some r2))))else(if (!(a0.1==a.1))=true then some 1 else(if a0.1=true then((Y2 a.2 a0.2).bind fun b=>some b)else((Y2 a0.2 a.2).bind fun c=>some c))))
def N221c:=zm N193c 221 ⟨[xf,xf],i6,12,fun x=>z221 x.1 x.2⟩
theorem tn221:ConOK N221c:=cm [] [12] tn193
def z159(a0:(Bool×List Int)×Bool×List Int)(a:(Bool×List Int)×Bool×List Int):Option Int:=((z193 a0).bind fun r1=>((z193 a).bind fun r2=>(if (decide (r1≠r2))=true then((VU r1).bind fun f=>((VU r2).bind fun g=>((z221 f g).bind fun h=>some h)))else(if (decide (r1=0))=true then((VU r1).bind fun i=>((VU r2).bind fun j=>((z221 i j).bind fun k=>some k)))else((z82 a).bind fun l=>((z84 a0.1 l).bind fun b=>((z82 a0).bind fun c=>((z84 a.1 c).bind fun d=>((z221 b d).bind fun e=>some e)))))))))
def N159c:=zm N221c 159 ⟨[T34n,T34n],i6,102,fun x=>z159 x.1 x.2⟩
theorem tn159:ConOK N159c:=cm [] [102] tn221
end
end Go.Proofs.YtocnbjjmmgolfaaGreat
