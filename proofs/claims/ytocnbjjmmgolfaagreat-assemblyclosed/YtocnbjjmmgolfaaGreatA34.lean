/- zH law: the examples. -/
import Derived.Test.YtocnbjjmmgolfaaGreatA33
set_option linter.unusedSimpArgs false
set_option linter.unusedVariables false
set_option linter.unusedSectionVars false
namespace Go.Proofs.YtocnbjjmmgolfaaGreat
open Go Go.M Go.Proofs.C14
def sqP(n:Int):Pc:=(n,0,[(0,0),(2,0),(2,2),(0,2)],[false,false,false,false],[0,0,0,0],0,qI 1,qI 1,qI 100,Rat.divInt 1 2)
def sqL:List Pc:=[sqP 0,sqP 1,sqP 2,sqP 3]
def ftT(a b ea eb:Int)(t:Rat×Rat):Fq:=(a,b,ea,eb,1,t,(0,0),0,0)
def ft(a b ea eb:Int):Fq:=ftT a b ea eb (qI 1,0)
theorem sq_ok{n:Int}(h0:0≤n)(h1:n≤999):PcOK (sqP n):=by
 refine⟨⟨(0,0),(2,0),(2,2),(0,2),rfl,⟨⟨by decide,by decide⟩,⟨by decide,by decide⟩,⟨by decide,by decide⟩,⟨by decide,by decide⟩⟩,by decide⟩,⟨h0,h1⟩,⟨Int.le_refl _,show(0:Int)≤4 by decide⟩,rfl,rfl,⟨qv0,eL⟩,⟨(QV.int (n:=1) (B:=10) Uz).up (k:=2),?_⟩,⟨(QV.int (n:=1) (B:=10) Uz).up (k:=2),eL⟩,rfl,rfl⟩
 exact qI_lt (show(0:Int)<1 by decide)
theorem sql_ok:∀p∈sqL,PcOK p:=by
 intro p hp
 simp only[sqL,aL,cH,or_false]at hp
 rcases hp with rfl|rfl|rfl|rfl<;>exact sq_ok Uz Uz
theorem tn_one:Tn 1 (qI 1,0):=tn_still
theorem tn_back:Tn 1 (0,Rat.divInt (-1) 1):=⟨1,0,-1,by omega,by omega,by decide,rfl,rfl⟩
theorem ex_case{F:List Fq}(a:F.length≤6)(h:∀f∈F,yy f.1∧yy f.2.1∧Tn 1 f.2.2.2.2.2.1):CaseOK sqL F 1:=
 ⟨⟨by decide,by decide⟩,sql_ok,a,fun f hf=>⟨(h f hf).1,(h f hf).2.1,(h f hf).2.2.le Uz⟩,zeB fun f hf=>(h f hf).2.2,by decide⟩
theorem in_ft{a b ea eb:Int}{t:Rat×Rat}(ha:a.natAbs<100)(hb:b.natAbs<100)(c:Tn 1 t):yy (ftT a b ea eb t).1∧yy (ftT a b ea eb t).2.1∧Tn 1 (ftT a b ea eb t).2.2.2.2.2.1:=⟨W4 (show a.natAbs<_ by omega),W4 (show b.natAbs<_ by omega),c⟩
def E1:List Fq:=[ft 0 1 1 3,ft 1 2 2 0,ft 2 3 3 1,ft 0 3 2 0]
def E2:List Fq:=[ft 0 1 1 3,ft 1 2 2 0,ft 2 3 3 1,ftT 0 3 1 0 (0,Rat.divInt (-1) 1)]
def E3:List Fq:=[ft 0 1 1 3,ft 1 2 2 0,ft 2 3 3 1,ft 0 3 0 2]
def E4:List Fq:=[ft 0 1 1 3,ft 0 1 2 0]
def E5:List Fq:=[ft 0 1 1 3,ft 0 2 1 3]
theorem ce{F:List Fq}(a:F=E1∨F=E2∨F=E3∨F=E4∨F=E5):CaseOK sqL F 1:=by
 refine ex_case (by rcases a with rfl|rfl|rfl|rfl|rfl<;>decide) fun f hf=>?_
 rcases a with rfl|rfl|rfl|rfl|rfl<;>simp only[E1,E2,E3,E4,E5,aL,cH,or_false]at hf<;>(try rcases hf with rfl|rfl|rfl|rfl)<;>(try rcases hf with rfl|rfl)<;>first|exact in_ft Uz Uz tn_one|exact in_ft Uz Uz tn_back
def vI:List Q2:=[zX,zX,zX,zX]
theorem gU{F:List Fq}(h:CaseOK sqL F 1)(ok:okB sqL F=true)(hs:∀f∈F,f.2.2.2.2.2.1=zX):yH sqL.length F=vI∧(∃τ,AgF F τ):=by
 have a:AgF F fun _=>zX:=⟨fun _=>uU,fun f hf=>by rw[hs f hf,vN]⟩
 refine⟨?_,_,a⟩
 have e:∀i,i<4→xi sqL.length F i=zX:=fun i hi=>by
  rw[gR h.un a (zci ok) hi]
  exact vT uU
 show [xi sqL.length F 0,xi sqL.length F 1,xi sqL.length F 2,xi sqL.length F 3]=_
 rw[e 0 Uz,e 1 Uz,e 2 Uz,e 3 Uz]
 rfl
theorem iw_pot{L:List Bd}{of:List Int}{j:Int}{pot:Nat→Rat}(h:∀i (hi:i<L.length),of.getD i 0≠j→pot L[i].2.1.toNat≤pot L[i].1.toNat+L[i].2.2):∀{w:List Int} {a v:Nat} {s:Rat},IW L a w v s→(∀x∈w,of.getD x.toNat 0≠j)→pot v≤pot a+s
 | [],a,v,s,⟨h1,h2⟩,_=>by rw[h1,h2,Rat.add_zero];exact eL
 |x::w,a,v,s,⟨i,e,hi,h1,s',h2,c⟩,b=>by
  have g:=iw_pot h c fun y k=>b y (aN _ k)
  have g2:=h i hi (by have:=b x (aP ..);rw[e,Int.toNat_natCast]at this;exact this)
  rw[h1]at g2
  rw[h2]
  grind
theorem cyc_need{L:List Bd}{n:Nat}{of c:List Int}(hc:zbc L n of c){j:Int}(pot:Nat→Rat)(h:∀i (hi:i<L.length),of.getD i 0≠j→pot L[i].2.1.toNat≤pot L[i].1.toNat+L[i].2.2):j∈c:=by
 obtain⟨w,⟨-,v,s,b,hs⟩,a,-⟩:=hc
 apply eD
 intro hj
 have:=iw_pot h b fun x hx e=>hj ((a j).mpr ⟨x,hx,e.symm⟩)
 grind
theorem zfc{L:List Bd}{n:Nat}{of c l:List Int}(hc:zbc L n of c)(hL:L.length=of.length)(hl:l.Pairwise (·<·))(h1:∀y∈of,y∈l)(h2:∀j∈l,∃pot:Nat→Rat,∀i (hi:i<L.length),of.getD i 0≠j→pot L[i].2.1.toNat≤pot L[i].1.toNat+L[i].2.2):c=l:=by
 have a:=hc
 obtain⟨w,⟨-,v,s,e,hs⟩,b,hp⟩:=hc
 refine Ww hp hl fun x=>⟨fun hx=>?_,fun hx=>?_⟩
 ·obtain⟨y,g,rfl⟩:=(b x).mp hx
  obtain⟨g0,g1⟩:=zam e y g
  rw[zD (show y.toNat<of.length by omega)]
  exact h1 _ (aK _)
 ·obtain⟨pot,h⟩:=h2 x hx
  exact cyc_need a pot h
section
variable{F:List Fq}{x:Nat→Rat}{f:Fq}{d:Rat×Rat}
theorem ZO(s:zdE sqL vI F x)(hf:f∈F)(hd:dif sqL vI f 0=d)(a:ju sqL f=0):x f.2.1.toNat=x f.1.toNat+d.1:=by
 obtain⟨h1,h2⟩:=s f hf 0 (cJ _)
 rw[hd,a]at h1 h2
 grind
theorem uh(s:zdD sqL vI F x)(hf:f∈F)(hd:dif sqL vI f 0=d)(a:ju sqL f=0):x f.2.1.toNat=x f.1.toNat+d.2:=by
 obtain⟨h1,h2⟩:=s f hf 0 (cJ _)
 rw[hd,a]at h1 h2
 grind
end
def at4(a b c d:Rat)(v:Nat):Rat:=[a,b,c,d].getD v 0
def FtE(f:Fq)(d:Rat×Rat):Prop:=dif sqL vI f 0=d∧ju sqL f=0
theorem f01:FtE (ft 0 1 1 3) (2,0):=⟨by decide +kernel,by decide +kernel⟩
theorem f12:FtE (ft 1 2 2 0) (0,2):=⟨by decide +kernel,by decide +kernel⟩
theorem f23:FtE (ft 2 3 3 1) (-2,0):=⟨by decide +kernel,by decide +kernel⟩
theorem f03:FtE (ft 0 3 2 0) (0,2):=⟨by decide +kernel,by decide +kernel⟩
theorem g03:FtE (ft 0 3 0 2) (0,-2):=⟨by decide +kernel,by decide +kernel⟩
theorem g01:FtE (ft 0 1 2 0) (0,2):=⟨by decide +kernel,by decide +kernel⟩
theorem f02:FtE (ft 0 2 1 3) (2,0):=⟨by decide +kernel,by decide +kernel⟩
def A1:List Pl:=[(zX,0,0),(zX,2,0),(zX,2,2),(zX,0,2)]
def A5:List Pl:=[(zX,0,0),(zX,2,0),(zX,2,0),(zX,0,0)]
theorem Zo{F:List Fq}(a:F=E1∨F=E3∨F=E4∨F=E5):∀f∈F,f.2.2.2.2.2.1=zX:=by
 intro f hf
 rcases a with rfl|rfl|rfl|rfl<;>simp only[E1,E3,E4,E5,aL,cH,or_false]at hf<;>(try rcases hf with rfl|rfl|rfl|rfl)<;>(try rcases hf with rfl|rfl)<;>rfl
theorem res1:z26 sqL E1=some (A1,[],0):=by
 have h:=ce (.inl rfl)
 have ok:okB sqL E1=true:=by decide +kernel
 obtain⟨e,hτ⟩:=gU h ok (Zo (.inl rfl))
 have hg:Qj sqL E1:=⟨hτ,⟨at4 0 2 2 0,by rw[e];exact sat_X.mp (show ∀c∈(Zq sqL vI E1).map toE,at4 0 2 2 0 c.to≤at4 0 2 2 0 c.fr+c.m by decide +kernel)⟩,⟨at4 0 0 2 2,by rw[e];exact sat_Y.mp (show ∀c∈(Yc sqL vI E1).map toE,at4 0 0 2 2 c.to≤at4 0 0 2 2 c.fr+c.m by decide +kernel)⟩⟩
 cases JQ h with
 |arg a=>rw[ok]at a;cases a
 |bad c a g=>exact absurd hg g
 |ok x y a g i j b=>
  rw[e]at i j b
  have sx:=sat_X.mp i.sat
  have sy:=sat_Y.mp j.sat
  have l:xN sqL.length E1=[0,0,0,0]:=by decide +kernel
  have x1:fx x 1=fx x 0+2:=ZO sx (f:=ft 0 1 1 3) (by simp[E1]) f01.1 f01.2
  have x2:fx x 2=fx x 1+0:=ZO sx (f:=ft 1 2 2 0) (by simp[E1]) f12.1 f12.2
  have x3:fx x 3=fx x 0+0:=ZO sx (f:=ft 0 3 2 0) (by simp[E1]) f03.1 f03.2
  have y1:fx y 1=fx y 0+0:=uh sy (f:=ft 0 1 1 3) (by simp[E1]) f01.1 f01.2
  have y2:fx y 2=fx y 1+2:=uh sy (f:=ft 1 2 2 0) (by simp[E1]) f12.1 f12.2
  have y3:fx y 3=fx y 0+2:=uh sy (f:=ft 0 3 2 0) (by simp[E1]) f03.1 f03.2
  have p:plL sqL.length [0,0,0,0] vI x y=A1:=by
   show [(zX,fx x 0-fx x 0,fx y 0-fx y 0),(zX,fx x 1-fx x 0,fx y 1-fx y 0),(zX,fx x 2-fx x 0,fx y 2-fx y 0),(zX,fx x 3-fx x 0,fx y 3-fx y 0)]=_
   rw[show fx x 0-fx x 0=0 by grind,show fx y 0-fx y 0=0 by grind,show fx x 1-fx x 0=2 by grind,show fx y 1-fx y 0=0 by grind,show fx x 2-fx x 0=2 by grind,show fx y 2-fx y 0=2 by grind,show fx x 3-fx x 0=0 by grind,show fx y 3-fx y 0=2 by grind]
   rfl
  have k:vm sqL [0,0,0,0] A1=false:=by decide +kernel
  rw[l,p,k,aD Uz]at b
  exact b
theorem res5:z26 sqL E5=some ([],[],13):=by
 have h:=ce (.inr (.inr (.inr (.inr rfl))))
 have ok:okB sqL E5=true:=by decide +kernel
 obtain⟨e,hτ⟩:=gU h ok (Zo (.inr (.inr (.inr rfl))))
 have hg:Qj sqL E5:=⟨hτ,⟨at4 0 2 2 0,by rw[e];exact sat_X.mp (show ∀c∈(Zq sqL vI E5).map toE,at4 0 2 2 0 c.to≤at4 0 2 2 0 c.fr+c.m by decide +kernel)⟩,⟨at4 0 0 0 0,by rw[e];exact sat_Y.mp (show ∀c∈(Yc sqL vI E5).map toE,at4 0 0 0 0 c.to≤at4 0 0 0 0 c.fr+c.m by decide +kernel)⟩⟩
 cases JQ h with
 |arg a=>rw[ok]at a;cases a
 |bad c a g=>exact absurd hg g
 |ok x y a g i j b=>
  rw[e]at i j b
  have sx:=sat_X.mp i.sat
  have sy:=sat_Y.mp j.sat
  have l:xN sqL.length E5=[0,0,0,3]:=by decide +kernel
  have x1:fx x 1=fx x 0+2:=ZO sx (f:=ft 0 1 1 3) (by simp[E5]) f01.1 f01.2
  have x2:fx x 2=fx x 0+2:=ZO sx (f:=ft 0 2 1 3) (by simp[E5]) f02.1 f02.2
  have y1:fx y 1=fx y 0+0:=uh sy (f:=ft 0 1 1 3) (by simp[E5]) f01.1 f01.2
  have y2:fx y 2=fx y 0+0:=uh sy (f:=ft 0 2 1 3) (by simp[E5]) f02.1 f02.2
  have p:plL sqL.length [0,0,0,3] vI x y=A5:=by
   show [(zX,fx x 0-fx x 0,fx y 0-fx y 0),(zX,fx x 1-fx x 0,fx y 1-fx y 0),(zX,fx x 2-fx x 0,fx y 2-fx y 0),(zX,fx x 3-fx x 3,fx y 3-fx y 3)]=_
   rw[show fx x 0-fx x 0=0 by grind,show fx y 0-fx y 0=0 by grind,show fx x 1-fx x 0=2 by grind,show fx y 1-fx y 0=0 by grind,show fx x 2-fx x 0=2 by grind,show fx y 2-fx y 0=0 by grind,show fx x 3-fx x 3=0 by grind,show fx y 3-fx y 3=0 by grind]
   rfl
  have k:vm sqL [0,0,0,3] A5=true:=by decide +kernel
  rw[l,p,k,aF rfl]at b
  exact b
theorem res2:z26 sqL E2=some ([],[0,1,2,3],14):=by
 have ok:okB sqL E2=true:=by decide +kernel
 have hf:first (eds E2) (trn E2) E2.length=some (3,[0,1,2]):=by decide +kernel
 cases uV (ce (.inr (.inl rfl)))with
 |arg b=>rw[ok]at b;cases b
 |turn k r b a e=>
  rw[hf]at a
  cases a
  exact e
 |xs c b a=>rw[hf]at a;cases a
 |ys c b a=>rw[hf]at a;cases a
 |ok x y b a=>rw[hf]at a;cases a
theorem res3:z26 sqL E3=some ([],[0,1,2,3],14):=by
 have h:=ce (.inr (.inr (.inl rfl)))
 have ok:okB sqL E3=true:=by decide +kernel
 obtain⟨i,hτ⟩:=gU h ok (Zo (.inr (.inl rfl)))
 have hf:=(vr h.un).mpr hτ
 cases uV h with
 |arg a=>rw[ok]at a;cases a
 |turn k r a b=>rw[hf]at b;cases b
 |xs c a b g=>exact absurd ⟨at4 0 2 2 0,by rw[i];exact sat_X.mp (show ∀c∈(Zq sqL vI E3).map toE,at4 0 2 2 0 c.to≤at4 0 2 2 0 c.fr+c.m by decide +kernel)⟩ g
 |ys c a b g e n=>
  rw[i]at e
  rw[n,zfc (l:=[0,1,2,3]) e (by decide +kernel) Uz (by decide +kernel) fun j hj=>?_]
  simp only[aL,cH,or_false]at hj
  rcases hj with rfl|rfl|rfl|rfl
  ·exact⟨at4 0 (-4) (-2) (-2),by decide +kernel⟩
  ·exact⟨at4 0 0 (-2) (-2),by decide +kernel⟩
  ·exact⟨at4 0 0 2 (-2),by decide +kernel⟩
  ·exact⟨at4 0 0 2 2,by decide +kernel⟩
 |ok x y a b g e n=>
  rw[i]at e
  have sy:=sat_Y.mp e.sat
  have y1:fx y 1=fx y 0+0:=uh sy (f:=ft 0 1 1 3) (by simp[E3]) f01.1 f01.2
  have y2:fx y 2=fx y 1+2:=uh sy (f:=ft 1 2 2 0) (by simp[E3]) f12.1 f12.2
  have y3:fx y 3=fx y 2+0:=uh sy (f:=ft 2 3 3 1) (by simp[E3]) f23.1 f23.2
  have o:fx y 3=fx y 0 + -2:=uh sy (f:=ft 0 3 0 2) (by simp[E3]) g03.1 g03.2
  exact absurd o (by grind)
theorem res4:z26 sqL E4=some ([],[0,1],14):=by
 have h:=ce (.inr (.inr (.inr (.inl rfl))))
 have ok:okB sqL E4=true:=by decide +kernel
 obtain⟨m,hτ⟩:=gU h ok (Zo (.inr (.inr (.inl rfl))))
 have hf:=(vr h.un).mpr hτ
 cases uV h with
 |arg a=>rw[ok]at a;cases a
 |turn k r a e=>rw[hf]at e;cases e
 |xs c a e g b i=>
  rw[m]at b
  rw[i,zfc (l:=[0,1]) b (by decide +kernel) Uz (by decide +kernel) fun j hj=>?_]
  simp only[aL,cH,or_false]at hj
  rcases hj with rfl|rfl
  ·exact⟨at4 0 0 0 0,by decide +kernel⟩
  ·exact⟨at4 0 2 0 0,by decide +kernel⟩
 |ys c a e g b i=>
  rw[m]at b
  rw[i,zfc (l:=[0,1]) b (by decide +kernel) Uz (by decide +kernel) fun j hj=>?_]
  simp only[aL,cH,or_false]at hj
  rcases hj with rfl|rfl
  ·exact⟨at4 0 2 0 0,by decide +kernel⟩
  ·exact⟨at4 0 0 0 0,by decide +kernel⟩
 |ok x y a e g b i=>
  rw[m]at g
  have sx:=sat_X.mp g.sat
  have x1:fx x 1=fx x 0+2:=ZO sx (f:=ft 0 1 1 3) (by simp[E4]) f01.1 f01.2
  have x2:fx x 1=fx x 0+0:=ZO sx (f:=ft 0 1 2 0) (by simp[E4]) g01.1 g01.2
  exact absurd x2 (by grind)
theorem a1_pl:∀v∈A1,PlOK 1 v:=by
 have s:V2 1 1 zX:=⟨QV.int (n:=1) Uz,QV.int (n:=0) Uz⟩
 have q:∀{n:Int},n.natAbs≤360→QV (1*4) 360 (qI n):=fun h=>(QV.int h).up (k:=4)
 intro v hv
 simp only[A1,aL,cH,or_false]at hv
 rcases hv with rfl|rfl|rfl|rfl
 ·exact⟨s,q (n:=0) Uz,q (n:=0) Uz⟩
 ·exact⟨s,q (n:=2) Uz,q (n:=0) Uz⟩
 ·exact⟨s,q (n:=2) Uz,q (n:=2) Uz⟩
 ·exact⟨s,q (n:=0) Uz,q (n:=2) Uz⟩
theorem chk1:z24 sqL E1 A1=some 0:=by
 have h:=ce (.inl rfl)
 have a:xN sqL.length E1=[0,0,0,0]:=by decide +kernel
 have b:vm sqL [0,0,0,0] A1=false:=by decide +kernel
 have:=(gI h (A:=A1) rfl a1_pl (by decide +kernel)).1 ⟨by decide +kernel,by rw[a];decide +kernel,by decide +kernel,(show ∀c∈(Zq sqL (tnA A1) E1).map toE,fx (xsA A1) c.to≤fx (xsA A1) c.fr+c.m by decide +kernel),(show ∀c∈(Yc sqL (tnA A1) E1).map toE,fx (ysA A1) c.to≤fx (ysA A1) c.fr+c.m by decide +kernel)⟩
 rw[a,b,aD Uz]at this
 exact this
theorem chk_len{P:List Pc}{F:List Fq}{K:Nat}(h:CaseOK P F K)(ok:okB P F=true){A:List Pl}(hl:A.length≠P.length):z24 P F A=some 1:=by
 have e1:=uj h.fl h.tu rfl h.n.2 h.pc
 unfold okB at ok
 rw[ok,aF rfl]at e1
 unfold z24
 rw[e1,aA,aD Y8,aF (aH Oz)]
theorem Xp{l:List Int}(h:l.length≤11):z14 l l=some true:=by
 unfold z14
 rw[aD Y8]
 refine zk l.length (fun i (x:Int)=>x=(i:Int)) (fun o=>o=some true) Oz rfl ?_ ?_
 ·rintro i x g hi rfl hg
  rw[aF (zM hi),zt hi,aA,aA,aD Y8,zp Oz,aA]
  exact hg _ rfl
 ·rintro x g rfl
  rw[aD Y8]
theorem QZ:z18=some true:=by
 have h:=ce (.inl rfl)
 have p:∀n:Int,z35 n [(0,0),(2,0),(2,2),(0,2)]=some (sqP n):=fun n=>zbZ rfl
 have s:=still_eq.2
 have m:z41 2 0=some (qI 2,qI 0):=wP (a:=(2,0)) ⟨by decide,by decide⟩
 have o:z41 2 2=some (qI 2,qI 2):=wP (a:=(2,2)) ⟨by decide,by decide⟩
 have q:z41 0 2=some (qI 0,qI 2):=wP (a:=(0,2)) ⟨by decide,by decide⟩
 have r:ofG (-1) 1=some (Rat.divInt (-1) 1):=Xn Uz ⟨by decide,by decide⟩
 have r1:z26 [sqP 0,sqP 1,sqP 2,sqP 3] [(0,1,1,3,1,(qI 1,0),(0,0),0,0),(1,2,2,0,1,(qI 1,0),(0,0),0,0),(2,3,3,1,1,(qI 1,0),(0,0),0,0),(0,3,2,0,1,(qI 1,0),(0,0),0,0)]=some (A1,[],0):=res1
 have r2:z26 [sqP 0,sqP 1,sqP 2,sqP 3] ([(0,1,1,3,1,(qI 1,0),(0,0),0,0),(1,2,2,0,1,(qI 1,0),(0,0),0,0),(2,3,3,1,1,(qI 1,0),(0,0),0,0)]++[(0,3,1,0,1,(0,Rat.divInt (-1) 1),(0,0),0,0)])=some ([],[0,1,2,3],14):=res2
 have t:z26 [sqP 0,sqP 1,sqP 2,sqP 3] ([(0,1,1,3,1,(qI 1,0),(0,0),0,0),(1,2,2,0,1,(qI 1,0),(0,0),0,0),(2,3,3,1,1,(qI 1,0),(0,0),0,0)]++[(0,3,0,2,1,(qI 1,0),(0,0),0,0)])=some ([],[0,1,2,3],14):=res3
 have u:z26 [sqP 0,sqP 1,sqP 2,sqP 3] [(0,1,1,3,1,(qI 1,0),(0,0),0,0),(0,1,2,0,1,(qI 1,0),(0,0),0,0)]=some ([],[0,1],14):=res4
 have v:z26 [sqP 0,sqP 1,sqP 2,sqP 3] [(0,1,1,3,1,(qI 1,0),(0,0),0,0),(0,2,1,3,1,(qI 1,0),(0,0),0,0)]=some ([],[],13):=res5
 have c1:z24 [sqP 0,sqP 1,sqP 2,sqP 3] [(0,1,1,3,1,(qI 1,0),(0,0),0,0),(1,2,2,0,1,(qI 1,0),(0,0),0,0),(2,3,3,1,1,(qI 1,0),(0,0),0,0),(0,3,2,0,1,(qI 1,0),(0,0),0,0)] A1=some 0:=chk1
 have g:z24 [sqP 0,sqP 1,sqP 2,sqP 3] [(0,1,1,3,1,(qI 1,0),(0,0),0,0),(1,2,2,0,1,(qI 1,0),(0,0),0,0),(2,3,3,1,1,(qI 1,0),(0,0),0,0),(0,3,2,0,1,(qI 1,0),(0,0),0,0)] [(zX,0,0),(zX,2,0),(zX,2,2)]=some 1:=chk_len h (by decide +kernel) Uz
 have w:z29 A1 [((qI 1,0),0,0),((qI 1,0),qI 2,qI 0),((qI 1,0),qI 2,qI 2),((qI 1,0),qI 0,qI 2)]=some true:=same_self h.k (A:=A1) Uz a1_pl
 have sl:∀{α:Type} {a b c d:α},xK [a,b,c,d] 0 3=some [a,b,c]:=rfl
 have e:∀{α:Type} {a b c:α},app ([]:List α) [a,b,c]=some [a,b,c]:=rfl
 have ap2:∀{α:Type} {a b c d:α},app [a,b,c] [d]=some ([a,b,c]++[d]):=rfl
 have i:∀{α:Type} {a b c d:α},idx [a,b,c,d] 0=some a:=rfl
 have y:xK A1 0 3=some [(zX,0,0),(zX,2,0),(zX,2,2)]:=rfl
 have n4:=Xp (l:=[0,1,2,3]) Uz
 have j:=Xp (l:=[0,1]) Uz
 unfold z18
 simp only[p,s,m,o,q,r,aA,r1,sl,e,ap2,r2,t,i,u,v]
 rw[aD Uz,aD Uz,aD Uz,aD Uz,aD Uz,aD Uz,n4,aA,aF rfl,aA,aF rfl,j,aA,aF rfl,w,aA,aF rfl,c1,aA,aF Uz,y,aA,g]
 rfl
end Go.Proofs.YtocnbjjmmgolfaaGreat
