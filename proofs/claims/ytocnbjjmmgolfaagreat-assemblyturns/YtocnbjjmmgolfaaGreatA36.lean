/- The reference: the fit of two pieces of a box. -/
/- The reference: a box that was broken. -/
import Derived.Test.YtocnbjjmmgolfaaGreatA35
namespace Go.Proofs.YtocnbjjmmgolfaaGreat
open Go Go.M Go.Proofs.C14
theorem bf40:buildF Tryz.prog 40=some ([.int .i64 0,.int .i64 0,.int .i64 0,.int .i64 0,.int .i64 0,.bool false,.slice none 0 0,.bool false,.slice none 0 0,.bool false,.slice none 0 0,.bool false,.slice none 0 0,.bool false,.slice none 0 0,.bool false,.slice none 0 0,.bool false,.slice none 0 0,.bool false,.slice none 0 0,.bool false,.slice none 0 0,.bool false,.slice none 0 0,.bool false,.slice none 0 0,.bool false,.slice none 0 0],[(0,1),(1,1),(2,1),(3,1),(4,1),(5,8),(13,8),(21,8)]):=by kernel_rfl
theorem el23:elemF Tryz.prog 23=some (true,0,25):=by kernel_rfl
theorem el25:elemF Tryz.prog 25=some (true,0,16):=by kernel_rfl
theorem fb42:xK Tryz.f42 (Tryz.f42.body.getD .skip) 5=true:=by kernel_rfl
theorem fc100:xJ Tryz.prog 100=true:=by kernel_rfl
theorem fc101:xJ Tryz.prog 101=true:=by kernel_rfl
theorem fc73:xJ Tryz.prog 73=true:=by kernel_rfl
theorem of27_0:wZ Tryz.prog 27 0=some 0:=by kernel_rfl
theorem of27_2:wZ Tryz.prog 27 2=some 2:=by kernel_rfl
theorem of40_6:wZ Tryz.prog 40 6=some 13:=by kernel_rfl
theorem of40_7:wZ Tryz.prog 40 7=some 21:=by kernel_rfl
theorem of54_0:wZ Tryz.prog 54 0=some 0:=by kernel_rfl
theorem sh23:qw Tryz.prog 23=some (none):=by kernel_rfl
theorem sh25:qw Tryz.prog 25=some (none):=by kernel_rfl
theorem sz40:kD Tryz.prog 40=some 29:=by kernel_rfl
theorem zf40:zeroF Tryz.prog 40=some [.int .i64 0,.int .i64 0,.int .i64 0,.int .i64 0,.int .i64 0,.bool false,.slice none 0 0,.bool false,.slice none 0 0,.bool false,.slice none 0 0,.bool false,.slice none 0 0,.bool false,.slice none 0 0,.bool false,.slice none 0 0,.bool false,.slice none 0 0,.bool false,.slice none 0 0,.bool false,.slice none 0 0,.bool false,.slice none 0 0,.bool false,.slice none 0 0,.bool false,.slice none 0 0]:=by kernel_rfl
def PcS(K:Kw)(s:St)(l:List Value):Prop:=∃x0 x1 a c x3 x4 n1 a1 m1 c1 n2 a2 m2 c2 rest P q,l=x0::x1::.slice a 4 c::x3::x4::.bool n1::.slice a1 m1 c1::.bool n2::.slice a2 m2 c2::rest∧rest.length=16∧SlP s (.slice a 4 c) P∧Sml 16 P∧P.length=4∧RatK K n1 a1 m1 c1 n2 a2 m2 c2 q 2 4
variable{s':St}{l:List Value}{ea eb:Int}
theorem PcS.up{K K':Kw}{s:St}{L:Hp'}{n:Nat}(h:PcS K s l)(H:HL [] s s' L n)(hs:KLe K K'):PcS K' s' l:=by
 obtain⟨x0,x1,a,c,x3,x4,n1,a1,m1,c1,n2,a2,m2,c2,rest,P,q,h1,h2,h3,h4,h5,h6⟩:=h
 exact⟨x0,x1,a,c,x3,x4,n1,a1,m1,c1,n2,a2,m2,c2,rest,P,q,h1,h2,h3.kept H,h4,h5,h6.mono hs⟩
theorem PcS.heap{K:Kw}{s:St}(h:PcS K s l)(hh:s'.heap=s.heap)(hn:s.next≤s'.next):PcS K s' l:=by
 obtain⟨x0,x1,a,c,x3,x4,n1,a1,m1,c1,n2,a2,m2,c2,rest,P,q,h1,h2,h3,h4,h5,h6⟩:=h
 exact⟨x0,x1,a,c,x3,x4,n1,a1,m1,c1,n2,a2,m2,c2,rest,P,q,h1,h2,h3.heap hh hn,h4,h5,h6⟩
def PlS(K:Kw)(l:List Value):Prop:=∃t t2 q,l=t++t2∧VecK K t q.1 q.2 1 1∧Tn 1 q∧t2.length=8
theorem list16{l:List Value}(h:l.length=16):∃y0 y1 y2 y3 y4 y5 y6 y7 y8 y9 y10 y11 y12 y13 y14 y15,l=[y0,y1,y2,y3,y4,y5,y6,y7,y8,y9,y10,y11,y12,y13,y14,y15]:=by
 match l,h with
 | [y0,y1,y2,y3,y4,y5,y6,y7,y8,y9,y10,y11,y12,y13,y14,y15],_=>exact⟨y0,y1,y2,y3,y4,y5,y6,y7,y8,y9,y10,y11,y12,y13,y14,y15,rfl⟩
theorem agreeC{I:xP}(hI:xA I){s:St}(hf:Fine s){K:Kw}(hK:Kn s K){cA cB:List Value}(hA:PcS K s cA)(hB:PcS K s cB){fa fb:Int}{n45:Bool}{a45:Option Addr}{m45 c45:Nat}{n46:Bool}{a46:Option Addr}{m46 c46:Nat}{n47:Bool}{a47:Option Addr}{m47 c47:Nat}{n48:Bool}{a48:Option Addr}{m48 c48:Nat}{z0 z1 z2 z3 z4 z5 z6 z7 z8 z9 z10 z11 z12 z13 z14 z15:Value}(he0:0≤ea)(he3:ea≤3)(hb0:0≤eb)(hb3:eb≤3){p q:Rat}(hx:RatK K n45 a45 m45 c45 n46 a46 m46 c46 p 1 1)(hy:RatK K n47 a47 m47 c47 n48 a48 m48 c48 q 1 1)(ht:p*p+q*q=1)(hroom:s.next+1000000≤yC) :
  ∃v' s',xN Tryz.prog I 101 #[.agg ⟨cA⟩,.agg ⟨cB⟩,.agg ⟨[.int .i64 fa,.int .i64 fb,.int .i64 ea,.int .i64 eb,.int .i64 1,.bool n45,.slice a45 m45 c45,.bool n46,.slice a46 m46 c46,.bool n47,.slice a47 m47 c47,.bool n48,.slice a48 m48 c48,z0,z1,z2,z3,z4,z5,z6,z7,z8,z9,z10,z11,z12,z13,z14,z15]⟩] s v' s'∧(∃D lo hi b q1 r1 q2 r2,v'=.tuple ⟨[.agg ⟨lo⟩,.agg ⟨hi⟩,.bool b]⟩∧HL [] s s' D 1000000∧VecK (KX K D) lo q1 r1 1000 1000∧VecK (KX K D) hi q2 r2 1000 1000):=by
 obtain⟨x0,x1,a,c,x3,x4,n1,a1,m1,c1,n2,a2,m2,c2,rest,P,q,h1,h2,h3,h4,h5,h6⟩:=hA
 obtain⟨x0',x1',a',c',x3',x4',n1',a1',m1',c1',n2',a2',m2',c2',rest',P',q',h1',h2',h3',h4',h5',h6'⟩:=hB
 obtain⟨y0,y1,y2,y3,y4,y5,y6,y7,y8,y9,y10,y11,y12,y13,y14,y15,rfl⟩:=list16 h2
 obtain⟨y0',y1',y2',y3',y4',y5',y6',y7',y8',y9',y10',y11',y12',y13',y14',y15',rfl⟩:=list16 h2'
 rw[h1,h1']
 exact agree13_ok hI hf hK he0 he3 hb0 hb3 h3 h4 h5 h3' h4' h5' h6 h6' hx hy ht hroom
section
variable{P:Program}{I:xP}{f:FuncId}{args:Array Value}{s:St}{Q:Value→St→Prop}{K:Kw}{k:Nat}
theorem callAg(h:∃v s',xN P I f args s v s'∧∃D lo hi b q1 r1 q2 r2,v=.tuple ⟨[.agg ⟨lo⟩,.agg ⟨hi⟩,.bool b]⟩∧HL [] s s' D k∧VecK (KX K D) lo q1 r1 1000 1000∧VecK (KX K D) hi q2 r2 1000 1000)
  (c:∀s' D lo hi b q1 r1 q2 r2,HL [] s s' D k→VecK (KX K D) lo q1 r1 1000 1000→VecK (KX K D) hi q2 r2 1000 1000→Q (.tuple ⟨[.agg ⟨lo⟩,.agg ⟨hi⟩,.bool b]⟩) s'):∃v s',xN P I f args s v s'∧Q v s':=by
 obtain⟨v,s',hr,D,lo,hi,b,q1,r1,q2,r2,rfl,H,h1,h2⟩:=h
 exact⟨_,_,hr,c s' D lo hi b q1 r1 q2 r2 H h1 h2⟩
end
set_option maxHeartbeats 4000000 in
set_option maxRecDepth 10000 in
theorem joined14_ok{I:xP}(hI:xA I){s:St}(hf:Fine s){K:Kw}(hK:Kn s K){vp vf va:Value}{pcs pls:List (List Value)}(hsp:Sl s 72 25 vp pcs)(hsa:Sl s 54 16 va pls)(hpc:∀k,k<pcs.length→PcS K s (pcs.getD k []))(hpl:∀k,k<pls.length→PlS K (pls.getD k [])){x y:Nat}(hxp:x<pcs.length)(hyp:y<pcs.length)(hxa:x<pls.length)(hya:y<pls.length)(hx4:x≤4)(hy4:y≤4)(he0:0≤ea)(he3:ea≤3)(hb0:0≤eb)(hb3:eb≤3)(hroom:s.next+1100000≤yC) :
  ∃v' s',xN Tryz.prog I 42 #[.agg ⟨[vp,vf,va]⟩,.int .i64 (x:Int),.int .i64 (y:Int),.int .i64 ea,.int .i64 eb] s v' s'∧(∃D f q,v'=.agg ⟨Ft.cells f⟩∧HL [] s s' D 1100000∧FtK (KX K D) f q∧f.a=x∧f.b=y):=by
 rw[Nat.add_comm]at hroom
 have H:=hf.hl
 obtain⟨b1,off1,cap1,c1_,rfl,hg1,hb1,hcL⟩:=hsa.blk O
 obtain⟨b2,off2,cap2,c2_,rfl,hg2,hb2,hcP⟩:=hsp.blk O
 obtain⟨tA,uA,qA,eA,hvA,htA,hlA⟩:=hpl x O
 have hcA:=hcL x O
 rw[eA]at hcA
 have hcA:=jr (k:=0) (j:=8) hcA U
 rw[List.drop_zero,List.take_left' (hvA.len)]at hcA
 obtain⟨nA1,aA1,mA1,cA1,nA2,aA2,mA2,cA2,nA3,aA3,mA3,cA3,nA4,aA4,mA4,cA4,rfl,hAX,hAY⟩:=hvA
 have hAX:=hAX.mono (zZ (D:=[]))
 have hAY:=hAY.mono (zZ (D:=[]))
 obtain⟨tB,uB,qB,eB,hvB,htB,hlB⟩:=hpl y O
 have hcB:=hcL y O
 rw[eB]at hcB
 have hcB:=jr (k:=0) (j:=8) hcB U
 rw[List.drop_zero,List.take_left' (hvB.len)]at hcB
 obtain⟨nB1,aB1,mB1,cB1,nB2,aB2,mB2,cB2,nB3,aB3,mB3,cB3,nB4,aB4,mB4,cB4,rfl,hBX,hBY⟩:=hvB
 have hBX:=hBX.mono (zZ (D:=[]))
 have hBY:=hBY.mono (zZ (D:=[]))
 refine zX 5 (hI 42 U U) Tryz.func42 J fb42 J ?_
 refine zE (zY H J O (fun b5 s1 H=>?_))
 refine zS H zf40 O (fun b10 s2 H=>?_)
 refine zD (yT [⟨0,0,.light,[5,9,12,16]⟩,⟨1,0,.light,[5,9,12,16]⟩,⟨2,0,.light,[5,9,12,16]⟩,⟨3,0,.light,[5,9,12,16]⟩,⟨4,0,.light,[12,16]⟩,⟨5,16,.light,[12,16]⟩,⟨6,0,.light,[5,12,16]⟩,⟨7,112,.light,[12,16]⟩,⟨8,240,.light,[12,16]⟩,⟨9,496,.light,[12,16]⟩,⟨11,0,.light,[5,9]⟩,⟨12,2048,.light,[5,9]⟩,⟨13,0,.light,[5,9,12]⟩,⟨14,14336,.light,[5,9]⟩,⟨15,30720,.light,[5,9]⟩,⟨16,63488,.light,[5,9]⟩,⟨10,1008,.fresh,[12,16]⟩,⟨17,131056,.fresh,[]⟩,⟨18,262143,.light,[]⟩,⟨19,0,.fresh,[5,9,12,16]⟩,⟨20,1048575,.whole,[]⟩] Z0 Z0 (zA J J (zC J ⟨J,(zA J J (zC J ⟨J,(zA J J (zC J ⟨J,(zA J J (zC J ⟨J,(zA J J (zB of27_2 J ⟨J,(zV J J sh25 J H.own1 Y1 J (zA J J (zC J ⟨J,(zA J J (zP el25 J J O O ⟨J,(zA J J (zB of54_0 J ⟨J,(zQ J J kU J W8 O hcA ?_)⟩))⟩))⟩)))⟩))⟩))⟩))⟩))⟩)))
 refine zA J J (zB of27_2 J ⟨J,(zV J J sh25 J H.own1 Y1 J (zA J J (zC J ⟨J,(zA J J (zP el25 J J O O ⟨J,(zA J J (zB of54_0 J ⟨J,(zQ J J kU J W8 O hcB (yK J J (zF J fc100 J (kn (back05_ok hI Y9 X2 hAX hAY U Z) (fun s9 D9 n1 a1 m1 c1 n1d a1d m1d c1d n1y a1y m1y c1y n1yd a1yd m1yd c1yd Hc h101a h101b=>?_)))))⟩))⟩))⟩)))⟩)
 have Hc:=HL.wider H.fine H.fine.wfb Z7 Hc
 obtain⟨Φ,ku,kd,H⟩:=k8 (K:=K) H Hc
 try replace hBX:=hBX.mono ku
 try replace hBY:=hBY.mono ku
 replace h101a:=h101a.mono kd
 replace h101b:=h101b.mono kd
 clear Hc ku kd
 refine yK J J (zF J fc73 J (kn (after05_ok hI Y9 X2 h101a h101b hBX hBY U U U U U U Z) (fun s9 D9 n2 a2 m2 c2 n2d a2d m2d c2d n2y a2y m2y c2y n2yd a2yd m2yd c2yd Hc h102a h102b=>?_)))
 have Hc:=HL.wider H.fine H.fine.wfb Z7 Hc
 obtain⟨Φ,ku,kd,H⟩:=k8 (K:=K) H Hc
 replace h102a:=h102a.mono kd
 replace h102b:=h102b.mono kd
 clear Hc ku kd
 refine zA J J (xE (c:=[.int _ _,.int _ _,.int _ _,.int _ _,.int _ _,.bool _,.slice _ _ _,.bool _,.slice _ _ _,.bool _,.slice _ _ _,.bool _,.slice _ _ _,.bool _,.slice _ _ _,.bool _,.slice _ _ _,.bool _,.slice _ _ _,.bool _,.slice _ _ _,.bool _,.slice _ _ _,.bool _,.slice _ _ _,.bool _,.slice _ _ _,.bool _,.slice _ _ _]) bf40 J ⟨J,(yK J J (zS (Fine.fresh H.fine).hl zf40 (H.rm (k:=1) O) (fun b11 s3 Hc=>?_)))⟩)
 have H:=H.call X6
 clear Hc
 refine xM (vs:=[.int _ _,.int _ _,.int _ _,.int _ _,.int _ _,.bool _,.slice _ _ _,.bool _,.slice _ _ _,.bool _,.slice _ _ _,.bool _,.slice _ _ _,.bool _,.slice _ _ _,.bool _,.slice _ _ _,.bool _,.slice _ _ _,.bool _,.slice _ _ _,.bool _,.slice _ _ _,.bool _,.slice _ _ _,.bool _,.slice _ _ _,.bool _,.slice _ _ _]) (fr:=[]) H J J sz40 J J J J J J Z2 O (fun s4 H=>?_)
 refine zU ?_
 have htn:Tn 1 (aft (bck qA) qB):=(htA.bck.aft htB).le U
 replace h102a:=h102a.bd htn.bd.1
 replace h102b:=h102b.bd htn.bd.2
 refine yT [⟨0,0,.light,[6,9,10]⟩,⟨1,1,.light,[6,9,10]⟩,⟨2,0,.light,[1,6,9,10]⟩,⟨3,7,.light,[6,9,10]⟩,⟨4,15,.light,[6,9,10]⟩,⟨5,0,.light,[1,4,10]⟩,⟨6,32,.light,[1,4,10]⟩,⟨7,0,.light,[1,4,6,10]⟩,⟨8,224,.light,[1,4,10]⟩,⟨9,480,.light,[1,4,10]⟩,⟨10,0,.light,[1,4,6,9]⟩,⟨11,2047,.fresh,[]⟩,⟨12,4095,.light,[]⟩,⟨13,8191,.light,[]⟩,⟨14,8191,.light,[]⟩,⟨15,8191,.light,[]⟩,⟨16,0,.fresh,[1,4,6,9,10]⟩,⟨17,0,.fresh,[1,4,6,9,10]⟩,⟨18,212991,.whole,[]⟩,⟨19,491519,.whole,[]⟩,⟨20,1048575,.light,[]⟩] Z0 Z0 (zA J J (zB of27_0 J ⟨J,(zV J J sh23 J H.own2 Y2 J (zA J J (zC J ⟨J,(zA J J (zP el23 J J O O ⟨J,(zQ J J sh72 J (H.old hb2 hg2) O (hcP x O) (zA J J (zB of27_0 J ⟨J,(zV J J sh23 J H.own2 Y2 J (zA J J (zC J ⟨J,(zA J J (zP el23 J J O O ⟨J,(zQ J J sh72 J (H.old hb2 hg2) O (hcP y O) (zQ J J sh40 J H.own0 Y0 J ?_))⟩))⟩)))⟩)))⟩))⟩)))⟩))
 refine yK J J (zF J fc101 J (callAg (K:=KX K Φ) (agreeC hI (Fine.fresh H.fine) ((kn3 hK H).heap J (Nat.le_refl _)) (((hpc x (by omega)).up H zZ).heap J (Nat.le_refl _)) (((hpc y (by omega)).up H zZ).heap J (Nat.le_refl _)) he0 he3 hb0 hb3 h102a h102b htn.one (H.rm (by omega))) (fun s9 D9 lo hi bb q1 r1 q2 r2 Hc hlo hhi=>?_)))
 have Hc:=HL.wider H.fine H.fine.wfb Z7 Hc
 obtain⟨Φ,ku,kd,H⟩:=qk (K:=K) H Hc
 replace h102a:=h102a.mono ku
 replace h102b:=h102b.mono ku
 replace hlo:=hlo.mono kd
 replace hhi:=hhi.mono kd
 clear Hc ku kd
 obtain⟨nlo1,alo1,mlo1,clo1,nlo2,alo2,mlo2,clo2,nlo3,alo3,mlo3,clo3,nlo4,alo4,mlo4,clo4,rfl,hloX,hloY⟩:=hlo
 obtain⟨nhi1,ahi1,mhi1,chi1,nhi2,ahi2,mhi2,chi2,nhi3,ahi3,mhi3,chi3,nhi4,ahi4,mhi4,chi4,rfl,hhiX,hhiY⟩:=hhi
 refine zA J J (qo J ⟨J,(zA J J (yI J J ⟨J,(zA J J (yI J J ⟨J,(zA J J (yI J J ⟨J,(yK J J (zS (Fine.fresh H.fine).hl zf38 (H.rm (k:=1) O) (fun b12 s5 Hc=>?_)))⟩))⟩))⟩))⟩)
 have H:=H.call X6
 clear Hc
 refine yK J J (zS (Fine.fresh H.fine).hl zf38 (H.rm (k:=1) O) (fun b13 s6 Hc=>?_))
 have H:=H.call X6
 clear Hc
 refine kT (vs:=[.bool _,.slice _ _ _,.bool _,.slice _ _ _,.bool _,.slice _ _ _,.bool _,.slice _ _ _]) (fr:=[]) H J J sz38 J J J J J J Z2 O (fun s7 H=>?_)
 refine xM (vs:=[.bool _,.slice _ _ _,.bool _,.slice _ _ _,.bool _,.slice _ _ _,.bool _,.slice _ _ _]) (fr:=[]) H J J sz38 J J J J J J Z2 O (fun s8 H=>?_)
 refine zA J J (zK J ⟨J,(zU (zE (zN qN J H.own1 J (zB of40_6 J (vQ (vs:=[.bool _,.slice _ _ _,.bool _,.slice _ _ _,.bool _,.slice _ _ _,.bool _,.slice _ _ _]) H sz38 J J J J J O (fun s9 H=>?_))))))⟩)
 refine zD (zE (zN qN J H.own0 J (zB of40_7 J (vQ (vs:=[.bool _,.slice _ _ _,.bool _,.slice _ _ _,.bool _,.slice _ _ _,.bool _,.slice _ _ _]) H sz38 J J J J J O (fun s10 H=>?_)))))
 refine zD (zE (zN sh40 J H.own2 J (vP (vs:=[.int _ _,.int _ _,.int _ _,.int _ _,.int _ _,.bool _,.slice _ _ _,.bool _,.slice _ _ _,.bool _,.slice _ _ _,.bool _,.slice _ _ _,.bool _,.slice _ _ _,.bool _,.slice _ _ _,.bool _,.slice _ _ _,.bool _,.slice _ _ _,.bool _,.slice _ _ _,.bool _,.slice _ _ _,.bool _,.slice _ _ _,.bool _,.slice _ _ _]) H sz40 J J J J J O (fun s11 H=>?_))))
 refine zD (yO (yB (yP sh40 J H.own3 J (⟨Φ,⟨(x:Int),(y:Int),ea,eb,1,[.bool n2,.slice a2 m2 c2,.bool n2d,.slice a2d m2d c2d,.bool n2y,.slice a2y m2y c2y,.bool n2yd,.slice a2yd m2yd c2yd],[.bool nlo1,.slice alo1 mlo1 clo1,.bool nlo2,.slice alo2 mlo2 clo2,.bool nlo3,.slice alo3 mlo3 clo3,.bool nlo4,.slice alo4 mlo4 clo4],[.bool nhi1,.slice ahi1 mhi1 chi1,.bool nhi2,.slice ahi2 mhi2 chi2,.bool nhi3,.slice ahi3 mhi3 chi3,.bool nhi4,.slice ahi4 mhi4 chi4]⟩,aft (bck qA) qB,J,(frz5 H).up O,⟨by unfold qp;simp only;omega,by unfold qp;simp only;omega,(VecK.of h102a h102b).le U U,⟨_,_,(VecK.of hloX hloY).le U U⟩,⟨_,_,(VecK.of hhiX hhiY).le U U⟩,htn.le U⟩,J,J⟩))))
end Go.Proofs.YtocnbjjmmgolfaaGreat
namespace Go.Proofs.YtocnbjjmmgolfaaGreat
open Go Go.M Go.Proofs.C14
variable{v:Value}{b8 m:Nat}{x y:Int}{L Φ':Hp'}{l:List Value}{T:Nat→Q2}{e:TypeId}
section
variable{W:List Nat}{s0 s s':St}{A B Φ D:Hp'}{K:Kw}{n k:Nat}
theorem mergeTV0(H:HL W s0 s ((A++Φ)) n)(Hc:HL [] s s' D k):∃Φ',KLe (KX K Φ) (KX K Φ')∧KLe (KX (KX K Φ) D) (KX K Φ')∧Φ⊆Φ'∧D⊆Φ'∧HL W s0 s' ((A++Φ')) (n+k):=by
 obtain⟨Φ',h1,h2,h3,h4,h5⟩:=mergeT (K:=K) ([]++A) V2 Hc
 exact⟨Φ',h1,h2,h3,h4,by simpa only[List.append_assoc,List.cons_append,List.nil_append]using h5⟩
theorem mergeSV0(H:HL W s0 s ((A++Φ)) n)(Hc:HL [] s s' D k):∃Φ',KLe (KX K Φ) (KX K Φ')∧KLe (KX (KX K Φ) D) (KX K Φ')∧Φ⊆Φ'∧HL W s0 s' ((A++Φ')) (n+k):=by
 obtain⟨Φ',h1,h2,h3,_,h5⟩:=mergeTV0 (K:=K) H Hc
 exact⟨Φ',h1,h2,h3,h5⟩
theorem knV0(hK:Kn s0 K)(H:HL [] s0 s ((A++Φ)) n):Kn s (KX K Φ):=hK.x H Z8
theorem mergeTU3{p0 p1 p2:Nat×MObj}(H:HL W s0 s (p0::p1::p2::(A++(B++Φ))) n)(Hc:HL [] s s' D k):∃Φ',KLe (KX K Φ) (KX K Φ')∧KLe (KX (KX K Φ) D) (KX K Φ')∧Φ⊆Φ'∧D⊆Φ'∧HL W s0 s' (p0::p1::p2::(A++(B++Φ'))) (n+k):=by
 obtain⟨Φ',h1,h2,h3,h4,h5⟩:=mergeT (K:=K) ([p0,p1,p2]++(A++B)) V2 Hc
 exact⟨Φ',h1,h2,h3,h4,by simpa only[List.append_assoc,List.cons_append,List.nil_append]using h5⟩
theorem mergeSU3{p0 p1 p2:Nat×MObj}(H:HL W s0 s (p0::p1::p2::(A++(B++Φ))) n)(Hc:HL [] s s' D k):∃Φ',KLe (KX K Φ) (KX K Φ')∧KLe (KX (KX K Φ) D) (KX K Φ')∧Φ⊆Φ'∧HL W s0 s' (p0::p1::p2::(A++(B++Φ'))) (n+k):=by
 obtain⟨Φ',h1,h2,h3,_,h5⟩:=mergeTU3 (K:=K) H Hc
 exact⟨Φ',h1,h2,h3,h5⟩
theorem knU3{p0 p1 p2:Nat×MObj}(hK:Kn s0 K)(H:HL [] s0 s (p0::p1::p2::(A++(B++Φ))) n):Kn s (KX K Φ):=hK.x H Z8
theorem mergeTU4{p0 p1 p2 p3:Nat×MObj}(H:HL W s0 s (p0::p1::p2::p3::(A++(B++Φ))) n)(Hc:HL [] s s' D k):∃Φ',KLe (KX K Φ) (KX K Φ')∧KLe (KX (KX K Φ) D) (KX K Φ')∧Φ⊆Φ'∧D⊆Φ'∧HL W s0 s' (p0::p1::p2::p3::(A++(B++Φ'))) (n+k):=by
 obtain⟨Φ',h1,h2,h3,h4,h5⟩:=mergeT (K:=K) ([p0,p1,p2,p3]++(A++B)) V2 Hc
 exact⟨Φ',h1,h2,h3,h4,by simpa only[List.append_assoc,List.cons_append,List.nil_append]using h5⟩
theorem mergeSU4{p0 p1 p2 p3:Nat×MObj}(H:HL W s0 s (p0::p1::p2::p3::(A++(B++Φ))) n)(Hc:HL [] s s' D k):∃Φ',KLe (KX K Φ) (KX K Φ')∧KLe (KX (KX K Φ) D) (KX K Φ')∧Φ⊆Φ'∧HL W s0 s' (p0::p1::p2::p3::(A++(B++Φ'))) (n+k):=by
 obtain⟨Φ',h1,h2,h3,_,h5⟩:=mergeTU4 (K:=K) H Hc
 exact⟨Φ',h1,h2,h3,h5⟩
theorem knU4{p0 p1 p2 p3:Nat×MObj}(hK:Kn s0 K)(H:HL [] s0 s (p0::p1::p2::p3::(A++(B++Φ))) n):Kn s (KX K Φ):=hK.x H Z8
theorem mergeTV4{p0 p1 p2 p3:Nat×MObj}(H:HL W s0 s (p0::p1::p2::p3::(A++Φ)) n)(Hc:HL [] s s' D k):∃Φ',KLe (KX K Φ) (KX K Φ')∧KLe (KX (KX K Φ) D) (KX K Φ')∧Φ⊆Φ'∧D⊆Φ'∧HL W s0 s' (p0::p1::p2::p3::(A++Φ')) (n+k):=by
 obtain⟨Φ',h1,h2,h3,h4,h5⟩:=mergeT (K:=K) ([p0,p1,p2,p3]++A) V2 Hc
 exact⟨Φ',h1,h2,h3,h4,by simpa only[List.append_assoc,List.cons_append,List.nil_append]using h5⟩
theorem mergeSV4{p0 p1 p2 p3:Nat×MObj}(H:HL W s0 s (p0::p1::p2::p3::(A++Φ)) n)(Hc:HL [] s s' D k):∃Φ',KLe (KX K Φ) (KX K Φ')∧KLe (KX (KX K Φ) D) (KX K Φ')∧Φ⊆Φ'∧HL W s0 s' (p0::p1::p2::p3::(A++Φ')) (n+k):=by
 obtain⟨Φ',h1,h2,h3,_,h5⟩:=mergeTV4 (K:=K) H Hc
 exact⟨Φ',h1,h2,h3,h5⟩
theorem knV4{p0 p1 p2 p3:Nat×MObj}(hK:Kn s0 K)(H:HL [] s0 s (p0::p1::p2::p3::(A++Φ)) n):Kn s (KX K Φ):=hK.x H Z8
theorem mergeTV5{p0 p1 p2 p3 p4:Nat×MObj}(H:HL W s0 s (p0::p1::p2::p3::p4::(A++Φ)) n)(Hc:HL [] s s' D k):∃Φ',KLe (KX K Φ) (KX K Φ')∧KLe (KX (KX K Φ) D) (KX K Φ')∧Φ⊆Φ'∧D⊆Φ'∧HL W s0 s' (p0::p1::p2::p3::p4::(A++Φ')) (n+k):=by
 obtain⟨Φ',h1,h2,h3,h4,h5⟩:=mergeT (K:=K) ([p0,p1,p2,p3,p4]++A) V2 Hc
 exact⟨Φ',h1,h2,h3,h4,by simpa only[List.append_assoc,List.cons_append,List.nil_append]using h5⟩
theorem mergeSV5{p0 p1 p2 p3 p4:Nat×MObj}(H:HL W s0 s (p0::p1::p2::p3::p4::(A++Φ)) n)(Hc:HL [] s s' D k):∃Φ',KLe (KX K Φ) (KX K Φ')∧KLe (KX (KX K Φ) D) (KX K Φ')∧Φ⊆Φ'∧HL W s0 s' (p0::p1::p2::p3::p4::(A++Φ')) (n+k):=by
 obtain⟨Φ',h1,h2,h3,_,h5⟩:=mergeTV5 (K:=K) H Hc
 exact⟨Φ',h1,h2,h3,h5⟩
theorem mergeTV6{p0 p1 p2 p3 p4 p5:Nat×MObj}(H:HL W s0 s (p0::p1::p2::p3::p4::p5::(A++Φ)) n)(Hc:HL [] s s' D k):∃Φ',KLe (KX K Φ) (KX K Φ')∧KLe (KX (KX K Φ) D) (KX K Φ')∧Φ⊆Φ'∧D⊆Φ'∧HL W s0 s' (p0::p1::p2::p3::p4::p5::(A++Φ')) (n+k):=by
 obtain⟨Φ',h1,h2,h3,h4,h5⟩:=mergeT (K:=K) ([p0,p1,p2,p3,p4,p5]++A) V2 Hc
 exact⟨Φ',h1,h2,h3,h4,by simpa only[List.append_assoc,List.cons_append,List.nil_append]using h5⟩
theorem mergeSV6{p0 p1 p2 p3 p4 p5:Nat×MObj}(H:HL W s0 s (p0::p1::p2::p3::p4::p5::(A++Φ)) n)(Hc:HL [] s s' D k):∃Φ',KLe (KX K Φ) (KX K Φ')∧KLe (KX (KX K Φ) D) (KX K Φ')∧Φ⊆Φ'∧HL W s0 s' (p0::p1::p2::p3::p4::p5::(A++Φ')) (n+k):=by
 obtain⟨Φ',h1,h2,h3,_,h5⟩:=mergeTV6 (K:=K) H Hc
 exact⟨Φ',h1,h2,h3,h5⟩
end
def Crn(D:Hp')(v:Value):Prop:=∃(b:Nat→Nat) (P:Nat→List (Int×Int)) (bl:Nat),v=.slice (some ⟨bl,0,none⟩) 4 8∧(bl,MObj.cells [.slice (some ⟨b 0,0,none⟩) 4 8,.slice (some ⟨b 1,0,none⟩) 4 8,.slice (some ⟨b 2,0,none⟩) 4 8,.slice (some ⟨b 3,0,none⟩) 4 8] 69)∈D∧∀i,i<4→(b i,MObj.cells ((P i).map pt).flatten 77)∈D∧Sml 8 (P i)∧(P i).length=4
theorem Crn.mono{D D':Hp'}(h:Crn D v)(hs:D⊆D'):Crn D' v:=by
 obtain⟨b,P,bl,h1,h2,h3⟩:=h
 exact⟨b,P,bl,h1,hs h2,fun i hi=>⟨hs (h3 i hi).1,(h3 i hi).2⟩⟩
theorem Crn.at{D:Hp'}(h:Crn D v){i:Nat}(hi:i<4):∃bl c b P,v=.slice (some ⟨bl,0,none⟩) 4 8∧(bl,MObj.cells c 69)∈D∧qG c (0+(i:Int).toNat*1)=some (.slice (some ⟨b,0,none⟩) 4 8)∧(b,MObj.cells (P.map pt).flatten 77)∈D∧Sml 8 P∧P.length=4:=by
 obtain⟨b,P,bl,h1,h2,h3⟩:=h
 refine⟨bl,_,b i,P i,h1,h2,?_,h3 i hi⟩
 match i,hi with
 |0,_=>rfl
 |1,_=>rfl
 |2,_=>rfl
 |3,_=>rfl
theorem Sml.le{n:Nat}{P:List (Int×Int)}(h:Sml n P)(hn:n≤m):Sml m P:=fun k hk=>⟨Nat.le_trans (h k hk).1 hn,Nat.le_trans (h k hk).2 hn⟩
theorem Sml.snoc{n:Nat}{P:List (Int×Int)}(h:Sml n P)(hx:x.natAbs≤n)(hy:y.natAbs≤n):Sml n (P++[(x,y)]):=fun k hk=>by
 rw[List.getD_eq_getElem?_getD]
 by_cases hl:k<P.length
 ·rw[List.getElem?_append_left hl,←List.getD_eq_getElem?_getD];exact h k hl
 ·have:k=P.length:=by rw[List.length_append,List.length_singleton]at hk;omega
  subst this
  rw[List.getElem?_append_right Z3,Nat.sub_self]
  exact⟨hx,hy⟩
theorem pts_snoc(P:List (Int×Int))(x y:Int):((P++[(x,y)]).map pt).flatten=(P.map pt).flatten++[.int .i64 x,.int .i64 y]:=by simp[pt]
theorem pts_at{P:List (Int×Int)}{j:Nat}(h:j<P.length):∃px py,P.getD j (0,0)=(px,py)∧qX 2 (kw (0+(j:Int).toNat*2) (P.map pt).flatten)=some [.int .i64 px,.int .i64 py]:=by
 refine⟨(P.getD j (0,0)).1,(P.getD j (0,0)).2,J,?_⟩
 rw[Int.toNat_natCast,flat_get (pts_all P) (by rw[List.length_map];exact h),jg (y:=(0,0)) h]
 rfl
theorem slGM{b cap:Nat}{P:List (Int×Int)}{Φ:Hp'}(hm:(b,MObj.cells (P.map pt).flatten 77)∈Φ)(hc:P.length≤cap / 2):SlG Φ 77 2 (.slice (some ⟨b,0,none⟩) P.length cap) (P.map pt):=
 .block b 0 cap _ (by rw[List.length_map]) hm (by rw[List.length_map];exact hc) fun k hk=>flat_get (pts_all P) hk
def PcG(K:Kw)(Φ:Hp')(l:List Value):Prop:=∃x0 x1 a c x3 x4 n1 a1 m1 c1 n2 a2 m2 c2 rest P q,l=x0::x1::.slice a 4 c::x3::x4::.bool n1::.slice a1 m1 c1::.bool n2::.slice a2 m2 c2::rest∧rest.length=16∧SlG Φ 77 2 (.slice a 4 c) (P.map pt)∧Sml 16 P∧P.length=4∧RatK (KX K Φ) n1 a1 m1 c1 n2 a2 m2 c2 q 2 4
theorem PcG.mono{K:Kw}{Φ:Hp'}(h:PcG K Φ l)(hs:Φ⊆Φ'):PcG K Φ' l:=by
 obtain⟨x0,x1,a,c,x3,x4,n1,a1,m1,c1,n2,a2,m2,c2,rest,P,q,h1,h2,h3,h4,h5,h6⟩:=h
 exact⟨x0,x1,a,c,x3,x4,n1,a1,m1,c1,n2,a2,m2,c2,rest,P,q,h1,h2,h3.mono hs,h4,h5,h6.mono (wW hs)⟩
theorem PcG.pcs{K:Kw}{Φ:Hp'}{W:List Nat}{s0 s:St}{n:Nat}(h:PcG K Φ l)(H:HL W s0 s L n)(hs:Φ⊆L):PcS (KX K Φ) s l:=by
 obtain⟨x0,x1,a,c,x3,x4,n1,a1,m1,c1,n2,a2,m2,c2,rest,P,q,h1,h2,h3,h4,h5,h6⟩:=h
 exact⟨x0,x1,a,c,x3,x4,n1,a1,m1,c1,n2,a2,m2,c2,rest,P,q,h1,h2,h3.sl H hs,h4,h5,h6⟩
theorem PcG.len{K:Kw}{Φ:Hp'}(h:PcG K Φ l):l.length=25:=by
 obtain⟨x0,x1,a,c,x3,x4,n1,a1,m1,c1,n2,a2,m2,c2,rest,P,q,h1,h2,h3,h4,h5,h6⟩:=h
 rw[h1];simp[h2]
structure PcsG(K:Kw)(Φ:Hp')(l:List (List Value)):Prop where
 pc:∀k,k<l.length→PcG K Φ (l.getD k [])
theorem PcsG.mono{K:Kw}{Φ:Hp'}{l:List (List Value)}(h:PcsG K Φ l)(hs:Φ⊆Φ'):PcsG K Φ' l:=⟨fun k hk=>(h.pc k hk).mono hs⟩
theorem PcsG.pcs{K:Kw}{Φ:Hp'}{l:List (List Value)}{W:List Nat}{s0 s s':St}{n:Nat}(h:PcsG K Φ l)(H:HL W s0 s L n)(hs:Φ⊆L)(hh:s'.heap=s.heap)(hn:s.next≤s'.next):∀k,k<l.length→PcS (KX K Φ) s' (l.getD k []):=fun k hk=>((h.pc k hk).pcs H hs).heap hh hn
structure PlsG(K:Kw)(Φ:Hp')(l:List (List Value)):Prop where
 pl:∀k,k<l.length→PlS (KX K Φ) (l.getD k [])
theorem PlS.mono{K K':Kw}(h:PlS K l)(hs:KLe K K'):PlS K' l:=by
 obtain⟨t,t2,q,h1,h2,h3,h4⟩:=h
 exact⟨t,t2,q,h1,h2.mono hs,h3,h4⟩
theorem PlS.len{K:Kw}(h:PlS K l):l.length=16:=by
 obtain⟨t,t2,q,h1,h2,h3,h4⟩:=h
 rw[h1,List.length_append,h2.len,h4]
theorem PlsG.mono{K:Kw}{Φ:Hp'}{l:List (List Value)}(h:PlsG K Φ l)(hs:Φ⊆Φ'):PlsG K Φ' l:=⟨fun k hk=>(h.pl k hk).mono (wW hs)⟩
theorem all_snoc{α:Type}{p:α→Prop}{l:List α}{x d:α}(h:∀k,k<l.length→p (l.getD k d))(hx:p x):∀k,k<(l++[x]).length→p ((l++[x]).getD k d):=fun k hk=>by
 rw[List.getD_eq_getElem?_getD]
 by_cases hl:k<l.length
 ·rw[List.getElem?_append_left hl,←List.getD_eq_getElem?_getD];exact h k hl
 ·have:k=l.length:=by rw[List.length_append,List.length_singleton]at hk;omega
  subst this
  rw[List.getElem?_append_right Z3,Nat.sub_self]
  exact hx
theorem all_len{l:List (List Value)}(h:∀k,k<l.length→(l.getD k []).length=m):∀x∈l,x.length=m:=fun x hx=>by
 obtain⟨k,hk,rfl⟩:=List.mem_iff_getElem.mp hx
 have:=h k hk
 rwa[List.getD_eq_getElem?_getD,List.getElem?_eq_getElem hk]at this
structure FtsG(K:Kw)(Φ:Hp')(l:List Ft)(T:Nat→Q2)(n:Int):Prop where
 fts:FtsK (KX K Φ) l T
 ord:∀k,k<l.length→0≤(ends l k).1∧(ends l k).1<(ends l k).2∧(ends l k).2<n
theorem FtsG.mono{K:Kw}{Φ:Hp'}{l:List Ft}{n:Int}(h:FtsG K Φ l T n)(hs:Φ⊆Φ'):FtsG K Φ' l T n:=⟨h.fts.mono (wW hs),h.ord⟩
theorem FtsG.snoc{K:Kw}{Φ:Hp'}{l:List Ft}{n:Int}{f:Ft}{q:Q2}(h:FtsG K Φ l T n)(hf:FtK (KX K Φ) f q)(h0:0≤f.a)(h1:f.a<f.b)(h2:f.b<n):∃T',FtsG K Φ (l++[f]) T' n:=by
 refine⟨fun k=>if k<l.length then T k else q,⟨fun k hk=>?_⟩,fun k hk=>?_⟩
 ·rw[List.getD_eq_getElem?_getD]
  by_cases hl:k<l.length
  ·rw[List.getElem?_append_left hl,←List.getD_eq_getElem?_getD];simp only[if_pos hl];exact h.fts.fit k hl
  ·have:k=l.length:=by rw[List.length_append,List.length_singleton]at hk;omega
   subst this
   rw[List.getElem?_append_right Z3,Nat.sub_self]
   simp only[if_neg (Nat.lt_irrefl _)]
   exact hf
 ·unfold ends
  exact all_snoc (p:=fun g:Ft=>0≤g.a∧g.a<g.b∧g.b<n) (d:=default) h.ord ⟨h0,h1,h2⟩ k hk
theorem FtsG.nil{K:Kw}{Φ:Hp'}{n:Int}:FtsG K Φ [] T n:=⟨⟨fun k hk=>by simp at hk⟩,fun k hk=>by simp at hk⟩
theorem FtsG.all{K:Kw}{Φ:Hp'}{l:List Ft}{n:Int}(h:FtsG K Φ l T n):∀x∈l.map Ft.cells,x.length=29:=fun x hx=>by
 obtain⟨f,hf,rfl⟩:=List.mem_map.mp hx
 obtain⟨k,hk,rfl⟩:=List.mem_iff_getElem.mp hf
 have:=(h.fts.fit k hk).len
 rwa[List.getD_eq_getElem?_getD,List.getElem?_eq_getElem hk]at this
def PostBox(K:Kw)(s:St)(v:Value)(s':St):Prop:=∃(D:Hp') (fits:List Ft) (T:Nat→Q2) (n:Nat) (ap:Option Addr) (cp:Nat) (vf:Value) (aa:Option Addr) (na ca:Nat),v=.agg ⟨[.slice ap n cp,vf,.slice aa na ca]⟩∧HL [] s s' D 820000000∧SlG D 40 29 vf (fits.map Ft.cells)∧FtsG K D fits T n∧2≤n∧n≤4∧1≤fits.length∧fits.length≤4
section
variable{W:List Nat}{s0 s:St}{A B C Φ:Hp'}{K:Kw}{n:Nat}{p0 p1 p2 p3 p4 p5:Nat×MObj}
theorem freeze3(H:HL W s0 s (p0::p1::p2::(C++(A++(B++Φ)))) n):∃Φ',Φ⊆Φ'∧C⊆Φ'∧HL W s0 s (p0::p1::p2::(A++(B++Φ'))) n:=
 ⟨C++Φ,List.subset_append_right _ _,List.subset_append_left _ _,H.perm ((((List.perm_append_comm_assoc C A (B++Φ)).trans ((List.perm_append_comm_assoc C B Φ).append_left A)).cons p2).cons p1 |>.cons p0)⟩
theorem freeze2(H:HL W s0 s (p0::p1::(A++(B++Φ))) n):∃Φ',Φ⊆Φ'∧A⊆Φ'∧B⊆Φ'∧HL W s0 s (p0::p1::Φ') n:=
 ⟨A++(B++Φ),fun _ h=>List.mem_append_right _ (List.mem_append_right _ h),List.subset_append_left _ _,fun _ h=>List.mem_append_right _ (List.mem_append_left _ h),H⟩
theorem piece_done{x y:Value}{pcs:List (List Value)}(H:HL W s0 s (p0::p1::p2::(b8,.cells [v,x,y] e)::p4::(B++Φ)) n)(ho:Own 72 25 [p0] v (pcs.flatten++l) (pcs.length+1))(hpc:PcsG K Φ pcs)(hl:PcG K Φ l) :
  ∃C v' pcs',pcs'.length=pcs.length+1∧Own 72 25 C v' pcs'.flatten pcs'.length∧PcsG K Φ pcs'∧HL W s0 s (p2::(b8,.cells [v',x,y] e)::p4::(C++(B++Φ))) n:=
 ⟨[p0],v,pcs++[l],by simp,by rw[wN,List.length_append];exact ho,⟨all_snoc hpc.pc hl⟩,((HL.mid (A:=[_]) (B:=[_,_,_,_]) H).drop0)⟩
theorem place_done{x y:Value}{pls:List (List Value)}(H:HL W s0 s (p0::p1::p2::(b8,.cells [x,y,v] e)::p4::(A++Φ)) n)(ho:Own 54 16 [p0] v (pls.flatten++l) (pls.length+1))(hpl:PlsG K Φ pls)(hl:PlS (KX K Φ) l) :
  ∃C v' pls',pls'.length=pls.length+1∧Own 54 16 C v' pls'.flatten pls'.length∧PlsG K Φ pls'∧HL W s0 s ((b8,.cells [x,y,v'] e)::p4::(A++(C++Φ))) n:=
 ⟨[p0],v,pls++[l],by simp,by rw[wN,List.length_append];exact ho,⟨all_snoc hpl.pl hl⟩,((HL.mid (A:=[p0]) (B:=[(b8,.cells [x,y,v] e),p4]) (C:=A++Φ) H.drop1.drop1).perm (List.Perm.cons _ (List.Perm.cons _ (List.perm_append_comm_assoc [p0] A Φ))))⟩
theorem fits_done{x y:Value}{fits:List Ft}{f:Ft}(H:HL W s0 s (p0::p1::p2::(b8,.cells [x,v,y] e)::p4::Φ) n)(hfl:f.cells=l)(ho:Own 40 29 [p0] v ((fits.map Ft.cells).flatten++l) (fits.length+1)) :
  ∃C v',Own 40 29 C v' ((fits++[f]).map Ft.cells).flatten (fits++[f]).length∧HL W s0 s (p2::(b8,.cells [x,v',y] e)::p4::(C++Φ)) n:=
 ⟨[p0],v,by subst hfl;rw[List.map_append,List.map_singleton,wN,List.length_append];exact ho,((HL.mid (A:=[_]) (B:=[_,_,_,_]) H).drop0)⟩
end
theorem _root_.Go.M.Own.isSlice{sz:Nat}{D:Hp'}{c:List Value}{len:Nat}(h:Own e sz D v c len):∃a cap,v=.slice a len cap:=by
 cases h
 ·exact⟨_,_,J⟩
 ·exact⟨_,_,J⟩
theorem list29{l:List Value}(h:l.length=29):∃y0 y1 y2 y3 y4 y5 y6 y7 y8 y9 y10 y11 y12 y13 y14 y15 y16 y17 y18 y19 y20 y21 y22 y23 y24 y25 y26 y27 y28,l=[y0,y1,y2,y3,y4,y5,y6,y7,y8,y9,y10,y11,y12,y13,y14,y15,y16,y17,y18,y19,y20,y21,y22,y23,y24,y25,y26,y27,y28]:=by
 match l,h with
 | [y0,y1,y2,y3,y4,y5,y6,y7,y8,y9,y10,y11,y12,y13,y14,y15,y16,y17,y18,y19,y20,y21,y22,y23,y24,y25,y26,y27,y28],_=>exact⟨y0,y1,y2,y3,y4,y5,y6,y7,y8,y9,y10,y11,y12,y13,y14,y15,y16,y17,y18,y19,y20,y21,y22,y23,y24,y25,y26,y27,y28,rfl⟩
section
variable{P:Program}{I:xP}{f:FuncId}{args:Array Value}{s:St}{Q:Value→St→Prop}{K:Kw}{k:Nat}
theorem callF(h:∃v s',xN P I f args s v s'∧∃D f q,v=.agg ⟨Ft.cells f⟩∧HL [] s s' D k∧FtK (KX K D) f q∧f.a=x∧f.b=y)
  (c:∀s' D f q y0 y1 y2 y3 y4 y5 y6 y7 y8 y9 y10 y11 y12 y13 y14 y15 y16 y17 y18 y19 y20 y21 y22 y23 y24 y25 y26 y27 y28,f.cells=[y0,y1,y2,y3,y4,y5,y6,y7,y8,y9,y10,y11,y12,y13,y14,y15,y16,y17,y18,y19,y20,y21,y22,y23,y24,y25,y26,y27,y28]→HL [] s s' D k→FtK (KX K D) f q→f.a=x→f.b=y→Q (.agg ⟨[y0,y1,y2,y3,y4,y5,y6,y7,y8,y9,y10,y11,y12,y13,y14,y15,y16,y17,y18,y19,y20,y21,y22,y23,y24,y25,y26,y27,y28]⟩) s'):∃v s',xN P I f args s v s'∧Q v s':=by
 obtain⟨v,s',hr,D,f,q,rfl,H,h1,h2,h3⟩:=h
 obtain⟨y0,y1,y2,y3,y4,y5,y6,y7,y8,y9,y10,y11,y12,y13,y14,y15,y16,y17,y18,y19,y20,y21,y22,y23,y24,y25,y26,y27,y28,hc⟩:=list29 h1.len
 rw[hc]at hr
 exact⟨_,_,hr,c s' D f q y0 y1 y2 y3 y4 y5 y6 y7 y8 y9 y10 y11 y12 y13 y14 y15 y16 y17 y18 y19 y20 y21 y22 y23 y24 y25 y26 y27 y28 hc H h1 h2 h3⟩
end
theorem atC{I:xP}(hI:xA I){s:St}{l:List Int}(hl:SlI s v l)(hin:∀x∈l,qp x){i n:Int}(hn:0<n){Q:Value→St→Prop}(c:∀z:Int,0≤z→z<n→Q (.int .i64 z) s):∃v' s',xN Tryz.prog I 21 #[v,.int .i64 i,.int .i64 n] s v' s'∧Q v' s':=by
 obtain⟨_,_,hr,rfl,rfl⟩:=at_ok hI (i:=i) (n:=n) hl hin O
 refine⟨_,_,hr,?_⟩
 have hz:0≤atZ l i n∧atZ l i n<n:=by
  unfold atZ
  split
  ·exact⟨by omega,hn⟩
  ·exact jh hn
 exact c _ hz.1 hz.2
theorem cornersC{I:xP}(hI:xA I){s:St}(hf:Fine s){w h bo ri to le:Int}(hw:0≤w∧w≤8)(hh:0≤h∧h≤8)(hx:0≤x∧x≤8)(hy:0≤y∧y≤8)(hbo:0≤bo∧bo≤8)(hri:0≤ri∧ri≤8)(hto:0≤to∧to≤8)(hle:0≤le∧le≤8)(hroom:10+s.next≤yC){Q:Value→St→Prop}(c:∀s' D v,HL [] s s' D 10→Crn D v→Q v s') :
  ∃v' s',xN Tryz.prog I 32 #[.int .i64 w,.int .i64 h,.agg ⟨[.int .i64 x,.int .i64 y]⟩,.int .i64 bo,.int .i64 ri,.int .i64 to,.int .i64 le] s v' s'∧Q v' s':=by
 obtain⟨_,s',hr,b0,b1,b2,b3,b4,rfl,H⟩:=corners14_ok hI hf (w:=w) (h:=h) (x:=x) (y:=y) (bo:=bo) (ri:=ri) (to:=to) (le:=le) O
 refine⟨_,_,hr,c _ _ _ H ⟨fun i=>match i with|0=>b0|1=>b1|2=>b2|_=>b3,fun i=>match i with|0=>[(0,0),(bo,0),(x,y),(0,le)]|1=>[(bo,0),(w,0),(w,ri),(x,y)]|2=>[(x,y),(w,ri),(w,h),(to,h)]|_=>[(0,le),(x,y),(to,h),(0,h)],b4,rfl,by simp,fun i hi=>?_⟩⟩
 have sm:∀{p q r t:Int×Int},p.1.natAbs≤8→p.2.natAbs≤8→q.1.natAbs≤8→q.2.natAbs≤8→r.1.natAbs≤8→r.2.natAbs≤8→t.1.natAbs≤8→t.2.natAbs≤8→Sml 8 [p,q,r,t]:=by
  intro p q r t h1 h2 h3 h4 h5 h6 h7 h8 k hk
  match k,hk with
  |0,_=>exact⟨h1,h2⟩
  |1,_=>exact⟨h3,h4⟩
  |2,_=>exact⟨h5,h6⟩
  |3,_=>exact⟨h7,h8⟩
 match i,hi with
 |0,_=>exact⟨by simp,by apply sm<;>simp only<;>omega,rfl⟩
 |1,_=>exact⟨by simp,by apply sm<;>simp only<;>omega,rfl⟩
 |2,_=>exact⟨by simp,by apply sm<;>simp only<;>omega,rfl⟩
 |3,_=>exact⟨by simp,by apply sm<;>simp only<;>omega,rfl⟩
theorem validC{I:xP}(hI:xA I){s:St}(hf:Fine s){K:Kw}(hK:Kn s K){Φ:Hp'}{s0:St}{n:Nat}(H:HL [] s0 s L n)(hs:Φ⊆L)(hc:Crn Φ v)(hroom:810000000+s.next≤yC):∃v' s',xN Tryz.prog I 33 #[v] s v' s'∧∃b,qQ s 810000000 (.bool b) v' s':=by
 obtain⟨b,P,bl,rfl,h2,h3⟩:=hc
 have hp:∀i,i<4→SlP s (.slice (some ⟨b i,0,none⟩) 4 8) (P i):=fun i hi=>by
  obtain⟨h4,h5,h6⟩:=h3 i hi
  have:=slP (P:=P i) (cap:=8) (H.own _ (hs h4)).1 (H.own _ (hs h4)).2.1 O
  rwa[h6]at this
 exact valid14_ok hI hf hK (hp 0 U) ((h3 0 U).2.1.le U) (h3 0 U).2.2 (hp 1 U) ((h3 1 U).2.1.le U) (h3 1 U).2.2 (hp 2 U) ((h3 2 U).2.1.le U) (h3 2 U).2.2 (hp 3 U) ((h3 3 U).2.1.le U) (h3 3 U).2.2 (H.own _ (hs h2)).1 (H.own _ (hs h2)).2.1 O
theorem pairs_at{i:Nat}(h:i<4):∃x y ea eb:Nat,qX 4 (kw (0+(i:Int).toNat*4) ([.int .i64 0,.int .i64 1,.int .i64 1,.int .i64 3,.int .i64 0,.int .i64 3,.int .i64 2,.int .i64 0,.int .i64 1,.int .i64 2,.int .i64 2,.int .i64 0,.int .i64 2,.int .i64 3,.int .i64 3,.int .i64 1]:List Value))=some [.int .i64 (x:Int),.int .i64 (y:Int),.int .i64 (ea:Int),.int .i64 (eb:Int)]∧x<y∧y≤3∧ea≤3∧eb≤3∧(i=0→y=1):=by
 match i,h with
 |0,_=>exact⟨0,1,1,3,rfl,by decide,by decide,by decide,by decide,by decide⟩
 |1,_=>exact⟨0,3,2,0,rfl,by decide,by decide,by decide,by decide,by decide⟩
 |2,_=>exact⟨1,2,2,0,rfl,by decide,by decide,by decide,by decide,by decide⟩
 |3,_=>exact⟨2,3,3,1,rfl,by decide,by decide,by decide,by decide,by decide⟩
end Go.Proofs.YtocnbjjmmgolfaaGreat
