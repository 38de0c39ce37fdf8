/- The reference of polygons: whether corners are one. -/
/- The reference: rims, corners. -/
/- The reference: the corners of a rim as fractions. -/
import Derived.Test.YtocnbjjmmgolfaaGreatA33
namespace Go.Proofs.YtocnbjjmmgolfaaGreat
open Go Go.M Go.Proofs.C14
theorem fb229:xK Tryz.f229 (Tryz.f229.body.getD .skip) 2=true:=by kernel_rfl
theorem fb163:xK Tryz.f163 (Tryz.f163.body.getD .skip) 1=true:=by kernel_rfl
theorem fb167:xK Tryz.f167 (Tryz.f167.body.getD .skip) 1=true:=by kernel_rfl
theorem fc229:xJ Tryz.prog 229=true:=by kernel_rfl
theorem fb166:xK Tryz.f166 (Tryz.f166.body.getD .skip) 4=true:=by kernel_rfl
theorem fc227:xJ Tryz.prog 227=true:=by kernel_rfl
theorem fc228:xJ Tryz.prog 228=true:=by kernel_rfl
theorem sl139:q6 Tryz.prog 139=some (38,8,128,[.bool false,.slice none 0 0,.bool false,.slice none 0 0,.bool false,.slice none 0 0,.bool false,.slice none 0 0]):=by kernel_rfl
theorem fb92:xK Tryz.f92 (Tryz.f92.body.getD .skip) 1=true:=by kernel_rfl
theorem fc163:xJ Tryz.prog 163=true:=by kernel_rfl
theorem fc164:xJ Tryz.prog 164=true:=by kernel_rfl
theorem fc165:xJ Tryz.prog 165=true:=by kernel_rfl
theorem fc166:xJ Tryz.prog 166=true:=by kernel_rfl
theorem fc167:xJ Tryz.prog 167=true:=by kernel_rfl
variable{v:Value}{l:List (List Value)}{K:Kw}
section
variable{P:Program}{I:xP}{f:FuncId}{args:Array Value}{s:St}{Q:Value→St→Prop}{k:Nat}
theorem callAB(h:∃v s',xN P I f args s v s'∧∃b,qQ s k (.bool b) v s')(c0:∀s',HL [] s s' [] k→Q (.bool false) s')(c1:∀s',HL [] s s' [] k→Q (.bool true) s'):∃v s',xN P I f args s v s'∧Q v s':=by
 obtain⟨v,s',hr,b,rfl,H⟩:=h
 cases b
 ·exact⟨_,_,hr,c0 s' H⟩
 ·exact⟨_,_,hr,c1 s' H⟩
end
set_option maxHeartbeats 4000000 in
set_option maxRecDepth 10000 in
theorem next06_ok{I:xP}(hI:xA I){s:St}(hf:Fine s)(hl:Sl s 38 8 v l)(h0:0<l.length)(h12:l.length≤12){x:Int}(hx:0≤x)(hx2:x<l.length)(hroom:s.next+2≤yC)(hz:∀k,k<l.length→(l.getD k []).length=8∧(l.getD k []).all Go.M.plainCell=true) :
  ∃v' s',xN Tryz.prog I 229 #[v,.int .i64 x] s v' s'∧(∃j,j<l.length∧qQ s 2 (.agg ⟨l.getD j []⟩) v' s'):=by
 have H:=hf.hl
 obtain⟨a,len,cap,rfl,hn⟩:=hl.isSlice
 subst hn
 refine zX 2 (hI 229 U U) Tryz.func229 J fb229 J ?_
 refine zE (zS H zf38 O (fun b4 s1 H=>?_))
 refine zD (yE (zE (zC J (yH J J Y (zH J (yF ju J J J (xB J J (fun h=>?_) (fun h=>?_))))))))
 ·refine zD (yJ rfl ?_)
  obtain⟨j,hj⟩:∃j:Nat,x+1=j:=⟨(x+1).toNat,by omega⟩
  obtain⟨b1,off1,c1_,rfl,hg1,hb1,hc1⟩:=hl.at (i:=x+1) (k:=j) hj O
  obtain⟨hz1,hz2⟩:=hz j O
  generalize hc9:l.getD j []=cs at *
  obtain⟨x0,x1,x2,x3,x4,x5,x6,x7,rfl⟩:∃x0 x1 x2 x3 x4 x5 x6 x7,cs=[x0,x1,x2,x3,x4,x5,x6,x7]:=by
   match cs,hz1 with
   | [x0,x1,x2,x3,x4,x5,x6,x7],_=>exact⟨_,_,_,_,_,_,_,_,rfl⟩
  refine zE (zH J (zC J (yH J J Y (zP el139 J J O O (zN qN J W8 hc1 (zT (vs:=[x0,x1,x2,x3,x4,x5,x6,x7]) H sz38 J J J hz2 J O (fun s9 H=>?_)))))))
  refine zD (yO (xI (yB (yP qN J H.own0 J ?_))))
  exact⟨j,by omega,by rw[hc9],H.drop0.up O⟩
 refine zD (yL rfl (yN (zR ?_)))
 obtain⟨j,hj⟩:∃j:Nat,j=0:=⟨0,rfl⟩
 obtain⟨b1,off1,c1_,rfl,hg1,hb1,hc1⟩:=hl.at (i:=0) (k:=j) O O
 obtain⟨hz1,hz2⟩:=hz j O
 generalize hc9:l.getD j []=cs at *
 obtain⟨x0,x1,x2,x3,x4,x5,x6,x7,rfl⟩:∃x0 x1 x2 x3 x4 x5 x6 x7,cs=[x0,x1,x2,x3,x4,x5,x6,x7]:=by
  match cs,hz1 with
  | [x0,x1,x2,x3,x4,x5,x6,x7],_=>exact⟨_,_,_,_,_,_,_,_,rfl⟩
 refine zE (zH J (zP el139 J J O O (zN qN J W8 hc1 (zT (vs:=[x0,x1,x2,x3,x4,x5,x6,x7]) H sz38 J J J hz2 J O (fun s9 H=>?_)))))
 refine zD (yO (yB (yP qN J H.own0 J ?_)))
 exact⟨j,by omega,by rw[hc9],H.drop0.up O⟩
set_option maxHeartbeats 4000000 in
set_option maxRecDepth 10000 in
theorem numbers06_ok{I:xP}(hI:xA I){s:St}(hf:Fine s)(hK:Kn s K)(hl:Sl s 38 8 v l)(hv:VecsK K l 16 1)(h0:0<l.length)(h12:l.length≤12)(hroom:s.next+30000≤yC) :
  ∃v' s',xN Tryz.prog I 163 #[v] s v' s'∧qQ s 30000 (.bool true) v' s':=by
 have H:=hf.hl
 obtain⟨a,len,cap,rfl,hn⟩:=hl.isSlice
 subst hn
 refine zX 1 (hI 163 U U) Tryz.func163 J fb163 J ?_
 refine zE (zG (zD (yE (zE (zG (zD (yR (xR (fun k F s1=>∃(G:FF) (i:Nat),F=lay G [(0,.slice a l.length cap),(3,.int .i64 (i:Int))]∧HL [] s s1 [] (i*2000)∧i≤l.length∧k=l.length-i) ?_ l.length _ _ ?_))))))))
 rotate_left
 ·exact⟨_,0,yZ ⟨J,J,trivial⟩,H.up O,by omega,by omega⟩
 rintro k F s1 ⟨G,i,rfl,H,hi,rfl⟩
 refine yE (zE (zC J (zH J (yF ju J J J (xB J J (fun h=>?_) (fun h=>?_))))))
 ·refine zD (yJ rfl (yN (zR (yE (yR ?_)))))
  obtain⟨p1,q1,n1a,a1a,m1a,c1a,n1b,a1b,m1b,c1b,n1c,a1c,m1c,c1c,n1d,a1d,m1d,c1d,e1,h1X,h1Y⟩:=hv.vec i O
  have h1X:=h1X.mono (zZ (D:=[]))
  have h1Y:=h1Y.mono (zZ (D:=[]))
  obtain⟨b1,off1,c1_,rfl,hg1,hb1,hc1⟩:=hl.at (i:=(i:Int)) (k:=i) O O
  rw[e1]at hc1
  refine zE (zH J (zC J (zP el139 J J O O (zB q8 J (zN xC J W8 (jr (k:=0) (j:=4) hc1 U) (zF J fc110 J (callE (valid04_ok hI H.fine (kn0 hK H) h1X U U Z) (fun s9 Hc=>?_))))))))
  have H:=H.call0 Hc
  clear Hc
  refine qt J (zI J (zH J (zC J (zP el139 J J O O (zB q7 J (zN xC J W8 (jr (k:=4) (j:=4) hc1 U) (zF J fc110 J (callE (valid04_ok hI H.fine (kn0 hK H) h1Y U U Z) (fun s9 Hc=>?_)))))))))
  have H:=H.call0 Hc
  clear Hc
  refine qt J (yG J J (zD (yL rfl (yN (xF (zR (yA (zC J (yH J J Y (zL J (zD ?_)))))))))))
  refine xG ?_
  exact⟨l.length-(i+1),by omega,_,i+1,yZ ⟨J,J,trivial⟩,H.up O,by omega,J⟩
 refine zD (yL rfl (ql (xU (xZ (xX (zR (zE (zG (zD (yO (yB ?_)))))))))))
 refine yV ?_
 exact⟨J,H.up O⟩
set_option maxHeartbeats 4000000 in
set_option maxRecDepth 10000 in
theorem area06_ok{I:xP}(hI:xA I){s:St}(hf:Fine s)(hK:Kn s K)(hl:Sl s 38 8 v l)(hv:VecsK K l 16 1)(h0:0<l.length)(h12:l.length≤12)(hroom:s.next+1200000≤yC) :
  ∃v' s',xN Tryz.prog I 167 #[v] s v' s'∧(∃q,PostQ K s 1200000 q 12288 2 v' s'):=by
 rw[Nat.add_comm]at hroom
 have H:=hf.hl
 obtain⟨a,len,cap,rfl,hn⟩:=hl.isSlice
 subst hn
 refine zX 1 (hI 167 U U) Tryz.func167 J fb167 J ?_
 refine zE (zS H wB O (fun b2 s1 H=>?_))
 refine zD (zE (zS H wB O (fun b3 s2 H=>?_)))
 refine zD (yE (zE (zG (zD (yR (xR (fun k F s1=>∃(G:FF) (i:Nat) (Φ:Hp') (q:Rat) (n1:Bool) (a1:Option Addr) (m1 c1:Nat) (n2:Bool) (a2:Option Addr) (m2 c2 m:Nat),F=lay G [(0,.slice a l.length cap),(2,.pointer (some ⟨b2,0,none⟩)),(3,.pointer (some ⟨b3,0,none⟩)),(4,.int .i64 (i:Int))]∧HL [] s s1 ((b3,.cells [.bool n1,.slice a1 m1 c1,.bool n2,.slice a2 m2 c2] 34)::(b2,.cells [.bool false,.slice none 0 0,.bool false,.slice none 0 0] 34)::Φ) m∧m≤2+i*90000∧i≤l.length∧k=l.length-i∧RatK (KX K Φ) n1 a1 m1 c1 n2 a2 m2 c2 q (i*1024) 1) ?_ l.length _ _ ?_))))))
 rotate_left
 ·exact⟨_,0,[],0,_,_,_,_,_,_,_,_,_,yZ ⟨J,J,J,J,trivial⟩,H,by omega,by omega,by omega,RatK.nil.le O O⟩
 rintro k F s1 ⟨G,i,Φ,q,n1,a1,m1,c1,n2,a2,m2,c2,m,rfl,H,hm,hi,rfl,hs1⟩
 refine yE (zE (zC J (zH J (yF ju J J J (xB J J (fun h=>?_) (fun h=>?_))))))
 ·refine zD (yJ rfl (yN (zR (yE (yR ?_)))))
  obtain⟨p1,q1,n1a,a1a,m1a,c1a,n1b,a1b,m1b,c1b,n1c,a1c,m1c,c1c,n1d,a1d,m1d,c1d,e1,h1X,h1Y⟩:=hv.vec i O
  have h1X:=h1X.mono (zZ (D:=Φ))
  have h1Y:=h1Y.mono (zZ (D:=Φ))
  obtain⟨b1,off1,c1_,rfl,hg1,hb1,hc1⟩:=hl.at (i:=(i:Int)) (k:=i) O O
  rw[e1]at hc1
  refine zE (zH J (zC J (zF J fc229 J ?_)))
  obtain⟨_,s9,hr,j1,hj1,rfl,Hc⟩:=next06_ok hI H.fine (hl.kept H) h0 h12 (x:=(i:Int)) O O Y7 hv.len
  obtain⟨p2,q2,n2a,a2a,m2a,c2a,n2b,a2b,m2b,c2b,n2c,a2c,m2c,c2c,n2d,a2d,m2d,c2d,e2,h2X,h2Y⟩:=hv.vec j1 hj1
  have h2X:=h2X.mono (zZ (D:=Φ))
  have h2Y:=h2Y.mono (zZ (D:=Φ))
  rw[e2]at hr
  refine⟨_,_,hr,?_⟩
  clear hr
  have H:=H.call0 Hc
  clear Hc
  refine zS H zf38 O (fun b5 s3 H=>?_)
  refine zT (vs:=[.bool _,.slice _ _ _,.bool _,.slice _ _ _,.bool _,.slice _ _ _,.bool _,.slice _ _ _]) H sz38 J J J J J O (fun s4 H=>?_)
  refine zD (wT [⟨0,0,.light,[5,7,13,15]⟩,⟨1,0,.light,[0,7,13,15]⟩,⟨2,0,.light,[0,7,13,15]⟩,⟨3,6,.light,[0,7,13,15]⟩,⟨4,14,.light,[0,7,13,15]⟩,⟨5,30,.light,[0,7,13,15]⟩,⟨6,0,.light,[0,5,13,15]⟩,⟨7,64,.light,[0,5,13,15]⟩,⟨9,0,.light,[0,5,7,15]⟩,⟨10,0,.light,[0,5,7,15]⟩,⟨11,1536,.light,[0,5,7,15]⟩,⟨12,3584,.light,[0,5,7,15]⟩,⟨13,7680,.light,[0,5,7,15]⟩,⟨14,0,.light,[0,5,7,13]⟩,⟨15,16384,.light,[0,5,7,13]⟩,⟨8,254,.whole,[0,13,15]⟩,⟨16,65534,.whole,[0]⟩,⟨17,131070,.whole,[0]⟩,⟨18,262143,.whole,[]⟩,⟨19,524287,.whole,[]⟩] Z0 Z0 (zQ J J xC J H.own1 Y1 J (zA J J (zH J ⟨J,(zA J J (zC J ⟨J,(zA J J (zP el139 J J O O ⟨J,(zA J J (zB q8 J ⟨J,(zQ J J xC J W8 O (jr (k:=0) (j:=4) hc1 U) (zA J J (zB q8 J ⟨J,(zQ J J xC J H.own0 Y0 J (zA J J (zH J ⟨J,(zA J J (zC J ⟨J,?_⟩))⟩)))⟩)))⟩))⟩))⟩))⟩))))
  refine zA J J (zP el139 J J O O ⟨J,(zA J J (zB q7 J ⟨J,(zQ J J xC J W8 O (jr (k:=4) (j:=4) hc1 U) (zA J J (zB q7 J ⟨J,(zQ J J xC J H.own0 Y0 J (zM J J (zF J fc98 J (qe (sub04_ok hI (Fine.pr H.fine (xW H.lt1 (xW X9 (xW H.lt0 qO)))) X3 h1X h2X U U Z) (fun s9 D9 n1 a1 m1 c1 n1d a1d m1d c1d Hc h101=>?_)))))⟩)))⟩))⟩)
  have Hc:=HL.wider H.fine Z3 Z5 Hc
  obtain⟨Φ,ku,kd,H⟩:=qk (K:=K) H Hc
  try replace hs1:=hs1.mono ku
  try replace h1Y:=h1Y.mono ku
  try replace h2Y:=h2Y.mono ku
  replace h101:=h101.mono kd
  clear Hc ku kd
  refine zM J J (zF J fc36 J (qe (wQ hI (Fine.pr H.fine (xW H.lt1 qO)) X3 h1Y h2Y U U Z) (fun s9 D9 n2 a2 m2 c2 n2d a2d m2d c2d Hc h102=>?_)))
  have Hc:=HL.wider H.fine Z3 Z5 Hc
  obtain⟨Φ,ku,kd,H⟩:=qk (K:=K) H Hc
  try replace hs1:=hs1.mono ku
  try replace h101:=h101.mono ku
  replace h102:=h102.mono kd
  clear Hc ku kd
  refine zM J J (zF J fc99 J (qe (kF hI (Fine.pr H.fine (xW H.lt1 qO)) X3 h101 h102 U U U U Z) (fun s9 D9 n3 a3 m3 c3 n3d a3d m3d c3d Hc h103=>?_)))
  have Hc:=HL.wider H.fine Z3 Z5 Hc
  obtain⟨Φ,ku,kd,H⟩:=qk (K:=K) H Hc
  try replace hs1:=hs1.mono ku
  replace h103:=h103.mono kd
  clear Hc ku kd
  refine zM J J (zF J fc36 J (qe (wQ hI H.fine (kn3 hK H) hs1 h103 O U Z) (fun s9 D9 n4 a4 m4 c4 n4d a4d m4d c4d Hc h104=>?_)))
  have Hc:=HL.wider H.fine Z3 Z7 Hc
  obtain⟨Φ,ku,kd,H⟩:=qk (K:=K) H Hc
  try replace hs1:=hs1.mono ku
  replace h104:=h104.mono kd
  clear Hc ku kd
  refine kT (vs:=[.bool _,.slice _ _ _,.bool _,.slice _ _ _]) (fr:=[]) H J J kb J J J J J J Z2 O (fun s5 H=>?_)
  refine zU (xF (zR (yA (zC J (yH J J Y (zL J (zD (xG (⟨l.length-(i+1),by omega,_,i+1,Φ,_,_,_,_,_,_,_,_,_,_,yZ ⟨J,J,J,J,trivial⟩,H.drop0,by omega,by omega,J,h104.le O O⟩)))))))))
 refine zD (yL rfl (ql (xU (xZ (xX (zR (yT [⟨0,0,.light,[]⟩,⟨1,0,.whole,[0]⟩,⟨2,3,.whole,[]⟩,⟨3,7,.whole,[]⟩] Z0 Z0 (zQ J J xC J H.own0 Y0 J (zM J J (zF J fc20 J (qe (wS hI (Fine.pr H.fine (xW H.lt0 qO)) (p:=1) (q:=2) (N:=1) (M:=2) U U U U U X2 Z) (fun s9 D9 n5 a5 m5 c5 n5d a5d m5d c5d Hc h105=>?_))))))))))))
 have Hc:=HL.wider H.fine Z3 Z5 Hc
 obtain⟨Φ,ku,kd,H⟩:=k8 (K:=K) H Hc
 try replace hs1:=hs1.mono ku
 replace h105:=h105.mono kd
 clear Hc ku kd
 refine zM J J (zF J fc99 J (qe (kF hI H.fine (kn2 hK H) hs1 h105 O U O U Z) (fun s9 D9 n6 a6 m6 c6 n6d a6d m6d c6d Hc h106=>?_)))
 have Hc:=HL.wider H.fine Z3 Z7 Hc
 obtain⟨Φ,ku,kd,H⟩:=k8 (K:=K) H Hc
 replace h106:=h106.mono kd
 clear Hc ku kd
 refine kT (vs:=[.bool _,.slice _ _ _,.bool _,.slice _ _ _]) (fr:=[]) H J J kb J J J J J J Z2 O (fun s6 H=>?_)
 refine zU (yO (yB (yP xC J H.own1 J ?_)))
 exact⟨_,Φ,_,_,_,_,_,_,_,_,J,(frz2 H).up O,h106.le O O⟩
set_option maxHeartbeats 4000000 in
set_option maxRecDepth 10000 in
theorem meets06_ok{I:xP}(hI:xA I){s:St}(hf:Fine s)(hK:Kn s K){n1:Bool}{a1:Option Addr}{m1 c1:Nat}{n2:Bool}{a2:Option Addr}{m2 c2:Nat}{n3:Bool}{a3:Option Addr}{m3 c3:Nat}{n4:Bool}{a4:Option Addr}{m4 c4:Nat}{p1 q1:Rat}(aX:RatK K n1 a1 m1 c1 n2 a2 m2 c2 p1 16 1)(aY:RatK K n3 a3 m3 c3 n4 a4 m4 c4 q1 16 1){n5:Bool}{a5:Option Addr}{m5 c5:Nat}{n6:Bool}{a6:Option Addr}{m6 c6:Nat}{n7:Bool}{a7:Option Addr}{m7 c7:Nat}{n8:Bool}{a8:Option Addr}{m8 c8:Nat}{p5 q5:Rat}(bX:RatK K n5 a5 m5 c5 n6 a6 m6 c6 p5 16 1)(bY:RatK K n7 a7 m7 c7 n8 a8 m8 c8 q5 16 1){n9:Bool}{a9:Option Addr}{m9 c9:Nat}{n10:Bool}{a10:Option Addr}{m10 c10:Nat}{n11:Bool}{a11:Option Addr}{m11 c11:Nat}{n12:Bool}{a12:Option Addr}{m12 c12:Nat}{p9 q9:Rat}(cX:RatK K n9 a9 m9 c9 n10 a10 m10 c10 p9 16 1)(cY:RatK K n11 a11 m11 c11 n12 a12 m12 c12 q9 16 1){n13:Bool}{a13:Option Addr}{m13 c13:Nat}{n14:Bool}{a14:Option Addr}{m14 c14:Nat}{n15:Bool}{a15:Option Addr}{m15 c15:Nat}{n16:Bool}{a16:Option Addr}{m16 c16:Nat}{p13 q13:Rat}(dX:RatK K n13 a13 m13 c13 n14 a14 m14 c14 p13 16 1)(dY:RatK K n15 a15 m15 c15 n16 a16 m16 c16 q13 16 1)(hroom:s.next+1200000≤yC) :
  ∃v' s',xN Tryz.prog I 166 #[.agg ⟨[.bool n1,.slice a1 m1 c1,.bool n2,.slice a2 m2 c2,.bool n3,.slice a3 m3 c3,.bool n4,.slice a4 m4 c4]⟩,.agg ⟨[.bool n5,.slice a5 m5 c5,.bool n6,.slice a6 m6 c6,.bool n7,.slice a7 m7 c7,.bool n8,.slice a8 m8 c8]⟩,.agg ⟨[.bool n9,.slice a9 m9 c9,.bool n10,.slice a10 m10 c10,.bool n11,.slice a11 m11 c11,.bool n12,.slice a12 m12 c12]⟩,.agg ⟨[.bool n13,.slice a13 m13 c13,.bool n14,.slice a14 m14 c14,.bool n15,.slice a15 m15 c15,.bool n16,.slice a16 m16 c16]⟩] s v' s'∧(∃b,qQ s 1200000 (.bool b) v' s'):=by
 rw[Nat.add_comm]at hroom
 have H:=hf.hl
 have aX:=aX.mono (zZ (D:=[]))
 have aY:=aY.mono (zZ (D:=[]))
 have bX:=bX.mono (zZ (D:=[]))
 have bY:=bY.mono (zZ (D:=[]))
 have cX:=cX.mono (zZ (D:=[]))
 have cY:=cY.mono (zZ (D:=[]))
 have dX:=dX.mono (zZ (D:=[]))
 have dY:=dY.mono (zZ (D:=[]))
 refine zX 4 (hI 166 U U) Tryz.func166 J fb166 J ?_
 refine zE (zY H J O (fun b4 s1 H=>?_))
 refine zY H J O (fun b5 s2 H=>?_)
 refine zY H J O (fun b6 s3 H=>?_)
 refine zY H J O (fun b7 s4 H=>?_)
 refine zG (zD (zE (zN qN J H.own2 J (zN qN J H.own3 J (zF J fc39 J (kn (js hI H.fine (kn4 hK H) bX bY aX aY U U Z) (fun s9 D9 n1 a1 m1 c1 n1d a1d m1d c1d n1y a1y m1y c1y n1yd a1yd m1yd c1yd Hc h101a h101b=>?_)))))))
 obtain⟨Φ,ku,kd,H⟩:=kj (K:=K) H Hc
 try replace aX:=aX.mono ku
 try replace aY:=aY.mono ku
 try replace bX:=bX.mono ku
 try replace bY:=bY.mono ku
 try replace cX:=cX.mono ku
 try replace cY:=cY.mono ku
 try replace dX:=dX.mono ku
 try replace dY:=dY.mono ku
 replace h101a:=h101a.mono kd
 replace h101b:=h101b.mono kd
 clear Hc ku kd
 refine zS H zf38 O (fun b9 s5 H=>?_)
 refine zT (vs:=[.bool _,.slice _ _ _,.bool _,.slice _ _ _,.bool _,.slice _ _ _,.bool _,.slice _ _ _]) H sz38 J J J J J O (fun s6 H=>?_)
 refine zD (zE (zN qN J H.own1 J (zN qN J H.own2 J (zF J fc39 J (kn (js hI H.fine (kn5 hK H) dX dY cX cY U U Z) (fun s9 D9 n2 a2 m2 c2 n2d a2d m2d c2d n2y a2y m2y c2y n2yd a2yd m2yd c2yd Hc h102a h102b=>?_))))))
 obtain⟨Φ,ku,kd,H⟩:=ka (K:=K) H Hc
 try replace aX:=aX.mono ku
 try replace aY:=aY.mono ku
 try replace bX:=bX.mono ku
 try replace bY:=bY.mono ku
 try replace cX:=cX.mono ku
 try replace cY:=cY.mono ku
 try replace dX:=dX.mono ku
 try replace dY:=dY.mono ku
 try replace h101a:=h101a.mono ku
 try replace h101b:=h101b.mono ku
 replace h102a:=h102a.mono kd
 replace h102b:=h102b.mono kd
 clear Hc ku kd
 refine zS H zf38 O (fun b10 s7 H=>?_)
 refine zT (vs:=[.bool _,.slice _ _ _,.bool _,.slice _ _ _,.bool _,.slice _ _ _,.bool _,.slice _ _ _]) H sz38 J J J J J O (fun s8 H=>?_)
 refine zD (yT [⟨0,0,.light,[2,4,5,6,7]⟩,⟨2,0,.light,[0,4,5,6,7]⟩,⟨4,0,.light,[0,2,5,6,7]⟩,⟨5,0,.light,[0,2,4,6,7]⟩,⟨6,0,.light,[0,2,4,5,7]⟩,⟨7,0,.light,[0,2,4,5,6]⟩,⟨1,1,.whole,[2,4,5,6,7]⟩,⟨3,7,.whole,[4,5,6,7]⟩,⟨8,207,.whole,[4,5]⟩,⟨9,511,.whole,[]⟩,⟨10,1023,.light,[]⟩] Z0 Z0 (zQ J J qN J H.own1 Y1 J (zQ J J qN J H.own0 Y0 J (zQ J J qN J H.own1 Y1 J (zQ J J qN J H.own0 Y0 J (zQ J J qN J H.own3 Y3 J (zQ J J qN J H.own5 (H.lim5 O) J (zM J J (zF J fc227 J (kn (turned06_ok hI (Fine.pr H.fine (xW H.lt0 (xW H.lt1 (xW H.lt0 (xW H.lt3 (xW H.lt5 qO)))))) ((kn6 hK H).heap J Z3) h101a h101b Z) (fun s9 D9 n3 a3 m3 c3 n3d a3d m3d c3d n3y a3y m3y c3y n3yd a3yd m3yd c3yd Hc h103a h103b=>?_)))))))))))
 have Hc:=HL.wider H.fine Z3 Z5 Hc
 obtain⟨Φ,ku,kd,H⟩:=merge6 (K:=K) H Hc
 try replace aX:=aX.mono ku
 try replace aY:=aY.mono ku
 try replace bX:=bX.mono ku
 try replace bY:=bY.mono ku
 try replace cX:=cX.mono ku
 try replace cY:=cY.mono ku
 try replace dX:=dX.mono ku
 try replace dY:=dY.mono ku
 try replace h101a:=h101a.mono ku
 try replace h101b:=h101b.mono ku
 try replace h102a:=h102a.mono ku
 try replace h102b:=h102b.mono ku
 replace h103a:=h103a.mono kd
 replace h103b:=h103b.mono kd
 clear Hc ku kd
 refine zM J J (zF J fc227 J (kn (turned06_ok hI (Fine.pr H.fine (xW H.lt1 (xW H.lt0 (xW H.lt3 (xW H.lt5 qO))))) ((kn6 hK H).heap J Z3) h102a h102b Z) (fun s9 D9 n4 a4 m4 c4 n4d a4d m4d c4d n4y a4y m4y c4y n4yd a4yd m4yd c4yd Hc h104a h104b=>?_)))
 have Hc:=HL.wider H.fine Z3 Z5 Hc
 obtain⟨Φ,ku,kd,H⟩:=merge6 (K:=K) H Hc
 try replace aX:=aX.mono ku
 try replace aY:=aY.mono ku
 try replace bX:=bX.mono ku
 try replace bY:=bY.mono ku
 try replace cX:=cX.mono ku
 try replace cY:=cY.mono ku
 try replace dX:=dX.mono ku
 try replace dY:=dY.mono ku
 try replace h101a:=h101a.mono ku
 try replace h101b:=h101b.mono ku
 try replace h102a:=h102a.mono ku
 try replace h102b:=h102b.mono ku
 try replace h103a:=h103a.mono ku
 try replace h103b:=h103b.mono ku
 replace h104a:=h104a.mono kd
 replace h104b:=h104b.mono kd
 clear Hc ku kd
 refine zM J J (zF J fc39 J (kn (js hI (Fine.pr H.fine (xW H.lt1 (xW H.lt0 qO))) ((kn6 hK H).heap J Z3) cX cY aX aY U U Z) (fun s9 D9 n5 a5 m5 c5 n5d a5d m5d c5d n5y a5y m5y c5y n5yd a5yd m5yd c5yd Hc h105a h105b=>?_)))
 have Hc:=HL.wider H.fine Z3 Z5 Hc
 obtain⟨Φ,ku,kd,H⟩:=merge6 (K:=K) H Hc
 try replace aX:=aX.mono ku
 try replace aY:=aY.mono ku
 try replace bX:=bX.mono ku
 try replace bY:=bY.mono ku
 try replace cX:=cX.mono ku
 try replace cY:=cY.mono ku
 try replace dX:=dX.mono ku
 try replace dY:=dY.mono ku
 try replace h101a:=h101a.mono ku
 try replace h101b:=h101b.mono ku
 try replace h102a:=h102a.mono ku
 try replace h102b:=h102b.mono ku
 try replace h103a:=h103a.mono ku
 try replace h103b:=h103b.mono ku
 try replace h104a:=h104a.mono ku
 try replace h104b:=h104b.mono ku
 replace h105a:=h105a.mono kd
 replace h105b:=h105b.mono kd
 clear Hc ku kd
 refine zM J J (yS H.fine.hl sl139 J J (H.rm (k:=1) O) (fun b28 s9 Hc=>?_))
 have H:=H.call X8
 clear Hc
 refine zA J J (yU J ⟨J,(zU (yE (zE (zG (zD (yR (kf (yE (zE (zC J (zH J ?_)))))))))))⟩)
 refine yF ju J J J ?_
 refine xB J J (fun h=>?_) Y6
 refine zD (yJ rfl (yN (zR (yE (yR (yT [⟨0,0,.light,[4,5,6,7]⟩,⟨1,0,.light,[4,5,6,7]⟩,⟨2,3,.light,[4,5,6,7]⟩,⟨3,7,.light,[4,5,6,7]⟩,⟨4,0,.light,[3,5,6,7]⟩,⟨5,0,.light,[3,4,6,7]⟩,⟨6,0,.light,[3,4,5,7]⟩,⟨7,0,.light,[3,4,5,6]⟩,⟨8,255,.whole,[]⟩] Z0 Z0 (zA J J (zH J ⟨J,(zA J J (zC J ⟨J,(zA J J (zP el139 J J O O ⟨J,(zQ J J qN J H.own0 Y0 J (zQ J J qN J H.own6 (H.lim6 O) J ?_))⟩))⟩))⟩))))))))
 refine zQ J J qN J H.own5 (H.lim5 O) J (zQ J J qN J H.own4 Y4 J (zQ J J qN J H.own3 Y3 J (zM J J (zF J fc228 J (callAB (jG hI H.fine (kn7 hK H) h103a h103b aX aY bX bY cX cY dX dY Z) (fun s9 Hc=>?_) (fun s9 Hc=>?_))))))
 ·have Hc:=HL.wider H.fine Z3 Z7 Hc
  have H:=H.call0 Hc
  clear Hc
  refine zU (yL rfl (yN (xF (zR (yA (zC J (yH J J Y (zL J (zD (zR (kf ?_)))))))))))
  refine yE (zE (zC J (zH J (yF ju J J J ?_))))
  refine xB J J (fun h=>?_) Y6
  refine zD (yJ rfl (yN (zR (yE (yR (yT [⟨0,0,.light,[4,5,6,7]⟩,⟨1,0,.light,[4,5,6,7]⟩,⟨2,3,.light,[4,5,6,7]⟩,⟨3,7,.light,[4,5,6,7]⟩,⟨4,0,.light,[3,5,6,7]⟩,⟨5,0,.light,[3,4,6,7]⟩,⟨6,0,.light,[3,4,5,7]⟩,⟨7,0,.light,[3,4,5,6]⟩,⟨8,255,.whole,[]⟩] Z0 Z0 (zA J J (zH J ⟨J,(zA J J (zC J ⟨J,(zA J J (zP el139 J J O O ⟨J,(zQ J J qN J H.own0 Y0 J (zQ J J qN J H.own6 (H.lim6 O) J ?_))⟩))⟩))⟩))))))))
  refine zQ J J qN J H.own5 (H.lim5 O) J (zQ J J qN J H.own4 Y4 J (zQ J J qN J H.own3 Y3 J (zM J J (zF J fc228 J (callAB (jG hI H.fine (kn7 hK H) h104a h104b aX aY bX bY cX cY dX dY Z) (fun s9 Hc=>?_) (fun s9 Hc=>?_))))))
  ·have Hc:=HL.wider H.fine Z3 Z7 Hc
   have H:=H.call0 Hc
   clear Hc
   refine zU (yL rfl (yN (xF (zR (yA (zC J (yH J J Y (zL J (zD (zR (kf ?_)))))))))))
   refine yE (zE (zC J (zH J (yF ju J J J ?_))))
   refine xB J J (fun h=>?_) Y6
   refine zD (yJ rfl (yN (zR (yE (yR (yT [⟨0,0,.light,[4,5,6,7]⟩,⟨1,0,.light,[4,5,6,7]⟩,⟨2,3,.light,[4,5,6,7]⟩,⟨3,7,.light,[4,5,6,7]⟩,⟨4,0,.light,[3,5,6,7]⟩,⟨5,0,.light,[3,4,6,7]⟩,⟨6,0,.light,[3,4,5,7]⟩,⟨7,0,.light,[3,4,5,6]⟩,⟨8,255,.whole,[]⟩] Z0 Z0 (zA J J (zH J ⟨J,(zA J J (zC J ⟨J,(zA J J (zP el139 J J O O ⟨J,(zQ J J qN J H.own0 Y0 J (zQ J J qN J H.own6 (H.lim6 O) J ?_))⟩))⟩))⟩))))))))
   refine zQ J J qN J H.own5 (H.lim5 O) J (zQ J J qN J H.own4 Y4 J (zQ J J qN J H.own3 Y3 J (zM J J (zF J fc228 J (callAB (jG hI H.fine (kn7 hK H) h101a h101b aX aY bX bY cX cY dX dY Z) (fun s9 Hc=>?_) (fun s9 Hc=>?_))))))
   ·have Hc:=HL.wider H.fine Z3 Z7 Hc
    have H:=H.call0 Hc
    clear Hc
    refine zU (yL rfl (yN (xF (zR (yA (zC J (yH J J Y (zL J (zD (zR (kf ?_)))))))))))
    refine yE (zE (zC J (zH J (yF ju J J J ?_))))
    refine xB J J (fun h=>?_) Y6
    refine zD (yJ rfl (yN (zR (yE (yR (yT [⟨0,0,.light,[4,5,6,7]⟩,⟨1,0,.light,[4,5,6,7]⟩,⟨2,3,.light,[4,5,6,7]⟩,⟨3,7,.light,[4,5,6,7]⟩,⟨4,0,.light,[3,5,6,7]⟩,⟨5,0,.light,[3,4,6,7]⟩,⟨6,0,.light,[3,4,5,7]⟩,⟨7,0,.light,[3,4,5,6]⟩,⟨8,255,.whole,[]⟩] Z0 Z0 (zA J J (zH J ⟨J,(zA J J (zC J ⟨J,(zA J J (zP el139 J J O O ⟨J,(zQ J J qN J H.own0 Y0 J (zQ J J qN J H.own6 (H.lim6 O) J ?_))⟩))⟩))⟩))))))))
    refine zQ J J qN J H.own5 (H.lim5 O) J (zQ J J qN J H.own4 Y4 J (zQ J J qN J H.own3 Y3 J (zM J J (zF J fc228 J (callAB (jG hI H.fine (kn7 hK H) h102a h102b aX aY bX bY cX cY dX dY Z) (fun s9 Hc=>?_) (fun s9 Hc=>?_))))))
    ·have Hc:=HL.wider H.fine Z3 Z7 Hc
     have H:=H.call0 Hc
     clear Hc
     refine zU (yL rfl (yN (xF (zR (yA (zC J (yH J J Y (zL J (zD (zR (kf ?_)))))))))))
     refine yE (zE (zC J (zH J (yF ju J J J ?_))))
     refine xB J J (fun h=>?_) Y6
     refine zD (yJ rfl (yN (zR (yE (yR (yT [⟨0,0,.light,[4,5,6,7]⟩,⟨1,0,.light,[4,5,6,7]⟩,⟨2,3,.light,[4,5,6,7]⟩,⟨3,7,.light,[4,5,6,7]⟩,⟨4,0,.light,[3,5,6,7]⟩,⟨5,0,.light,[3,4,6,7]⟩,⟨6,0,.light,[3,4,5,7]⟩,⟨7,0,.light,[3,4,5,6]⟩,⟨8,255,.whole,[]⟩] Z0 Z0 (zA J J (zH J ⟨J,(zA J J (zC J ⟨J,(zA J J (zP el139 J J O O ⟨J,(zQ J J qN J H.own0 Y0 J (zQ J J qN J H.own6 (H.lim6 O) J ?_))⟩))⟩))⟩))))))))
     refine zQ J J qN J H.own5 (H.lim5 O) J (zQ J J qN J H.own4 Y4 J (zQ J J qN J H.own3 Y3 J (zM J J (zF J fc228 J (callAB (jG hI H.fine (kn7 hK H) h105a h105b aX aY bX bY cX cY dX dY Z) (fun s9 Hc=>?_) (fun s9 Hc=>?_))))))
     ·have Hc:=HL.wider H.fine Z3 Z7 Hc
      have H:=H.call0 Hc
      clear Hc
      refine zU (yL rfl (yN (xF (zR (yA (zC J (yH J J Y (zL J (zD (zR (kf ?_)))))))))))
      refine yE (zE (zC J (zH J (yF ju J J J (xB J J Y6 (fun h=>?_))))))
      refine zD (yL rfl (ql (xU (xU (xX (zR (zE (zG (zD (yO (yB ?_)))))))))))
      refine yV ?_
      exact⟨_,J,(H.sub Z9).up O⟩
     have Hc:=HL.wider H.fine Z3 Z7 Hc
     have H:=H.call0 Hc
     clear Hc
     refine zU (yJ rfl (zE (zG (zD (yO (qc (xI (xI (qc (xI (yB ?_)))))))))))
     refine yV ?_
     exact⟨_,J,(H.sub Z9).up O⟩
    have Hc:=HL.wider H.fine Z3 Z7 Hc
    have H:=H.call0 Hc
    clear Hc
    refine zU (yJ rfl (zE (zG (zD (yO (qc (xI (xI (qc (xI (yB ?_)))))))))))
    refine yV ?_
    exact⟨_,J,(H.sub Z9).up O⟩
   have Hc:=HL.wider H.fine Z3 Z7 Hc
   have H:=H.call0 Hc
   clear Hc
   refine zU (yJ rfl (zE (zG (zD (yO (qc (xI (xI (qc (xI (yB ?_)))))))))))
   refine yV ?_
   exact⟨_,J,(H.sub Z9).up O⟩
  have Hc:=HL.wider H.fine Z3 Z7 Hc
  have H:=H.call0 Hc
  clear Hc
  refine zU (yJ rfl (zE (zG (zD (yO (qc (xI (xI (qc (xI (yB ?_)))))))))))
  refine yV ?_
  exact⟨_,J,(H.sub Z9).up O⟩
 have Hc:=HL.wider H.fine Z3 Z7 Hc
 have H:=H.call0 Hc
 clear Hc
 refine zU (yJ rfl (zE (zG (zD (yO (qc (xI (xI (qc (xI (yB ?_)))))))))))
 refine yV ?_
 exact⟨_,J,(H.sub Z9).up O⟩
theorem up1{a b k i C:Nat}(h:a≤b+i*C)(hk:k≤a+C):k≤b+(i+1)*C:=by rw[Nat.add_mul,Nat.one_mul];omega
theorem Sl.blk{s:St}{e:TypeId}{sz:Nat}{v:Value}{es:List (List Value)}(h:Sl s e sz v es)(h0:0<es.length):∃b off cap c,v=.slice (some ⟨b,off,none⟩) es.length cap∧s.get b=some (.cells c e)∧b<s.next∧∀k:Nat,k<es.length→qX sz (kw (off+(k:Int).toNat*sz) c)=some (es.getD k []):=by
 cases h with
 |nil c hv hl=>rw[hl]at h0;simp at h0
 |block b off cap c hv hg hb hcap hc=>exact⟨b,off,cap,c,hv,hg,hb,hc⟩
set_option maxHeartbeats 4000000 in
set_option maxRecDepth 10000 in
theorem valid06_ok{I:xP}(hI:xA I){s:St}(hf:Fine s)(hK:Kn s K)(hl:Sl s 38 8 v l)(hv:VecsK K l 16 1)(h0:0<l.length)(h12:l.length≤12)(hroom:s.next+200000000≤yC) :
  ∃v' s',xN Tryz.prog I 92 #[v] s v' s'∧(∃b,qQ s 200000000 (.bool b) v' s'):=by
 rw[Nat.add_comm]at hroom
 have H:=hf.hl
 obtain⟨b1,off1,cap,c1_,rfl,hg1,hb1,hcA⟩:=hl.blk h0
 refine zX 1 (hI 92 U U) Tryz.func92 J fb92 J ?_
 refine zE (zG (zD (yE (zE (zH J (yF ju J J J (xB J J (fun h=>?_) (fun h=>?_))))))))
 ·refine zI J (zO J (zO J (zO J (xS J (zI J (zO J (zO J (zO J (xS J (zD (yJ rfl ?_)))))))))))
  refine zE (zG (zD (yO (xI (yB (yV ?_))))))
  exact⟨_,J,(H.sub Z9).up O⟩
 refine zI J (zH J (yF ju J J J (qv J J (fun h=>?_) (fun h=>?_))))
 ·refine yG J J (zI J (zO J (zO J (zO J (xS J (zD (yJ rfl (zE (zG (zD (yO ?_)))))))))))
  refine xI (yB (yV ?_))
  exact⟨_,J,(H.sub Z9).up O⟩
 refine yG J J (zI J (zH J (zF J fc163 J (callE (numbers06_ok hI H.fine hK hl hv h0 h12 Z) (fun s9 Hc=>?_)))))
 have H:=H.call0 Hc
 clear Hc
 refine qt J (yG J J (zD (yL rfl (yN (zR (yE (zE (zG (zD (yR (xR (fun k F s1=>∃(G:FF) (i m:Nat),F=lay G [(0,.slice (some ⟨b1,off1,none⟩) l.length cap),(3,.int .i64 (i:Int))]∧HL [] s s1 [] m∧m≤30000+i*16000000∧i≤l.length∧k=l.length-i) ?_ l.length _ _ ?_)))))))))))
 rotate_left
 ·exact⟨_,0,_,yZ ⟨J,J,trivial⟩,H,by omega,by omega,by omega⟩
 rintro k F s1 ⟨G,i,m,rfl,H,hm,hi,rfl⟩
 refine yE (zE (zC J (zH J (yF ju J J J (xB J J (fun h=>?_) (fun h=>?_))))))
 ·refine zD (yJ rfl (yN (zR (yE (yR (yE ?_))))))
  obtain⟨p1,q1,n1a,a1a,m1a,c1a,n1b,a1b,m1b,c1b,n1c,a1c,m1c,c1c,n1d,a1d,m1d,c1d,e1,h1X,h1Y⟩:=hv.vec i O
  have h1X:=h1X.mono (zZ (D:=[]))
  have h1Y:=h1Y.mono (zZ (D:=[]))
  have hc1:=hcA i O
  rw[e1]at hc1
  refine yT [⟨0,0,.light,[]⟩,⟨1,0,.light,[]⟩,⟨2,3,.light,[]⟩,⟨3,7,.light,[]⟩,⟨4,0,.light,[3]⟩,⟨5,0,.light,[3]⟩,⟨6,32,.light,[3]⟩,⟨8,0,.light,[3]⟩,⟨9,0,.light,[3]⟩,⟨10,512,.light,[3]⟩,⟨7,112,.whole,[3]⟩,⟨11,2032,.whole,[3]⟩,⟨12,4095,.whole,[]⟩,⟨13,8191,.light,[]⟩] Z0 Z0 (zA J J (zH J ⟨J,(zA J J (zC J ⟨J,(zA J J (zP el139 J J O O ⟨J,(zQ J J qN J W8 O hc1 (zA J J (zH J ⟨J,(zA J J (zC J ⟨J,(zA J J (yH J J Y ⟨J,(zA J J (zH J ⟨J,(zA J J (zC J ⟨J,(zA J J (yH J J Y ⟨J,(zM J J (zF J fc165 J ?_))⟩))⟩))⟩))⟩))⟩))⟩)))⟩))⟩))⟩))
  obtain⟨_,s9,hr,j3,hj3,rfl,Hc⟩:=corner06_ok hI (Fine.pr H.fine (xW X9 qO)) W3 h0 h12 (x:=(i:Int)+1) O Z hv.len
  obtain⟨p3,q3,n3a,a3a,m3a,c3a,n3b,a3b,m3b,c3b,n3c,a3c,m3c,c3c,n3d,a3d,m3d,c3d,e3,h3X,h3Y⟩:=hv.vec j3 hj3
  have h3X:=h3X.mono (zZ (D:=[]))
  have h3Y:=h3Y.mono (zZ (D:=[]))
  rw[e3]at hr
  refine⟨_,_,hr,?_⟩
  clear hr
  have H:=H.call0 X7
  clear Hc
  refine zM J J (zF J fc165 J ?_)
  obtain⟨_,s9,hr,j4,hj4,rfl,Hc⟩:=corner06_ok hI (Fine.pr H.fine (xW X9 qO)) W3 h0 h12 (x:=(i:Int)+2) O Z hv.len
  obtain⟨p4,q4,n4a,a4a,m4a,c4a,n4b,a4b,m4b,c4b,n4c,a4c,m4c,c4c,n4d,a4d,m4d,c4d,e4,h4X,h4Y⟩:=hv.vec j4 hj4
  have h4X:=h4X.mono (zZ (D:=[]))
  have h4Y:=h4Y.mono (zZ (D:=[]))
  rw[e4]at hr
  refine⟨_,_,hr,?_⟩
  clear hr
  have H:=H.call0 X7
  clear Hc
  refine zM J J (zF J fc164 J ?_)
  obtain⟨_,s9,hr,z,rfl,Hc⟩:=side05_ok hI H.fine (kn0 hK H) h1X h1Y h3X h3Y h4X h4Y Z
  refine⟨_,_,hr,?_⟩
  clear hr
  have H:=H.call0 X8
  clear Hc
  refine zA J J (qh J J (fun h=>⟨J,?_⟩) (fun h=>⟨J,?_⟩))
  ·refine zU (yJ rfl (zE (zG (zD (yO (xI (qc (xI (kX (qc (xI ?_)))))))))))
   refine yB (yV ?_)
   exact⟨_,J,(H.sub Z9).up O⟩
  refine zU (yL rfl (yN (zR (zE (zG (zD (yR (xR (fun k F s1=>∃(G:FF) (i2 m2:Nat),F=lay G [(0,.slice (some ⟨b1,off1,none⟩) l.length cap),(3,.int .i64 (i:Int)),(4,.int .i64 (i2:Int))]∧HL [] s s1 [] m2∧m2≤m+140000+i2*1300000∧i2≤l.length∧k=l.length-i2) ?_ l.length _ _ ?_))))))))
  rotate_left
  ·exact⟨_,0,_,yZ ⟨J,J,J,trivial⟩,H,by omega,by omega,by omega⟩
  rintro k F s1 ⟨G,i2,m2,rfl,H,hm2,hi2,rfl⟩
  refine yE (zE (zC J (zH J (yF ju J J J (xB J J (fun h=>?_) (fun h=>?_))))))
  ·refine zD (yJ rfl (yN (zR (yE (yR (zE (zC J (zC J (qC J J Y (zH J (yF ju J J J ?_)))))))))))
   refine yH J J Y (zH J (yF ju J J J (kE J J O (zL J (zD ?_)))))
   generalize ((i2:Int)-(i:Int)+(l.length:Int)).tmod (l.length:Int)=gap
   obtain⟨p1,q1,n1a,a1a,m1a,c1a,n1b,a1b,m1b,c1b,n1c,a1c,m1c,c1c,n1d,a1d,m1d,c1d,e1,h1X,h1Y⟩:=hv.vec i O
   have h1X:=h1X.mono (zZ (D:=[]))
   have h1Y:=h1Y.mono (zZ (D:=[]))
   have hc1:=hcA i O
   rw[e1]at hc1
   obtain⟨p2,q2,n2a,a2a,m2a,c2a,n2b,a2b,m2b,c2b,n2c,a2c,m2c,c2c,n2d,a2d,m2d,c2d,e2,h2X,h2Y⟩:=hv.vec i2 O
   have h2X:=h2X.mono (zZ (D:=[]))
   have h2Y:=h2Y.mono (zZ (D:=[]))
   have hc2:=hcA i2 O
   rw[e2]at hc2
   refine yT [⟨0,0,.light,[]⟩,⟨1,1,.light,[]⟩,⟨2,3,.light,[]⟩,⟨3,7,.light,[]⟩,⟨4,7,.light,[]⟩,⟨5,23,.light,[]⟩,⟨6,55,.light,[]⟩,⟨7,127,.light,[]⟩,⟨8,255,.light,[]⟩,⟨9,511,.light,[]⟩,⟨10,1023,.light,[21]⟩,⟨11,1023,.light,[21]⟩,⟨12,4095,.light,[21]⟩,⟨13,8191,.light,[21]⟩,⟨14,1023,.light,[13,21]⟩,⟨15,1023,.light,[13,21]⟩,⟨16,33791,.light,[13,21]⟩,⟨18,1023,.light,[13]⟩,⟨19,1023,.light,[13]⟩,⟨20,787455,.light,[13]⟩,⟨21,1836031,.light,[13]⟩,⟨22,1023,.light,[13,21]⟩,⟨23,1023,.light,[13,21]⟩,⟨24,8389631,.light,[13,21]⟩,⟨17,115711,.whole,[13,21]⟩,⟨25,29606911,.whole,[13,21]⟩,⟨26,67108863,.whole,[]⟩,⟨27,134217727,.light,[]⟩] Z0 Z0 (zA J J (zC J ⟨J,(zA J J (qv J J (fun h=>⟨J,?_⟩) (fun h=>⟨J,?_⟩)))⟩))
   ·refine zA J J (zI J ⟨J,(zA J J (zC J ⟨J,(zA J J (zH J ⟨J,(zA J J (yF ju J J J ⟨J,(zA J J (qC J J Y ⟨J,(zA J J (xB J J (fun h=>⟨J,?_⟩) (fun h=>⟨J,?_⟩)))⟩))⟩))⟩))⟩))⟩)
    ·refine zA J J (yD J J ⟨J,(zA J J (zI J ⟨J,(zA J J (zH J ⟨J,(zA J J (zC J ⟨J,(zA J J (zP el139 J J O O ⟨J,(zQ J J qN J W8 O hc1 (zA J J (zH J ⟨J,(zA J J (zC J ⟨J,(zA J J (yH J J Y ⟨J,(zA J J (zH J ⟨J,(zA J J (zC J ⟨J,(zA J J (zP el139 J J O O ⟨J,?_⟩))⟩))⟩))⟩))⟩))⟩)))⟩))⟩))⟩))⟩))⟩)
     refine zQ J J qN J W8 O hc2 (zA J J (zH J ⟨J,(zA J J (zC J ⟨J,(zA J J (yH J J Y ⟨J,(zM J J (zF J fc165 J ?_))⟩))⟩))⟩))
     obtain⟨_,s9,hr,j3,hj3,rfl,Hc⟩:=corner06_ok hI (Fine.pr H.fine (xW X9 (xW X9 qO))) W3 h0 h12 (x:=(i:Int)+1) O Z hv.len
     obtain⟨p3,q3,n3a,a3a,m3a,c3a,n3b,a3b,m3b,c3b,n3c,a3c,m3c,c3c,n3d,a3d,m3d,c3d,e3,h3X,h3Y⟩:=hv.vec j3 hj3
     have h3X:=h3X.mono (zZ (D:=[]))
     have h3Y:=h3Y.mono (zZ (D:=[]))
     rw[e3]at hr
     refine⟨_,_,hr,?_⟩
     clear hr
     have H:=H.call0 X7
     clear Hc
     refine zM J J (zF J fc165 J ?_)
     obtain⟨_,s9,hr,j4,hj4,rfl,Hc⟩:=corner06_ok hI (Fine.pr H.fine (xW X9 (xW X9 qO))) W3 h0 h12 (x:=(i2:Int)+1) O Z hv.len
     obtain⟨p4,q4,n4a,a4a,m4a,c4a,n4b,a4b,m4b,c4b,n4c,a4c,m4c,c4c,n4d,a4d,m4d,c4d,e4,h4X,h4Y⟩:=hv.vec j4 hj4
     have h4X:=h4X.mono (zZ (D:=[]))
     have h4Y:=h4Y.mono (zZ (D:=[]))
     rw[e4]at hr
     refine⟨_,_,hr,?_⟩
     clear hr
     have H:=H.call0 X7
     clear Hc
     refine zM J J (zF J fc166 J ?_)
     obtain⟨_,s9,hr,bb,rfl,Hc⟩:=meets06_ok hI H.fine (kn0 hK H) h1X h1Y h3X h3Y h2X h2Y h4X h4Y Z
     refine⟨_,_,hr,?_⟩
     clear hr
     have H:=H.call0 X8
     clear Hc
     cases bb
     ·refine zA J J (yD J J ⟨J,(zU (yL rfl (yN (xF (zR (yA (zC J (yH J J Y (zL J (zD (xG ?_)))))))))))⟩)
      exact⟨l.length-(i2+1),by omega,_,i2+1,_,yZ ⟨J,J,J,trivial⟩,H,up1 hm2 (by(simp only[Nat.add_assoc];exact Nat.add_le_add_left U _)),by omega,J⟩
     refine zA J J (yD J J ⟨J,(zU (yJ rfl (zE (zG (zD (yO (qc (xI (kX (qc (qc ?_)))))))))))⟩)
     refine xI (kX (qc (xI (yB (yV ?_)))))
     exact⟨_,J,(H.sub Z9).up O⟩
    refine zA J J (yD J J ⟨J,(zA J J (zI J ⟨J,(zW J J (zW J J (zW J J (zW J J (zW J J (zW J J (zW J J (zW J J (zW J J (zW J J ?_))))))))))⟩))⟩)
    refine zW J J (zW J J (zW J J (zW J J (zW J J (zW J J (zW J J (zA J J (yY J ⟨J,(zU (yL rfl (yN (xF ?_))))⟩))))))))
    refine zR (yA (zC J (yH J J Y (zL J (zD (xG ?_))))))
    exact⟨l.length-(i2+1),by omega,_,i2+1,_,yZ ⟨J,J,J,trivial⟩,H,up1 hm2 (Nat.le_add_right _ _),by omega,J⟩
   refine zA J J (zI J ⟨J,(zW J J (zW J J (zW J J (zW J J (zW J J (zA J J (yY J ⟨J,(zA J J (zI J ⟨J,(zW J J (zW J J (zW J J (zW J J ?_))))⟩))⟩)))))))⟩)
   refine zW J J (zW J J (zW J J (zW J J (zW J J (zW J J (zW J J (zW J J (zW J J (zW J J (zW J J (zW J J ?_)))))))))))
   refine zW J J (zA J J (yY J ⟨J,(zU (yL rfl (yN (xF (zR (yA (zC J (yH J J Y (zL J (zD ?_))))))))))⟩))
   refine xG ?_
   exact⟨l.length-(i2+1),by omega,_,i2+1,_,yZ ⟨J,J,J,trivial⟩,H,up1 hm2 (Nat.le_add_right _ _),by omega,J⟩
  refine zD (yL rfl (ql (xU (xZ (xX (xF (zR (yA (zC J (yH J J Y (zL J ?_)))))))))))
  refine zD (xG ?_)
  exact⟨l.length-(i+1),by omega,_,i+1,_,yZ ⟨J,J,trivial⟩,H,by omega,by omega,J⟩
 refine zD (yL rfl (ql (xU (xZ (xX (zR (zE (zH J (zF J fc167 J ?_)))))))))
 obtain⟨_,s9,hr,qa,Da,na,aa,ma,ca,nb,ab,mb,cb,rfl,Hc,hA⟩:=area06_ok hI H.fine ((kn0 hK H)) (hl.kept H) (hv.mono (zZ (D:=[]))) h0 h12 Y7
 refine⟨_,_,hr,?_⟩
 clear hr
 have hKa:=(kn0 hK H).x Hc (D:=Da) (List.Subset.refl _)
 have H:=H.callE Hc
 clear Hc
 refine zF J fc80 J ?_
 obtain⟨_,s9,hr,rfl,Hc⟩:=sign04_ok hI H.fine hKa hA U Y7
 refine⟨_,_,hr,?_⟩
 clear hr
 have H:=H.call0 Hc
 clear Hc
 refine qv J J (fun h=>?_) (fun h=>?_)
 ·refine zK J (zD (yO (yB (yV ?_))))
  exact⟨_,J,(H.sub Z9).up O⟩
 refine zK J (zD (yO (yB (yV ?_))))
 exact⟨_,J,(H.sub Z9).up O⟩
end Go.Proofs.YtocnbjjmmgolfaaGreat
namespace Go.Proofs.YtocnbjjmmgolfaaGreat
open Go Go.M Go.Proofs.C14
theorem fb172:xK Tryz.f172 (Tryz.f172.body.getD .skip) 2=true:=by kernel_rfl
theorem bf77:buildF Tryz.prog 77=some ([.int .i64 0,.int .i64 0],[(0,1),(1,1)]):=by kernel_rfl
theorem fb34:xK Tryz.f34 (Tryz.f34.body.getD .skip) 2=true:=by kernel_rfl
theorem of77_0:wZ Tryz.prog 77 0=some 0:=by kernel_rfl
theorem of77_1:wZ Tryz.prog 77 1=some 1:=by kernel_rfl
theorem sh77:qw Tryz.prog 77=some (some 2):=by kernel_rfl
theorem sz77:kD Tryz.prog 77=some 2:=by kernel_rfl
theorem zf77:zeroF Tryz.prog 77=some [.int .i64 0,.int .i64 0]:=by kernel_rfl
theorem fb32:xK Tryz.f32 (Tryz.f32.body.getD .skip) 7=true:=by kernel_rfl
theorem sl69:q6 Tryz.prog 69=some (77,2,16,[.int .i64 0,.int .i64 0]):=by kernel_rfl
theorem sl78:q6 Tryz.prog 78=some (69,1,24,[.slice none 0 0]):=by kernel_rfl
def pt(p:Int×Int):List Value:=[.int .i64 p.1,.int .i64 p.2]
def Sml(n:Nat)(P:List (Int×Int)):Prop:=∀k,k<P.length→(P.getD k (0,0)).1.natAbs≤n∧(P.getD k (0,0)).2.natAbs≤n
abbrev SlP(s:St)(v:Value)(P:List (Int×Int)):Prop:=Sl s 77 2 v (P.map pt)
theorem slP{s:St}{b cap:Nat}{P:List (Int×Int)}(hg:s.get b=some (.cells (P.map pt).flatten 77))(hb:b<s.next)(hc:P.length≤cap / 2):SlP s (.slice (some ⟨b,0,none⟩) P.length cap) P:=by
 refine .block b 0 cap _ (by rw[List.length_map]) hg hb (by rw[List.length_map];exact hc) fun k hk=>flat_get (fun x hx=>?_) hk
 obtain⟨p,_,rfl⟩:=List.mem_map.mp hx
 rfl
theorem SlI.heap{s s':St}{v:Value}{l:List Int}(h:SlI s v l)(hh:s'.heap=s.heap)(hn:s.next≤s'.next):SlI s' v l:=by
 cases h with
 |nil c hv hl=>exact .nil c hv hl
 |block b off cap c e hv hg hb hc=>exact .block b off cap c e hv (by simp only[St.get,hh]at hg ⊢;exact hg) O hc
variable{x y:Int}
section
variable{P:Program}{I:xP}{F:FF}{s:St}{Q:FF→St→Prop}{d:Option Tmp}{ty:TypeId}{pos:String}{af:Array Edge}{g:Option (Nat×Bool)}
theorem op_neg'{t:TypeId}{x:Operand}{a:Int}(hx:yQ F x=.int .i64 a)(h1 : -1000000≤a)(h2:a≤1000000)(k:Q (upd F d (.int .i64 (-a))) s):OpW P I ⟨d,.unOp .neg t x,ty,pos,af,g⟩ F s Q:=by
 refine op_neg hx ?_
 rw[wrap_in ⟨by omega,by omega⟩,Int.zero_sub]
 exact k
end
set_option maxHeartbeats 4000000 in
set_option maxRecDepth 10000 in
theorem around13_ok{I:xP}(hI:xA I){s:St}{k n:Int}(hn:0<n)(hn2:n≤1000)(hk : -1000000≤k)(hk2:k≤1000000) :
  ∃v' s',xN Tryz.prog I 172 #[.int .i64 k,.int .i64 n] s v' s'∧(∃j:Nat,(j:Int)<n∧v'=.int .i64 (j:Int)∧s'=s):=by
 have h1:=Int.tmod_lt_of_pos k hn
 have h0 : -n<k.tmod n:=by
  by_cases hc:0≤k
  ·have:=Int.tmod_nonneg n hc;omega
  ·have:=Int.tmod_lt_of_pos (-k) hn;rw[Int.neg_tmod]at this;omega
 have h2:=Int.tmod_nonneg n (show 0≤k.tmod n+n by omega)
 have h3:=Int.tmod_lt_of_pos (k.tmod n+n) hn
 refine zX 2 (hI 172 U U) Tryz.func172 J fb172 J ?_
 refine zE (zG (zD (zE (zC J (zC J (kE J J O (zC J (yH J J Y (zC J (kE J J O (zL J ?_)))))))))))
 refine zD (yO (yB (yV ?_)))
 exact⟨((k.tmod n+n).tmod n).toNat,by omega,congrArg (Value.int .i64) (Int.toNat_of_nonneg h2).symm,J⟩
set_option maxHeartbeats 4000000 in
set_option maxRecDepth 10000 in
theorem turned14_ok{I:xP}(hI:xA I){s:St}(hf:Fine s){q:Int}(hx:x.natAbs≤8)(hy:y.natAbs≤8)(h0:0≤q)(h3:q≤3)(hroom:s.next+2≤yC) :
  ∃v' s',xN Tryz.prog I 34 #[.agg ⟨[.int .i64 x,.int .i64 y]⟩,.int .i64 q] s v' s'∧(∃x2 y2:Int,x2.natAbs≤8∧y2.natAbs≤8∧qQ s 2 (.agg ⟨[.int .i64 x2,.int .i64 y2]⟩) v' s'):=by
 have H:=hf.hl
 refine zX 2 (hI 34 U U) Tryz.func34 J fb34 J ?_
 refine zE (zY H J O (fun b2 s1 H=>?_))
 refine zS H zf77 O (fun b4 s2 H=>?_)
 refine zD (yE (zE (zG (zD (yR (xR (fun k F s1=>∃(G:FF) (i:Nat) (x2 y2:Int),F=lay G [(1,.int .i64 q),(2,.pointer (some ⟨b2,0,none⟩)),(4,.pointer (some ⟨b4,0,none⟩)),(5,.int .i64 (i:Int))]∧HL [] s s1 [(b4,.cells [.int .i64 0,.int .i64 0] 77),(b2,.cells [.int .i64 x2,.int .i64 y2] 77)] 2∧(i:Int)≤q∧k=q.toNat-i∧x2.natAbs≤8∧y2.natAbs≤8) ?_ q.toNat _ _ ?_))))))
 rotate_left
 ·exact⟨_,0,x,y,yZ ⟨J,J,J,J,trivial⟩,H,by omega,by omega,hx,hy⟩
 rintro k F s1 ⟨G,i,x2,y2,rfl,H,hi,rfl,hx2,hy2⟩
 refine yE (zE (zC J (zC J (xB J J (fun h=>?_) (fun h=>?_)))))
 ·refine zD (yJ rfl (yN (zR (yE (yR (yA (zB of77_1 J (zJ sh3 J H.own1 J (op_neg' J O O (zB of77_0 J (zJ sh3 J H.own1 J ?_)))))))))))
  refine xE (c:=[.int _ _,.int _ _]) bf77 J (qu (vs:=[.int _ _,.int _ _]) H sz77 J J J J J O (fun s3 H=>?_))
  refine zD (xF (zR (yA (zC J (yH J J Y (zL J (zD (xG ?_))))))))
  exact⟨q.toNat-(i+1),by omega,_,i+1,_,_,yZ ⟨J,J,J,J,trivial⟩,H,by omega,J,by omega,by omega⟩
 refine zD (yL rfl (ql (xU (xZ (xX (zR (zE (zN sh77 J H.own1 J (zT (vs:=[.int _ _,.int _ _]) H sz77 J J J J J O (fun s4 H=>?_))))))))))
 refine zD (yO (yB (yP sh77 J H.own0 J ?_)))
 exact⟨_,_,hx2,hy2,J,H.drop0.drop0⟩
set_option maxHeartbeats 4000000 in
set_option maxRecDepth 10000 in
theorem corners14_ok{I:xP}(hI:xA I){s:St}(hf:Fine s){w h bo ri to le:Int}(hroom:s.next+10≤yC) :
  ∃v' s',xN Tryz.prog I 32 #[.int .i64 w,.int .i64 h,.agg ⟨[.int .i64 x,.int .i64 y]⟩,.int .i64 bo,.int .i64 ri,.int .i64 to,.int .i64 le] s v' s'∧(∃b0 b1 b2 b3 b4:Nat,v'=.slice (some ⟨b4,0,none⟩) 4 8∧HL [] s s' [(b4,.cells [.slice (some ⟨b0,0,none⟩) 4 8,.slice (some ⟨b1,0,none⟩) 4 8,.slice (some ⟨b2,0,none⟩) 4 8,.slice (some ⟨b3,0,none⟩) 4 8] 69),(b3,.cells ([(0,le),(x,y),(to,h),(0,h)].map pt).flatten 77),(b2,.cells ([(x,y),(w,ri),(w,h),(to,h)].map pt).flatten 77),(b1,.cells ([(bo,0),(w,0),(w,ri),(x,y)].map pt).flatten 77),(b0,.cells ([(0,0),(bo,0),(x,y),(0,le)].map pt).flatten 77)] 10):=by
 have H:=hf.hl
 refine zX 7 (hI 32 U U) Tryz.func32 J fb32 J ?_
 refine zE (zY H J O (fun b9 s1 H=>?_))
 refine zG (zD (zE (zC J (xE (c:=[.int _ _,.int _ _]) bf77 J (zS H zf77 O (fun b15 s2 H=>?_))))))
 refine zT (vs:=[.int _ _,.int _ _]) H sz77 J J J J J O (fun s3 H=>?_)
 refine zD (zE (zC J (zC J (xE (c:=[.int _ _,.int _ _]) bf77 J (zS H zf77 O (fun b16 s4 H=>?_))))))
 refine zT (vs:=[.int _ _,.int _ _]) H sz77 J J J J J O (fun s5 H=>?_)
 refine zD (zE (zC J (zC J (xE (c:=[.int _ _,.int _ _]) bf77 J (zS H zf77 O (fun b17 s6 H=>?_))))))
 refine zT (vs:=[.int _ _,.int _ _]) H sz77 J J J J J O (fun s7 H=>?_)
 refine zD (zE (zC J (xE (c:=[.int _ _,.int _ _]) bf77 J (zS H zf77 O (fun b18 s8 H=>?_)))))
 refine zT (vs:=[.int _ _,.int _ _]) H sz77 J J J J J O (fun s9 H=>?_)
 refine zD (zE (xE (c:=[.int _ _,.int _ _]) bf77 J (zN sh77 J H.own3 J (zN sh77 J H.own4 J (zN sh77 J H.own0 J (yS (c:=[.int _ _,.int _ _,.int _ _,.int _ _,.int _ _,.int _ _,.int _ _,.int _ _]) H sl69 J J O (fun b33 s10 H=>?_)))))))
 refine zN sh77 J H.own4 J (zC J (xE (c:=[.int _ _,.int _ _]) bf77 J (zN sh77 J H.own3 J (zN sh77 J H.own5 J (yS (c:=[.int _ _,.int _ _,.int _ _,.int _ _,.int _ _,.int _ _,.int _ _,.int _ _]) H sl69 J J O (fun b39 s11 H=>?_))))))
 refine zN sh77 J H.own6 J (zN sh77 J H.own4 J (zC J (zC J (xE (c:=[.int _ _,.int _ _]) bf77 J (zN sh77 J H.own3 J (yS (c:=[.int _ _,.int _ _,.int _ _,.int _ _,.int _ _,.int _ _,.int _ _,.int _ _]) H sl69 J J O (fun b46 s12 H=>?_)))))))
 refine zN sh77 J H.own3 J (zN sh77 J H.own7 J (zN sh77 J H.own4 J (zC J (xE (c:=[.int _ _,.int _ _]) bf77 J (yS (c:=[.int _ _,.int _ _,.int _ _,.int _ _,.int _ _,.int _ _,.int _ _,.int _ _]) H sl69 J J O (fun b52 s13 H=>?_))))))
 refine yS (c:=[.slice _ _ _,.slice _ _ _,.slice _ _ _,.slice _ _ _]) H sl78 J J O (fun b53 s14 H=>?_)
 refine yU J (zD (yO (yB (yV ?_))))
 exact⟨b33,b39,b46,b52,b53,J,H.sub (by repeat (first|exact List.nil_sublist _|refine List.Sublist.cons_cons _ ?_))⟩
end Go.Proofs.YtocnbjjmmgolfaaGreat
namespace Go.Proofs.YtocnbjjmmgolfaaGreat
open Go Go.M Go.Proofs.C14
theorem el69:elemF Tryz.prog 69=some (true,0,2):=by kernel_rfl
theorem fb93:xK Tryz.f93 (Tryz.f93.body.getD .skip) 1=true:=by kernel_rfl
theorem fc41:xJ Tryz.prog 41=true:=by kernel_rfl
theorem of72_2:wZ Tryz.prog 72 2=some 2:=by kernel_rfl
theorem sh69:qw Tryz.prog 69=some (none):=by kernel_rfl
theorem un69:Tryz.prog.underlying 69=some (.slice 77):=by kernel_rfl
variable{s:St}{K:Kw}{l:List (List Value)}{M N:Nat}
theorem _root_.Go.M.HL.same{W:List Nat}{s0 s':St}{L L':Hp'}{n n':Nat}(H:HL W s0 s L n)(H':HL W s0 s' L' n'):HL W s0 {next:=s'.next,bar:=s.bar,prot:=s.prot,heap:=s'.heap} L' n':=by
 have e:({next:=s'.next,bar:=s.bar,prot:=s.prot,heap:=s'.heap}:St)=s':=by
  have h1:=H.bar.trans H'.bar.symm
  have h2:=H.prot.trans H'.prot.symm
  cases s'
  simp only at h1 h2
  rw[h1,h2]
 rw[e]
 exact H'
def PostVs(K:Kw)(s:St)(k n:Nat)(v:Value)(s':St):Prop:=∃D vs,HL [] s s' D k∧SlG D 38 8 v vs∧VecsK (KX K D) vs 16 1∧vs.length=n
theorem VecsK.snoc{c:List Value}{q r:Rat}(h:VecsK K l N M)(hc:VecK K c q r N M):VecsK K (l++[c]) N M:=⟨fun k hk=>by
 rw[List.getD_eq_getElem?_getD]
 by_cases hl:k<l.length
 ·rw[List.getElem?_append_left hl,←List.getD_eq_getElem?_getD];exact h.vec k hl
 ·have:k=l.length:=by rw[List.length_append,List.length_singleton]at hk;omega
  subst this
  rw[List.getElem?_append_right Z3,Nat.sub_self]
  exact⟨q,r,hc⟩⟩
theorem VecsK.all(h:VecsK K l N M):∀x∈l,x.length=8:=fun x hx=>by
 obtain⟨k,hk,rfl⟩:=List.mem_iff_getElem.mp hx
 have:=(h.len k hk).1
 rwa[List.getD_eq_getElem?_getD,List.getElem?_eq_getElem hk]at this
theorem wN(l:List (List Value))(c:List Value):(l++[c]).flatten=l.flatten++c:=by simp
theorem VecsK.nil:VecsK K [] N M:=⟨fun k hk=>by simp at hk⟩
set_option maxHeartbeats 4000000 in
set_option maxRecDepth 10000 in
theorem rim12_ok{I:xP}(hI:xA I)(hf:Fine s)(hK:Kn s K){x0 x1 va:Value}{rest:List Value}{P:List (Int×Int)}(hp:SlP s va P)(hs:Sml 16 P)(h12:P.length≤12)(hroom:s.next+40000≤yC) :
  ∃v' s',xN Tryz.prog I 93 #[.agg ⟨x0::x1::va::rest⟩] s v' s'∧PostVs K s 40000 P.length v' s':=by
 have H:=hf.hl
 obtain⟨a,len,cap,rfl,hn⟩:=hp.isSlice
 rw[List.length_map]at hn
 subst hn
 refine zX 1 (hI 93 U U) Tryz.func93 J fb93 J ?_
 refine zE (zY H J O (fun b1 s1 H=>?_))
 refine zG (zD (zE (zG (zD (yE (zE (zG (zD (yR (xR (fun k F s1=>∃(G:FF) (i m:Nat) (v:Value) (vs:List (List Value)) (Do Φ:Hp'),F=lay G [(1,.pointer (some ⟨b1,0,none⟩)),(3,v),(4,.int .i64 (i:Int))]∧HL [] s s1 ((b1,.cells (x0::x1::.slice a P.length cap::rest) 72)::(Do++Φ)) m∧m≤1+i*2400∧i≤P.length∧k=P.length-i∧Own 38 8 Do v vs.flatten vs.length∧VecsK (KX K Φ) vs 16 1∧vs.length=i) ?_ P.length _ _ ?_))))))))))
 rotate_left
 ·exact⟨_,0,_,.slice none 0 0,[],[],[],yZ ⟨J,J,J,trivial⟩,H,by omega,by omega,by omega,.nil,VecsK.nil,J⟩
 rintro k F s1 ⟨G,i,m,v,vs,Do,Φ,rfl,H,hm,hi,rfl,ho,hvs,hvi⟩
 refine yE (zE (zC J (zB of72_2 J (zJ sh69 J H.own0 J (yF un69 J J J (xB J J (fun h=>?_) (fun h=>?_)))))))
 ·refine zD (yJ rfl (yN (zR (yE (yR ?_)))))
  have hsi:=hs i O
  obtain⟨b9,off9,c9_,rfl,hg9,hb9,hc9⟩:=hp.at (i:=(i:Int)) (k:=i) rfl V4
  rw[jg (y:=(0,0)) O]at hc9
  generalize P.getD i (0,0)=pp at hsi hc9
  obtain⟨px,py⟩:=pp
  refine wT [⟨0,0,.light,[2,6,8,12]⟩,⟨1,0,.light,[8,12]⟩,⟨2,2,.light,[8,12]⟩,⟨3,0,.light,[2,8,12]⟩,⟨4,14,.light,[8,12]⟩,⟨5,30,.light,[8,12]⟩,⟨6,62,.light,[8,12]⟩,⟨7,0,.light,[2,6]⟩,⟨8,128,.light,[2,6]⟩,⟨9,0,.light,[2,6,8]⟩,⟨10,896,.light,[2,6]⟩,⟨11,1920,.light,[2,6]⟩,⟨12,3968,.light,[2,6]⟩,⟨13,8190,.whole,[]⟩,⟨14,16382,.whole,[]⟩,⟨15,32767,.whole,[]⟩,⟨16,65535,.light,[]⟩] Z0 Z0 (zA J J (xL ⟨J,(zA J J (zB of72_2 J ⟨J,(zV J J sh69 J H.own0 Y0 J (zA J J (zC J ⟨J,(zA J J (zP el69 J J O O ⟨J,(zA J J (zB of77_0 J ⟨J,(zV J J sh3 J (H.old hb9 hg9) O (lget_part (k:=0) hc9 U J) (zA J J (zB of72_2 J ⟨J,(zV J J sh69 J H.own0 Y0 J (zA J J (zC J ⟨J,(zA J J (zP el69 J J O O ⟨J,?_⟩))⟩)))⟩)))⟩))⟩))⟩)))⟩))⟩))
  refine zA J J (zB of77_1 J ⟨J,(zV J J sh3 J (H.old hb9 hg9) O (lget_part (k:=1) hc9 U J) (zM J J (zF J fc41 J ?_)))⟩)
  obtain⟨_,s9,hr,D9,n1,a1,m1,c1,n2,a2,m2,c2,n3,a3,m3,c3,n4,a4,m4,c4,rfl,Hc,hX,hY⟩:=of05_ok (K:=KX K Φ) hI H.fine (hK.x H Z8) hsi.1 hsi.2 (N:=16) U Y7
  refine⟨_,_,hr,?_⟩
  clear hr
  have Hc:=HL.wider H.fine Z3 Z7 Hc
  obtain⟨Φ,ku,kd,H⟩:=merge (K:=K) (Φ:=Φ) ((b1,.cells (x0::x1::.slice (some ⟨b9,off9,none⟩) P.length cap::rest) 72)::Do) H Hc
  replace hX:=hX.mono kd
  replace hY:=hY.mono kd
  replace hvs:=hvs.mono ku
  clear Hc ku kd
  simp only[List.cons_append,List.nil_append,List.append_assoc]at H
  refine zM J J (yS (c:=[.bool _,.slice _ _ _,.bool _,.slice _ _ _,.bool _,.slice _ _ _,.bool _,.slice _ _ _]) H.fine.hl sl139 J J (H.rm (k:=1) O) (fun b26 s2 Hc=>?_))
  have H:=H.call X8
  clear Hc
  have hgt:=H.own0
  have H0:=H
  have H:=HL.mid (A:=[_]) (B:=Do) (C:=Φ) H.drop0
  refine zM J J (qi (L:=_::Φ) (D:=Do) H ho sl139 ju J J J W0 U J J O O (fun b27 s27 H ho=>?_))
  have H:=HL.same H0 H
  refine zA J J (yU J ⟨J,(zU (xF (zR (yA (zC J (yH J J Y (zL J (zD (xG (⟨P.length-(i+1),by omega,_,i+1,_,_,vs++[_],_,Φ,yZ ⟨J,J,J,trivial⟩,(H.mid (A:=[_]) (B:=[_]) (C:=Φ)),by omega,by omega,J,by rw[wN,List.length_append];exact ho,hvs.snoc (VecK.of hX hY),by rw[List.length_append,hvi];rfl⟩))))))))))⟩)
 refine zD (yL rfl (ql (xU (xZ (xX (zR (zE (xL (xT (zD (yO ?_)))))))))))
 refine yB (yV ?_)
 have hiP:i=P.length:=by omega
 refine⟨Do++Φ,vs,H.drop0.up O,(Own.slG hvs.all ho).mono W1,hvs.mono (wW W2),by omega⟩
end Go.Proofs.YtocnbjjmmgolfaaGreat
