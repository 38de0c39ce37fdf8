/- The fractions of the program: sums, products, comparisons. -/
/- Pairs of fractions, fits and their lists as the program holds them. -/
import Derived.Test.YtocnbjjmmgolfaaGreatA30
import Derived.Test.YtocnbjjmmgolfaaGreatA11
namespace Go.Proofs.YtocnbjjmmgolfaaGreat
open Go Go.M Go.Proofs.C14
theorem fb30:xK Tryz.f30 (Tryz.f30.body.getD .skip) 2=true:=by kernel_rfl
theorem fc81:xJ Tryz.prog 81=true:=by kernel_rfl
theorem fc82:xJ Tryz.prog 82=true:=by kernel_rfl
theorem fc84:xJ Tryz.prog 84=true:=by kernel_rfl
theorem fc139:xJ Tryz.prog 139=true:=by kernel_rfl
theorem fc30:xJ Tryz.prog 30=true:=by kernel_rfl
theorem fb122:xK Tryz.f122 (Tryz.f122.body.getD .skip) 2=true:=by kernel_rfl
theorem fb175:xK Tryz.f175 (Tryz.f175.body.getD .skip) 2=true:=by kernel_rfl
theorem fb174:xK Tryz.f174 (Tryz.f174.body.getD .skip) 2=true:=by kernel_rfl
theorem fc175:xJ Tryz.prog 175=true:=by kernel_rfl
theorem fb106:xK Tryz.f106 (Tryz.f106.body.getD .skip) 2=true:=by kernel_rfl
theorem fc174:xJ Tryz.prog 174=true:=by kernel_rfl
theorem fb245:xK Tryz.f245 (Tryz.f245.body.getD .skip) 1=true:=by kernel_rfl
theorem fb269:xK Tryz.f269 (Tryz.f269.body.getD .skip) 2=true:=by kernel_rfl
theorem fc245:xJ Tryz.prog 245=true:=by kernel_rfl
theorem fb244:xK Tryz.f244 (Tryz.f244.body.getD .skip) 2=true:=by kernel_rfl
theorem fc269:xJ Tryz.prog 269=true:=by kernel_rfl
theorem fb196:xK Tryz.f196 (Tryz.f196.body.getD .skip) 1=true:=by kernel_rfl
theorem fc244:xJ Tryz.prog 244=true:=by kernel_rfl
theorem fb120:xK Tryz.f120 (Tryz.f120.body.getD .skip) 1=true:=by kernel_rfl
theorem fc196:xJ Tryz.prog 196=true:=by kernel_rfl
variable{a b q:Rat}{K:Kw}{I:xP}{s:St}{n1 n2 n3 n4:Bool}{a1 a2 a3 a4:Option Addr}{M1 M2 N1 N2 c1 c2 c3 c4 m1 m2 m3 m4:Nat}{va:Value}{la:List Int}{x:Int}
theorem den1_of{n a m c}(h:NumK K n a m c (dz q))(hm:m=0):q.den=1:=by
 have:=h.zero.mp hm
 unfold dz at this
 split at this
 ·assumption
 ·have:=q.den_pos;omega
theorem dz1(h:q.den=1):dz q=0:=by unfold dz;rw[if_pos h]
theorem num0_of{n a m c}(h:NumK K n a m c q.num)(hm:m=0):q=0:=Rat.num_eq_zero.mp (h.zero.mp hm)
theorem across(a b:Rat):(a*b).num=(Rat.divInt a.num (b.den:Int)).num*(Rat.divInt b.num (a.den:Int)).num∧((a*b).den:Int)=((Rat.divInt a.num (b.den:Int)).den:Int)*((Rat.divInt b.num (a.den:Int)).den:Int):=by
 rw[Rat.divInt_ofNat,Rat.divInt_ofNat]
 obtain⟨h1,h2⟩:=mul_across a b
 exact⟨h1,by rw[h2,Int.natCast_mul]⟩
set_option maxHeartbeats 4000000 in
set_option maxRecDepth 10000 in
theorem ratAdd_ok(hI:xA I)(hf:Fine s)(hK:Kn s K)(hx:RatK K n1 a1 m1 c1 n2 a2 m2 c2 a N1 M1)(hy:RatK K n3 a3 m3 c3 n4 a4 m4 c4 b N2 M2)(h1:N1*M2+N2*M1<1000000000000000000)(h2:M1*M2<1000000000000000000)(hroom:s.next+15000≤yC) :
  ∃v' s',xN Tryz.prog I 30 #[.agg ⟨[.bool n1,.slice a1 m1 c1,.bool n2,.slice a2 m2 c2]⟩,.agg ⟨[.bool n3,.slice a3 m3 c3,.bool n4,.slice a4 m4 c4]⟩] s v' s'∧PostQ K s 15000 (a+b) (N1*M2+N2*M1) (M1*M2) v' s':=by
 have H:=hf.hl
 obtain⟨l1,l2,l3,l4,l5,l6,l7,l8,l9,l10⟩:=add_facts hx.2.2 hy.2.2 h1 h2
 have hbd:=hx.2.2.add hy.2.2
 have e1:=Nat.le_mul_of_pos_right N1 hy.2.2.m1
 have e2:=Nat.le_mul_of_pos_right N2 hx.2.2.m1
 have e3:=Nat.le_mul_of_pos_right M1 hy.2.2.m1
 have e4:=Nat.le_mul_of_pos_left M2 hx.2.2.m1
 have hx:=hx.mono (zZ (D:=[]))
 have hy:=hy.mono (zZ (D:=[]))
 have hx1:=hx.pp
 have hx2:=hx.qq
 have hy1:=hy.pp
 have hy2:=hy.qq
 refine zX 2 (hI 30 U U) Tryz.func30 J fb30 J ?_
 refine zY H J O (fun b2 s1 H=>?_)
 refine zY H J O (fun b3 s2 H=>?_)
 refine zS H wB O (fun b4 s3 H=>?_)
 refine zB kI J (zB yM J (zJ xQ J H.own2 J (yF xV J J J (qh J J (fun h=>?_) (fun h=>?_)))))
 ·refine zI J (zB kI J (zB yM J (zJ xQ J H.own1 J (yF xV J J J (qh J J (fun h=>?_) (fun h=>?_))))))
  ·refine yD J J (zK J (zB qL J (zN xO J H.own2 J (zB qL J (zN xO J H.own1 J (zF J fc81 J (qy (addP_ok hI H.fine (kn3 hK H) hx1 hy1 Z1 Z1 Z) (fun s9 D9 n1 a1 m1 c1 Hc h101=>?_))))))))
   obtain⟨Φ,ku,kd,H⟩:=qk (K:=K) H Hc
   try replace hx:=hx.mono ku
   try replace hx1:=hx1.mono ku
   try replace hx2:=hx2.mono ku
   try replace hy:=hy.mono ku
   try replace hy1:=hy1.mono ku
   try replace hy2:=hy2.mono ku
   replace h101:=h101.mono kd
   clear Hc ku kd
   refine xE (c:=[.bool _,.slice _ _ _,.bool _,.slice _ _ _]) bf34 J (zT (vs:=[.bool _,.slice _ _ _,.bool _,.slice _ _ _]) H kb J J J J J O (fun s4 H=>?_))
   refine en ?_
   refine yP xC J H.own0 J ?_
   have da:=den1_of hx2 O
   have db:=den1_of hy2 O
   have hai:=add_int da db
   refine⟨Φ,_,_,_,_,_,_,_,_,J,(frz3 H).up O,RatK.mk (h101.eq hai.1.symm) ?_ hbd⟩
   rw[dz1 hai.2]
   exact NumK.nil
  refine yD J J (zK J (zB qL J (zB yM J (zJ xQ J H.own2 J (yF xV J J J (qh J J (fun h=>?_) (fun h=>?_)))))))
  ·refine zK J (zN xC J H.own1 J (zT (vs:=[.bool _,.slice _ _ _,.bool _,.slice _ _ _]) H kb J J J J J O (fun s5 H=>?_)))
   refine en ?_
   refine yP xC J H.own0 J ?_
   have hz:=num0_of hx1 O
   subst hz
   rw[Rat.zero_add]at hbd ⊢
   exact⟨[],_,_,_,_,_,_,_,_,J,(frz3 H).up O,hy.bd hbd⟩
  refine zK J (zB qL J (zB yM J (zJ xQ J H.own1 J (yF xV J J J (qh J J (fun h=>?_) (fun h=>?_))))))
  ·refine zK J (zN xC J H.own2 J (zT (vs:=[.bool _,.slice _ _ _,.bool _,.slice _ _ _]) H kb J J J J J O (fun s6 H=>?_)))
   refine en ?_
   refine yP xC J H.own0 J ?_
   have hz:=num0_of hy1 O
   subst hz
   rw[Rat.add_zero]at hbd ⊢
   exact⟨[],_,_,_,_,_,_,_,_,J,(frz3 H).up O,hx.bd hbd⟩
  refine zK J (yT [⟨0,0,.light,[2]⟩,⟨2,0,.light,[0]⟩,⟨1,1,.fresh,[2]⟩,⟨3,7,.fresh,[]⟩,⟨4,0,.fresh,[0,2]⟩,⟨5,0,.fresh,[0,2]⟩,⟨6,63,.whole,[]⟩,⟨7,127,.whole,[]⟩] Z0 Z0 (zQ J J xC J H.own2 Y2 J (zQ J J xC J H.own1 Y1 J (yK J J (zF J fc82 J (qy (jm hI Y9 X3 hx Z) (fun s9 D9 n2 a2 m2 c2 Hc h102=>?_)))))))
  have Hc:=HL.wider H.fine H.fine.wfb Z7 Hc
  obtain⟨Φ,ku,kd,H⟩:=qk (K:=K) H Hc
  try replace hx:=hx.mono ku
  try replace hx1:=hx1.mono ku
  try replace hy:=hy.mono ku
  try replace hy1:=hy1.mono ku
  replace h102:=h102.mono kd
  clear Hc ku kd
  refine yK J J (zF J fc82 J (qy (jm hI Y9 X3 hy Z) (fun s9 D9 n3 a3 m3 c3 Hc h103=>?_)))
  have Hc:=HL.wider H.fine H.fine.wfb Z7 Hc
  obtain⟨Φ,ku,kd,H⟩:=qk (K:=K) H Hc
  try replace hx:=hx.mono ku
  try replace hx1:=hx1.mono ku
  try replace hy:=hy.mono ku
  try replace hy1:=hy1.mono ku
  try replace h102:=h102.mono ku
  replace h103:=h103.mono kd
  clear Hc ku kd
  refine yK J J (zS (Fine.fresh H.fine).hl qU (H.rm (k:=1) O) (fun b5 s7 Hc=>?_))
  have H:=H.call X6
  clear Hc
  refine yK J J (zS (Fine.fresh H.fine).hl qU (H.rm (k:=1) O) (fun b6 s8 Hc=>?_))
  have H:=H.call X6
  clear Hc
  refine kT (vs:=[.bool _,.slice _ _ _]) (fr:=[]) H J J qI J J J J J J Z2 O (fun s9 H=>?_)
  refine xM (vs:=[.bool _,.slice _ _ _]) (fr:=[]) H J J qI J J J J J J Z2 O (fun s10 H=>?_)
  refine zU (yT [⟨0,0,.light,[2,5,6,9,10]⟩,⟨1,1,.light,[2,5,6,9,10]⟩,⟨2,0,.light,[1,5,6,9,10]⟩,⟨4,0,.light,[1,2,6,9,10]⟩,⟨5,16,.light,[1,2,6,9,10]⟩,⟨6,0,.light,[1,2,5,9,10]⟩,⟨9,0,.light,[1,2,5,6,10]⟩,⟨10,0,.light,[1,2,5,6,9]⟩,⟨3,7,.whole,[5,6,9,10]⟩,⟨7,127,.whole,[9,10]⟩,⟨8,255,.whole,[9,10]⟩,⟨11,2047,.whole,[]⟩,⟨12,4095,.whole,[]⟩,⟨13,8191,.whole,[]⟩] Z0 Z0 (zA J J (zB qL J ⟨J,(zQ J J xO J H.own4 Y4 J (zQ J J xO J H.own0 Y0 J (zA J J (zB qL J ⟨J,(zQ J J xO J H.own3 Y3 J (zQ J J xO J H.own1 Y1 J (zQ J J xO J H.own1 Y1 J (zQ J J xO J H.own0 Y0 J (zM J J (zF J fc84 J (qy (jD hI (Fine.pr H.fine (xW H.lt3 (xW H.lt1 (xW H.lt1 (xW H.lt0 qO))))) X5 hx1 h103 Z1 Z1 Z) (fun s9 D9 n4 a4 m4 c4 Hc h104=>?_))))))))⟩))))⟩)))
  have Hc:=HL.wider H.fine Z3 Z5 Hc
  obtain⟨Φ,ku,kd,H⟩:=ka (K:=K) H Hc
  try replace hx:=hx.mono ku
  try replace hx1:=hx1.mono ku
  try replace hy:=hy.mono ku
  try replace hy1:=hy1.mono ku
  try replace h102:=h102.mono ku
  try replace h103:=h103.mono ku
  replace h104:=h104.mono kd
  clear Hc ku kd
  refine zM J J (zF J fc84 J (qy (jD hI (Fine.pr H.fine (xW H.lt1 (xW H.lt0 qO))) X5 hy1 h102 Z1 Z1 Z) (fun s9 D9 n5 a5 m5 c5 Hc h105=>?_)))
  have Hc:=HL.wider H.fine Z3 Z5 Hc
  obtain⟨Φ,ku,kd,H⟩:=ka (K:=K) H Hc
  try replace hx:=hx.mono ku
  try replace hx1:=hx1.mono ku
  try replace hy:=hy.mono ku
  try replace hy1:=hy1.mono ku
  try replace h102:=h102.mono ku
  try replace h103:=h103.mono ku
  try replace h104:=h104.mono ku
  replace h105:=h105.mono kd
  clear Hc ku kd
  refine zM J J (zF J fc81 J (qy (addP_ok hI (Fine.pr H.fine (xW H.lt1 (xW H.lt0 qO))) X5 h104 h105 Z1 Z1 Z) (fun s9 D9 n6 a6 m6 c6 Hc h106=>?_)))
  have Hc:=HL.wider H.fine Z3 Z5 Hc
  obtain⟨Φ,ku,kd,H⟩:=ka (K:=K) H Hc
  try replace hx:=hx.mono ku
  try replace hx1:=hx1.mono ku
  try replace hy:=hy.mono ku
  try replace hy1:=hy1.mono ku
  try replace h102:=h102.mono ku
  try replace h103:=h103.mono ku
  replace h106:=h106.mono kd
  clear Hc ku kd
  refine zM J J (zF J fc84 J (qy (jD hI H.fine (kn5 hK H) h102 h103 Z1 Z1 Z) (fun s9 D9 n7 a7 m7 c7 Hc h107=>?_)))
  have Hc:=HL.wider H.fine Z3 Z7 Hc
  obtain⟨Φ,ku,kd,H⟩:=ka (K:=K) H Hc
  try replace hx:=hx.mono ku
  try replace hx1:=hx1.mono ku
  try replace hy:=hy.mono ku
  try replace hy1:=hy1.mono ku
  try replace h106:=h106.mono ku
  replace h107:=h107.mono kd
  clear Hc ku kd
  refine zM J J (zF J fc83 J (qe (makeP_ok hI H.fine (kn5 hK H) h106 h107 Z1 Z1 Z1 Z1 Z1 Z) (fun s9 D9 n8 a8 m8 c8 n8d a8d m8d c8d Hc h108=>?_)))
  have Hc:=HL.wider H.fine Z3 Z7 Hc
  obtain⟨Φ,ku,kd,H⟩:=ka (K:=K) H Hc
  try replace hx:=hx.mono ku
  try replace hx1:=hx1.mono ku
  try replace hy:=hy.mono ku
  try replace hy1:=hy1.mono ku
  replace h108:=h108.mono kd
  clear Hc ku kd
  refine ke (vs:=[.bool _,.slice _ _ _,.bool _,.slice _ _ _]) (fr:=[]) H J J kb J J J J J J Z2 O (fun s11 H=>?_)
  refine zU (en ?_)
  refine yP xC J H.own2 J ?_
  rw[l10]at h108
  exact⟨Φ,_,_,_,_,_,_,_,_,J,(frz5 H).up O,h108⟩
 refine zI J (yY J (zK J (zB qL J (zB yM J (zJ xQ J H.own2 J (yF xV J J J (qh J J (fun h=>?_) (fun h=>?_))))))))
 ·refine zK J (zN xC J H.own1 J (zT (vs:=[.bool _,.slice _ _ _,.bool _,.slice _ _ _]) H kb J J J J J O (fun s12 H=>?_)))
  refine en ?_
  refine yP xC J H.own0 J ?_
  have hz:=num0_of hx1 O
  subst hz
  rw[Rat.zero_add]at hbd ⊢
  exact⟨[],_,_,_,_,_,_,_,_,J,(frz3 H).up O,hy.bd hbd⟩
 refine zK J (zB qL J (zB yM J (zJ xQ J H.own1 J (yF xV J J J (qh J J (fun h=>?_) (fun h=>?_))))))
 ·refine zK J (zN xC J H.own2 J (zT (vs:=[.bool _,.slice _ _ _,.bool _,.slice _ _ _]) H kb J J J J J O (fun s13 H=>?_)))
  refine en ?_
  refine yP xC J H.own0 J ?_
  have hz:=num0_of hy1 O
  subst hz
  rw[Rat.add_zero]at hbd ⊢
  exact⟨[],_,_,_,_,_,_,_,_,J,(frz3 H).up O,hx.bd hbd⟩
 refine zK J (yT [⟨0,0,.light,[2]⟩,⟨2,0,.light,[0]⟩,⟨1,1,.fresh,[2]⟩,⟨3,7,.fresh,[]⟩,⟨4,0,.fresh,[0,2]⟩,⟨5,0,.fresh,[0,2]⟩,⟨6,63,.whole,[]⟩,⟨7,127,.whole,[]⟩] Z0 Z0 (zQ J J xC J H.own2 Y2 J (zQ J J xC J H.own1 Y1 J (yK J J (zF J fc82 J (qy (jm hI Y9 X3 hx Z) (fun s9 D9 n9 a9 m9 c9 Hc h109=>?_)))))))
 have Hc:=HL.wider H.fine H.fine.wfb Z7 Hc
 obtain⟨Φ,ku,kd,H⟩:=qk (K:=K) H Hc
 try replace hx1:=hx1.mono ku
 try replace hy:=hy.mono ku
 try replace hy1:=hy1.mono ku
 replace h109:=h109.mono kd
 clear Hc ku kd
 refine yK J J (zF J fc82 J (qy (jm hI Y9 X3 hy Z) (fun s9 D9 n10 a10 m10 c10 Hc h110=>?_)))
 have Hc:=HL.wider H.fine H.fine.wfb Z7 Hc
 obtain⟨Φ,ku,kd,H⟩:=qk (K:=K) H Hc
 try replace hx1:=hx1.mono ku
 try replace hy1:=hy1.mono ku
 try replace h109:=h109.mono ku
 replace h110:=h110.mono kd
 clear Hc ku kd
 refine yK J J (zS (Fine.fresh H.fine).hl qU (H.rm (k:=1) O) (fun b5 s14 Hc=>?_))
 have H:=H.call X6
 clear Hc
 refine yK J J (zS (Fine.fresh H.fine).hl qU (H.rm (k:=1) O) (fun b6 s15 Hc=>?_))
 have H:=H.call X6
 clear Hc
 refine kT (vs:=[.bool _,.slice _ _ _]) (fr:=[]) H J J qI J J J J J J Z2 O (fun s16 H=>?_)
 refine xM (vs:=[.bool _,.slice _ _ _]) (fr:=[]) H J J qI J J J J J J Z2 O (fun s17 H=>?_)
 refine zU (yT [⟨0,0,.light,[2,5,6,9,10]⟩,⟨1,1,.light,[2,5,6,9,10]⟩,⟨2,0,.light,[1,5,6,9,10]⟩,⟨4,0,.light,[1,2,6,9,10]⟩,⟨5,16,.light,[1,2,6,9,10]⟩,⟨6,0,.light,[1,2,5,9,10]⟩,⟨9,0,.light,[1,2,5,6,10]⟩,⟨10,0,.light,[1,2,5,6,9]⟩,⟨3,7,.whole,[5,6,9,10]⟩,⟨7,127,.whole,[9,10]⟩,⟨8,255,.whole,[9,10]⟩,⟨11,2047,.whole,[]⟩,⟨12,4095,.whole,[]⟩,⟨13,8191,.whole,[]⟩] Z0 Z0 (zA J J (zB qL J ⟨J,(zQ J J xO J H.own4 Y4 J (zQ J J xO J H.own0 Y0 J (zA J J (zB qL J ⟨J,(zQ J J xO J H.own3 Y3 J (zQ J J xO J H.own1 Y1 J (zQ J J xO J H.own1 Y1 J (zQ J J xO J H.own0 Y0 J (zM J J (zF J fc84 J (qy (jD hI (Fine.pr H.fine (xW H.lt3 (xW H.lt1 (xW H.lt1 (xW H.lt0 qO))))) X5 hx1 h110 Z1 Z1 Z) (fun s9 D9 n11 a11 m11 c11 Hc h111=>?_))))))))⟩))))⟩)))
 have Hc:=HL.wider H.fine Z3 Z5 Hc
 obtain⟨Φ,ku,kd,H⟩:=ka (K:=K) H Hc
 try replace hy1:=hy1.mono ku
 try replace h109:=h109.mono ku
 try replace h110:=h110.mono ku
 replace h111:=h111.mono kd
 clear Hc ku kd
 refine zM J J (zF J fc84 J (qy (jD hI (Fine.pr H.fine (xW H.lt1 (xW H.lt0 qO))) X5 hy1 h109 Z1 Z1 Z) (fun s9 D9 n12 a12 m12 c12 Hc h112=>?_)))
 have Hc:=HL.wider H.fine Z3 Z5 Hc
 obtain⟨Φ,ku,kd,H⟩:=ka (K:=K) H Hc
 try replace h109:=h109.mono ku
 try replace h110:=h110.mono ku
 try replace h111:=h111.mono ku
 replace h112:=h112.mono kd
 clear Hc ku kd
 refine zM J J (zF J fc81 J (qy (addP_ok hI (Fine.pr H.fine (xW H.lt1 (xW H.lt0 qO))) X5 h111 h112 Z1 Z1 Z) (fun s9 D9 n13 a13 m13 c13 Hc h113=>?_)))
 have Hc:=HL.wider H.fine Z3 Z5 Hc
 obtain⟨Φ,ku,kd,H⟩:=ka (K:=K) H Hc
 try replace h109:=h109.mono ku
 try replace h110:=h110.mono ku
 replace h113:=h113.mono kd
 clear Hc ku kd
 refine zM J J (zF J fc84 J (qy (jD hI H.fine (kn5 hK H) h109 h110 Z1 Z1 Z) (fun s9 D9 n14 a14 m14 c14 Hc h114=>?_)))
 have Hc:=HL.wider H.fine Z3 Z7 Hc
 obtain⟨Φ,ku,kd,H⟩:=ka (K:=K) H Hc
 try replace h113:=h113.mono ku
 replace h114:=h114.mono kd
 clear Hc ku kd
 refine zM J J (zF J fc83 J (qe (makeP_ok hI H.fine (kn5 hK H) h113 h114 Z1 Z1 Z1 Z1 Z1 Z) (fun s9 D9 n15 a15 m15 c15 n15d a15d m15d c15d Hc h115=>?_)))
 have Hc:=HL.wider H.fine Z3 Z7 Hc
 obtain⟨Φ,ku,kd,H⟩:=ka (K:=K) H Hc
 replace h115:=h115.mono kd
 clear Hc ku kd
 refine ke (vs:=[.bool _,.slice _ _ _,.bool _,.slice _ _ _]) (fr:=[]) H J J kb J J J J J J Z2 O (fun s18 H=>?_)
 refine zU (en ?_)
 refine yP xC J H.own2 J ?_
 rw[l10]at h115
 exact⟨Φ,_,_,_,_,_,_,_,_,J,(frz5 H).up O,h115⟩
set_option maxHeartbeats 4000000 in
set_option maxRecDepth 10000 in
theorem ratMul_ok(hI:xA I)(hf:Fine s)(hK:Kn s K)(hx:RatK K n1 a1 m1 c1 n2 a2 m2 c2 a N1 M1)(hy:RatK K n3 a3 m3 c3 n4 a4 m4 c4 b N2 M2)(h1:N1*N2<1000000000000000000)(h2:M1*M2<1000000000000000000)(h3:N1<1000000000000000000)(h4:N2<1000000000000000000)(hroom:s.next+5000≤yC) :
  ∃v' s',xN Tryz.prog I 122 #[.agg ⟨[.bool n1,.slice a1 m1 c1,.bool n2,.slice a2 m2 c2]⟩,.agg ⟨[.bool n3,.slice a3 m3 c3,.bool n4,.slice a4 m4 c4]⟩] s v' s'∧PostQ K s 5000 (a*b) (N1*N2) (M1*M2) v' s':=by
 have H:=hf.hl
 obtain⟨l1,l2,l3,l4,l7,l8,l9,l10⟩:=mul_facts hx.2.2 hy.2.2 h1 h2 h3 h4
 have hbd:=hx.2.2.mul hy.2.2
 have⟨ac1,ac2⟩:=across a b
 have hM1:=hx.2.2.m1
 have hM2:=hy.2.2.m1
 have e3:=Nat.le_mul_of_pos_right M1 hM2
 have e4:=Nat.le_mul_of_pos_left M2 hM1
 have da:((a.den:Int)).natAbs≤M1:=by rw[den_nat];exact hx.2.2.2
 have db:((b.den:Int)).natAbs≤M2:=by rw[den_nat];exact hy.2.2.2
 have na:=hx.2.2.1
 have nb:=hy.2.2.1
 have m1lt:M1<1000000000000000000:=by omega
 have m2lt:M2<1000000000000000000:=by omega
 have pa:0<(a.den:Int):=by have:=a.den_pos;omega
 have pb:0<(b.den:Int):=by have:=b.den_pos;omega
 have bX:=divInt_bd (p:=a.num) pb na db
 have bY:=divInt_bd (p:=b.num) pa nb da
 have lX:(dg (Rat.divInt a.num (b.den:Int)).num.natAbs).length≤1000:=lenb bX.1 h3
 have lY:(dg (Rat.divInt b.num (a.den:Int)).num.natAbs).length≤1000:=lenb bY.1 h4
 have lX2:(dg (((Rat.divInt a.num (b.den:Int)).den:Int)).natAbs).length≤1000:=by rw[den_nat];exact lenb bX.2 m2lt
 have lY2:(dg (((Rat.divInt b.num (a.den:Int)).den:Int)).natAbs).length≤1000:=by rw[den_nat];exact lenb bY.2 m1lt
 have hx:=hx.mono (zZ (D:=[]))
 have hy:=hy.mono (zZ (D:=[]))
 have hx1:=hx.pp
 have hx2:=hx.qq
 have hy1:=hy.pp
 have hy2:=hy.qq
 refine zX 2 (hI 122 U U) Tryz.func122 J fb122 J ?_
 refine zY H J O (fun b2 s1 H=>?_)
 refine zY H J O (fun b3 s2 H=>?_)
 refine zS H wB O (fun b4 s3 H=>?_)
 refine zB qL J (zB yM J (zJ xQ J H.own2 J (yF xV J J J (qh J J (fun h=>?_) (fun h=>?_)))))
 ·refine zI J (xS J (xE (c:=[.bool _,.slice _ _ _,.bool _,.slice _ _ _]) bf34 J (zT (vs:=[.bool _,.slice _ _ _,.bool _,.slice _ _ _]) H kb J J J J J O (fun s4 H=>?_))))
  refine en ?_
  refine yP xC J H.own0 J ?_
  have hz:a*b=0:=by rw[Rat.mul_eq_zero];first|(exact .inl (num0_of hx1 O))|(exact .inr (num0_of hy1 O))
  rw[hz]
  exact⟨[],_,_,_,_,_,_,_,_,J,(frz3 H).up O,RatK.nil.le O (Nat.mul_pos hM1 hM2)⟩
 refine zI J (zB qL J (zB yM J (zJ xQ J H.own1 J (yF xV J J J (qh J J (fun h=>?_) (fun h=>?_))))))
 ·refine yG J J (xE (c:=[.bool _,.slice _ _ _,.bool _,.slice _ _ _]) bf34 J (zT (vs:=[.bool _,.slice _ _ _,.bool _,.slice _ _ _]) H kb J J J J J O (fun s5 H=>?_)))
  refine en ?_
  refine yP xC J H.own0 J ?_
  have hz:a*b=0:=by rw[Rat.mul_eq_zero];first|(exact .inl (num0_of hx1 O))|(exact .inr (num0_of hy1 O))
  rw[hz]
  exact⟨[],_,_,_,_,_,_,_,_,J,(frz3 H).up O,RatK.nil.le O (Nat.mul_pos hM1 hM2)⟩
 refine yG J J (zB kI J (zB yM J (zJ xQ J H.own2 J (yF xV J J J (qh J J (fun h=>?_) (fun h=>?_))))))
 ·refine zI J (zB kI J (zB yM J (zJ xQ J H.own1 J (yF xV J J J (qh J J (fun h=>?_) (fun h=>?_))))))
  ·refine yD J J (zB qL J (zN xO J H.own2 J (zB qL J (zN xO J H.own1 J (zF J fc84 J (qy (jD hI H.fine (kn3 hK H) hx1 hy1 Z1 Z1 Z) (fun s9 D9 n1 a1 m1 c1 Hc h101=>?_)))))))
   obtain⟨Φ,ku,kd,H⟩:=qk (K:=K) H Hc
   try replace hx:=hx.mono ku
   try replace hx1:=hx1.mono ku
   try replace hx2:=hx2.mono ku
   try replace hy:=hy.mono ku
   try replace hy1:=hy1.mono ku
   try replace hy2:=hy2.mono ku
   replace h101:=h101.mono kd
   clear Hc ku kd
   refine xE (c:=[.bool _,.slice _ _ _,.bool _,.slice _ _ _]) bf34 J (zT (vs:=[.bool _,.slice _ _ _,.bool _,.slice _ _ _]) H kb J J J J J O (fun s6 H=>?_))
   refine en ?_
   refine yP xC J H.own0 J ?_
   have da1:=den1_of hx2 O
   have db1:=den1_of hy2 O
   have hai:=mul_int da1 db1
   refine⟨Φ,_,_,_,_,_,_,_,_,J,(frz3 H).up O,RatK.mk (h101.eq hai.1.symm) ?_ hbd⟩
   rw[dz1 hai.2]
   exact NumK.nil
  refine yD J J (yT [⟨0,0,.light,[2,6,7]⟩,⟨1,1,.light,[2,6,7]⟩,⟨2,0,.light,[1,6,7]⟩,⟨5,0,.light,[1,2,7]⟩,⟨6,32,.light,[1,2,7]⟩,⟨7,0,.light,[1,2,6]⟩,⟨3,4,.fresh,[1,6,7]⟩,⟨4,15,.fresh,[6,7]⟩,⟨8,159,.fresh,[6]⟩,⟨9,511,.fresh,[]⟩,⟨10,0,.fresh,[1,2,6,7]⟩,⟨11,0,.fresh,[1,2,6,7]⟩,⟨12,4095,.whole,[]⟩,⟨13,8191,.whole,[]⟩] Z0 Z0 (zA J J (zB qL J ⟨J,(zQ J J xO J H.own2 Y2 J (zQ J J xC J H.own1 Y1 J (zA J J (zB qL J ⟨J,(zQ J J xO J H.own1 Y1 J (zQ J J xC J H.own2 Y2 J (yK J J (zF J fc82 J (qy (jm hI Y9 X3 hy Z) (fun s9 D9 n2 a2 m2 c2 Hc h102=>?_))))))⟩))))⟩)))
  have Hc:=HL.wider H.fine H.fine.wfb Z7 Hc
  obtain⟨Φ,ku,kd,H⟩:=qk (K:=K) H Hc
  try replace hx:=hx.mono ku
  try replace hx1:=hx1.mono ku
  try replace hy:=hy.mono ku
  try replace hy1:=hy1.mono ku
  replace h102:=h102.mono kd
  clear Hc ku kd
  refine yK J J (zF J fc83 J (qe (makeP_ok hI Y9 X3 hx1 h102 Z1 Z1 Z1 Z1 Z1 Z) (fun s9 D9 n3 a3 m3 c3 n3d a3d m3d c3d Hc h103=>?_)))
  have Hc:=HL.wider H.fine H.fine.wfb Z7 Hc
  obtain⟨Φ,ku,kd,H⟩:=qk (K:=K) H Hc
  try replace hx:=hx.mono ku
  try replace hx1:=hx1.mono ku
  try replace hy:=hy.mono ku
  try replace hy1:=hy1.mono ku
  replace h103:=h103.mono kd
  clear Hc ku kd
  have h103p:=h103.pp
  have h103q:=h103.qq
  refine yK J J (zF J fc82 J (qy (jm hI Y9 X3 hx Z) (fun s9 D9 n4 a4 m4 c4 Hc h104=>?_)))
  have Hc:=HL.wider H.fine H.fine.wfb Z7 Hc
  obtain⟨Φ,ku,kd,H⟩:=qk (K:=K) H Hc
  try replace hx:=hx.mono ku
  try replace hx1:=hx1.mono ku
  try replace hy:=hy.mono ku
  try replace hy1:=hy1.mono ku
  try replace h103:=h103.mono ku
  try replace h103p:=h103p.mono ku
  replace h104:=h104.mono kd
  clear Hc ku kd
  refine yK J J (zF J fc83 J (qe (makeP_ok hI Y9 X3 hy1 h104 Z1 Z1 Z1 Z1 Z1 Z) (fun s9 D9 n5 a5 m5 c5 n5d a5d m5d c5d Hc h105=>?_)))
  have Hc:=HL.wider H.fine H.fine.wfb Z7 Hc
  obtain⟨Φ,ku,kd,H⟩:=qk (K:=K) H Hc
  try replace hx:=hx.mono ku
  try replace hx1:=hx1.mono ku
  try replace hy:=hy.mono ku
  try replace hy1:=hy1.mono ku
  try replace h103:=h103.mono ku
  try replace h103p:=h103p.mono ku
  replace h105:=h105.mono kd
  clear Hc ku kd
  have h105p:=h105.pp
  have h105q:=h105.qq
  refine yK J J (zS (Fine.fresh H.fine).hl wB (H.rm (k:=1) O) (fun b5 s7 Hc=>?_))
  have H:=H.call X6
  clear Hc
  refine yK J J (zS (Fine.fresh H.fine).hl wB (H.rm (k:=1) O) (fun b6 s8 Hc=>?_))
  have H:=H.call X6
  clear Hc
  refine kT (vs:=[.bool _,.slice _ _ _,.bool _,.slice _ _ _]) (fr:=[]) H J J kb J J J J J J Z2 O (fun s9 H=>?_)
  refine xM (vs:=[.bool _,.slice _ _ _,.bool _,.slice _ _ _]) (fr:=[]) H J J kb J J J J J J Z2 O (fun s10 H=>?_)
  refine zU (yT [⟨0,0,.light,[3,5,7]⟩,⟨1,1,.light,[3,5,7]⟩,⟨2,0,.light,[1,5,7]⟩,⟨3,4,.light,[1,5,7]⟩,⟨5,0,.light,[1,3,7]⟩,⟨7,0,.light,[1,3,5]⟩,⟨4,15,.whole,[5,7]⟩,⟨6,63,.whole,[7]⟩,⟨8,255,.whole,[]⟩,⟨9,511,.whole,[]⟩,⟨10,1023,.whole,[]⟩,⟨11,2047,.whole,[]⟩] Z0 Z0 (zA J J (zB qL J ⟨J,(zQ J J xO J H.own1 Y1 J (zA J J (zB qL J ⟨J,(zQ J J xO J H.own0 Y0 J (zQ J J xC J H.own1 Y1 J (zQ J J xC J H.own0 Y0 J (zM J J (zF J fc84 J (qy (jD hI (Fine.pr H.fine (xW H.lt1 (xW H.lt0 qO))) X5 h103p h105p Z1 Z1 Z) (fun s9 D9 n6 a6 m6 c6 Hc h106=>?_)))))))⟩)))⟩)))
  have Hc:=HL.wider H.fine Z3 Z5 Hc
  obtain⟨Φ,ku,kd,H⟩:=ka (K:=K) H Hc
  try replace hx:=hx.mono ku
  try replace hx1:=hx1.mono ku
  try replace hy:=hy.mono ku
  try replace hy1:=hy1.mono ku
  try replace h103:=h103.mono ku
  try replace h105:=h105.mono ku
  replace h106:=h106.mono kd
  clear Hc ku kd
  refine zM J J (zF J fc82 J (qy (jm hI (Fine.pr H.fine (xW H.lt0 qO)) X5 h103 Z) (fun s9 D9 n7 a7 m7 c7 Hc h107=>?_)))
  have Hc:=HL.wider H.fine Z3 Z5 Hc
  obtain⟨Φ,ku,kd,H⟩:=ka (K:=K) H Hc
  try replace hx:=hx.mono ku
  try replace hx1:=hx1.mono ku
  try replace hy:=hy.mono ku
  try replace hy1:=hy1.mono ku
  try replace h105:=h105.mono ku
  try replace h106:=h106.mono ku
  replace h107:=h107.mono kd
  clear Hc ku kd
  refine zM J J (zF J fc82 J (qy (jm hI H.fine (kn5 hK H) h105 Z) (fun s9 D9 n8 a8 m8 c8 Hc h108=>?_)))
  have Hc:=HL.wider H.fine Z3 Z7 Hc
  obtain⟨Φ,ku,kd,H⟩:=ka (K:=K) H Hc
  try replace hx:=hx.mono ku
  try replace hx1:=hx1.mono ku
  try replace hy:=hy.mono ku
  try replace hy1:=hy1.mono ku
  try replace h106:=h106.mono ku
  try replace h107:=h107.mono ku
  replace h108:=h108.mono kd
  clear Hc ku kd
  refine zM J J (zF J fc84 J (qy (jD hI H.fine (kn5 hK H) h107 h108 Z1 Z1 Z) (fun s9 D9 n9 a9 m9 c9 Hc h109=>?_)))
  have Hc:=HL.wider H.fine Z3 Z7 Hc
  obtain⟨Φ,ku,kd,H⟩:=ka (K:=K) H Hc
  try replace hx:=hx.mono ku
  try replace hx1:=hx1.mono ku
  try replace hy:=hy.mono ku
  try replace hy1:=hy1.mono ku
  try replace h106:=h106.mono ku
  replace h109:=h109.mono kd
  clear Hc ku kd
  rw[←ac1]at h106
  rw[←ac2]at h109
  refine zM J J (zF J fc149 J (qe (lowest_ok hI H.fine (kn5 hK H) h106 h109 Z1 Z) (fun s9 D9 n10 a10 m10 c10 n10d a10d m10d c10d Hc h110=>?_)))
  have Hc:=HL.wider H.fine Z3 Z7 Hc
  obtain⟨Φ,ku,kd,H⟩:=ka (K:=K) H Hc
  try replace hx:=hx.mono ku
  try replace hx1:=hx1.mono ku
  try replace hy:=hy.mono ku
  try replace hy1:=hy1.mono ku
  replace h110:=h110.mono kd
  clear Hc ku kd
  have h110p:=h110.pp
  have h110q:=h110.qq
  refine ke (vs:=[.bool _,.slice _ _ _,.bool _,.slice _ _ _]) (fr:=[]) H J J kb J J J J J J Z2 O (fun s11 H=>?_)
  refine zU (en ?_)
  refine yP xC J H.own2 J ?_
  exact⟨Φ,_,_,_,_,_,_,_,_,J,(frz5 H).up O,h110⟩
 refine zI J (yY J (yT [⟨0,0,.light,[2,6,7]⟩,⟨1,1,.light,[2,6,7]⟩,⟨2,0,.light,[1,6,7]⟩,⟨5,0,.light,[1,2,7]⟩,⟨6,32,.light,[1,2,7]⟩,⟨7,0,.light,[1,2,6]⟩,⟨3,4,.fresh,[1,6,7]⟩,⟨4,15,.fresh,[6,7]⟩,⟨8,159,.fresh,[6]⟩,⟨9,511,.fresh,[]⟩,⟨10,0,.fresh,[1,2,6,7]⟩,⟨11,0,.fresh,[1,2,6,7]⟩,⟨12,4095,.whole,[]⟩,⟨13,8191,.whole,[]⟩] Z0 Z0 (zA J J (zB qL J ⟨J,(zQ J J xO J H.own2 Y2 J (zQ J J xC J H.own1 Y1 J (zA J J (zB qL J ⟨J,(zQ J J xO J H.own1 Y1 J (zQ J J xC J H.own2 Y2 J (yK J J (zF J fc82 J (qy (jm hI Y9 X3 hy Z) (fun s9 D9 n11 a11 m11 c11 Hc h111=>?_))))))⟩))))⟩))))
 have Hc:=HL.wider H.fine H.fine.wfb Z7 Hc
 obtain⟨Φ,ku,kd,H⟩:=qk (K:=K) H Hc
 try replace hx:=hx.mono ku
 try replace hx1:=hx1.mono ku
 try replace hy1:=hy1.mono ku
 replace h111:=h111.mono kd
 clear Hc ku kd
 refine yK J J (zF J fc83 J (qe (makeP_ok hI Y9 X3 hx1 h111 Z1 Z1 Z1 Z1 Z1 Z) (fun s9 D9 n12 a12 m12 c12 n12d a12d m12d c12d Hc h112=>?_)))
 have Hc:=HL.wider H.fine H.fine.wfb Z7 Hc
 obtain⟨Φ,ku,kd,H⟩:=qk (K:=K) H Hc
 try replace hx:=hx.mono ku
 try replace hy1:=hy1.mono ku
 replace h112:=h112.mono kd
 clear Hc ku kd
 have h112p:=h112.pp
 have h112q:=h112.qq
 refine yK J J (zF J fc82 J (qy (jm hI Y9 X3 hx Z) (fun s9 D9 n13 a13 m13 c13 Hc h113=>?_)))
 have Hc:=HL.wider H.fine H.fine.wfb Z7 Hc
 obtain⟨Φ,ku,kd,H⟩:=qk (K:=K) H Hc
 try replace hy1:=hy1.mono ku
 try replace h112:=h112.mono ku
 try replace h112p:=h112p.mono ku
 replace h113:=h113.mono kd
 clear Hc ku kd
 refine yK J J (zF J fc83 J (qe (makeP_ok hI Y9 X3 hy1 h113 Z1 Z1 Z1 Z1 Z1 Z) (fun s9 D9 n14 a14 m14 c14 n14d a14d m14d c14d Hc h114=>?_)))
 have Hc:=HL.wider H.fine H.fine.wfb Z7 Hc
 obtain⟨Φ,ku,kd,H⟩:=qk (K:=K) H Hc
 try replace h112:=h112.mono ku
 try replace h112p:=h112p.mono ku
 replace h114:=h114.mono kd
 clear Hc ku kd
 have h114p:=h114.pp
 have h114q:=h114.qq
 refine yK J J (zS (Fine.fresh H.fine).hl wB (H.rm (k:=1) O) (fun b5 s12 Hc=>?_))
 have H:=H.call X6
 clear Hc
 refine yK J J (zS (Fine.fresh H.fine).hl wB (H.rm (k:=1) O) (fun b6 s13 Hc=>?_))
 have H:=H.call X6
 clear Hc
 refine kT (vs:=[.bool _,.slice _ _ _,.bool _,.slice _ _ _]) (fr:=[]) H J J kb J J J J J J Z2 O (fun s14 H=>?_)
 refine xM (vs:=[.bool _,.slice _ _ _,.bool _,.slice _ _ _]) (fr:=[]) H J J kb J J J J J J Z2 O (fun s15 H=>?_)
 refine zU (yT [⟨0,0,.light,[3,5,7]⟩,⟨1,1,.light,[3,5,7]⟩,⟨2,0,.light,[1,5,7]⟩,⟨3,4,.light,[1,5,7]⟩,⟨5,0,.light,[1,3,7]⟩,⟨7,0,.light,[1,3,5]⟩,⟨4,15,.whole,[5,7]⟩,⟨6,63,.whole,[7]⟩,⟨8,255,.whole,[]⟩,⟨9,511,.whole,[]⟩,⟨10,1023,.whole,[]⟩,⟨11,2047,.whole,[]⟩] Z0 Z0 (zA J J (zB qL J ⟨J,(zQ J J xO J H.own1 Y1 J (zA J J (zB qL J ⟨J,(zQ J J xO J H.own0 Y0 J (zQ J J xC J H.own1 Y1 J (zQ J J xC J H.own0 Y0 J (zM J J (zF J fc84 J (qy (jD hI (Fine.pr H.fine (xW H.lt1 (xW H.lt0 qO))) X5 h112p h114p Z1 Z1 Z) (fun s9 D9 n15 a15 m15 c15 Hc h115=>?_)))))))⟩)))⟩)))
 have Hc:=HL.wider H.fine Z3 Z5 Hc
 obtain⟨Φ,ku,kd,H⟩:=ka (K:=K) H Hc
 try replace h112:=h112.mono ku
 try replace h114:=h114.mono ku
 replace h115:=h115.mono kd
 clear Hc ku kd
 refine zM J J (zF J fc82 J (qy (jm hI (Fine.pr H.fine (xW H.lt0 qO)) X5 h112 Z) (fun s9 D9 n16 a16 m16 c16 Hc h116=>?_)))
 have Hc:=HL.wider H.fine Z3 Z5 Hc
 obtain⟨Φ,ku,kd,H⟩:=ka (K:=K) H Hc
 try replace h114:=h114.mono ku
 try replace h115:=h115.mono ku
 replace h116:=h116.mono kd
 clear Hc ku kd
 refine zM J J (zF J fc82 J (qy (jm hI H.fine (kn5 hK H) h114 Z) (fun s9 D9 n17 a17 m17 c17 Hc h117=>?_)))
 have Hc:=HL.wider H.fine Z3 Z7 Hc
 obtain⟨Φ,ku,kd,H⟩:=ka (K:=K) H Hc
 try replace h115:=h115.mono ku
 try replace h116:=h116.mono ku
 replace h117:=h117.mono kd
 clear Hc ku kd
 refine zM J J (zF J fc84 J (qy (jD hI H.fine (kn5 hK H) h116 h117 Z1 Z1 Z) (fun s9 D9 n18 a18 m18 c18 Hc h118=>?_)))
 have Hc:=HL.wider H.fine Z3 Z7 Hc
 obtain⟨Φ,ku,kd,H⟩:=ka (K:=K) H Hc
 try replace h115:=h115.mono ku
 replace h118:=h118.mono kd
 clear Hc ku kd
 rw[←ac1]at h115
 rw[←ac2]at h118
 refine zM J J (zF J fc149 J (qe (lowest_ok hI H.fine (kn5 hK H) h115 h118 Z1 Z) (fun s9 D9 n19 a19 m19 c19 n19d a19d m19d c19d Hc h119=>?_)))
 have Hc:=HL.wider H.fine Z3 Z7 Hc
 obtain⟨Φ,ku,kd,H⟩:=ka (K:=K) H Hc
 replace h119:=h119.mono kd
 clear Hc ku kd
 have h119p:=h119.pp
 have h119q:=h119.qq
 refine ke (vs:=[.bool _,.slice _ _ _,.bool _,.slice _ _ _]) (fr:=[]) H J J kb J J J J J J Z2 O (fun s16 H=>?_)
 refine zU (en ?_)
 refine yP xC J H.own2 J ?_
 exact⟨Φ,_,_,_,_,_,_,_,_,J,(frz5 H).up O,h119⟩
set_option maxHeartbeats 4000000 in
set_option maxRecDepth 10000 in
theorem eqInts_ok(hI:xA I){vb:Value}{lb:List Int}(ha:SlD s va la)(hb:SlD s vb lb)(hlen:la.length≤10000)(hs:s.next≤yC):∃v' s',xN Tryz.prog I 175 #[va,vb] s v' s'∧(v'=.bool (decide (la=lb))∧s'=s):=by
 obtain⟨a,len,cap,rfl,hn⟩:=ha.isSlice
 rw[List.length_map]at hn
 subst hn
 obtain⟨a2,len,cap2,rfl,hn⟩:=hb.isSlice
 rw[List.length_map]at hn
 subst hn
 refine zX 2 (hI 175 U U) Tryz.func175 J fb175 J ?_
 refine zG (zH J (yF xV J J J (zH J (yF xV J J J (k6 J J (fun h=>?_) (fun h=>?_))))))
 ·refine zG (en ?_)
  refine yV (⟨congrArg Value.bool ?_,J⟩)
  simp only[Bool.true_eq,Bool.false_eq,decide_eq_true_eq,decide_eq_false_iff_not]
  intro he
  subst he
  omega
 refine zH J (yF xV J J J (kB (xR (fun k F s1=>∃(G:FF) (i:Nat),F=lay G [(0,.slice a la.length cap),(1,.slice a2 lb.length cap2),(12,.int .i64 (la.length:Int)),(13,.int .i64 (i:Int))]∧s1=s∧i≤la.length∧k=la.length-i∧∀j,j<i→la.getD j 0=lb.getD j 0) ?_ la.length _ _ ?_)))
 rotate_left
 ·exact⟨_,0,yZ ⟨J,J,J,J,trivial⟩,J,by omega,by omega,fun j hj=>by omega⟩
 rintro k F s1 ⟨G,i,rfl,hs1,hi,rfl,hall⟩
 subst hs1
 refine xB J J (fun h=>?_) (fun h=>?_)
 ·refine zC J (zL J ?_)
  obtain⟨b1,off1,c1_,rfl,hg1,hb1,hc1⟩:=ha.atD (i:=(i:Int)) (k:=i) rfl O
  have hl1:b1<yC:=by omega
  obtain⟨b2,off2,c2_,rfl,hg2,hb2,hc2⟩:=hb.atD (i:=(i:Int)) (k:=i) rfl O
  have hl2:b2<yC:=by omega
  refine yT [⟨0,0,.light,[7]⟩,⟨1,0,.light,[7]⟩,⟨2,3,.light,[7]⟩,⟨3,7,.light,[7]⟩,⟨4,0,.light,[3]⟩,⟨5,0,.light,[3]⟩,⟨6,48,.light,[3]⟩,⟨7,112,.light,[3]⟩,⟨8,255,.light,[]⟩] Z0 Z0 (zA J J (zH J ⟨J,(zA J J (zC J ⟨J,(zA J J (zP qn J J O O ⟨J,(zV J J sh3 J hg1 hl1 hc1 (zA J J (zH J ⟨J,(zA J J (zC J ⟨J,(zA J J (zP qn J J O O ⟨J,(zV J J sh3 J hg2 hl2 hc2 (zA J J (k6 J J (fun h=>⟨J,?_⟩) (fun h=>⟨J,?_⟩))))⟩))⟩))⟩)))⟩))⟩))⟩))
  ·refine zU (zG (en ?_))
   refine yV (⟨congrArg Value.bool ?_,J⟩)
   simp only[Bool.true_eq,Bool.false_eq,decide_eq_true_eq,decide_eq_false_iff_not]
   intro he
   subst he
   omega
  refine zU (yH J J Y (zC J (en ?_)))
  have hq:la.getD i 0=lb.getD i 0:=by omega
  refine⟨la.length-(i+1),by omega,_,i+1,yZ ⟨J,J,J,J,trivial⟩,J,by omega,J,fun j hj=>?_⟩
  by_cases hji:j=i
  ·rw[hji];exact hq
  ·exact hall j O
 refine zG (en ?_)
 refine yV (⟨congrArg Value.bool ?_,J⟩)
 simp only[Bool.true_eq,Bool.false_eq,decide_eq_true_eq,decide_eq_false_iff_not]
 have he:=ext_take O _ Z3 (fun j hj=>hall j O:∀j,j<la.length→la.getD j 0=lb.getD j 0)
 rwa[List.take_length,List.take_of_length_le O]at he
set_option maxHeartbeats 4000000 in
set_option maxRecDepth 10000 in
theorem sameP_ok(hI:xA I)(hf:Fine s)(hK:Kn s K){y:Int}(hx:NumK K n1 a1 m1 c1 x)(hy:NumK K n2 a2 m2 c2 y)(hlx:(dg x.natAbs).length≤1000)(hroom:s.next+10≤yC) :
  ∃v' s',xN Tryz.prog I 174 #[.agg ⟨[.bool n1,.slice a1 m1 c1]⟩,.agg ⟨[.bool n2,.slice a2 m2 c2]⟩] s v' s'∧qQ s 10 (.bool (decide (x=y))) v' s':=by
 have H:=hf.hl
 obtain⟨hn1,rfl,hk1⟩:=hx
 obtain⟨hn2,rfl,hk2⟩:=hy
 have ha:=hK _ _ hk1
 have hb:=hK _ _ hk2
 cases n1
 ·cases n2
  ·refine zX 2 (hI 174 U U) Tryz.func174 J fb174 J ?_
   refine zY H J O (fun b2 s1 H=>?_)
   refine zY H J O (fun b3 s2 H=>?_)
   refine zG (zB xD J (zJ sh4 J H.own1 J (zB xD J (zJ sh4 J H.own0 J (op_eqb un4 J J (zI J (zB yM J (zJ xQ J H.own1 J (zB yM J (zJ xQ J H.own0 J (zF J fc175 J ?_)))))))))))
   refine callS (eqInts_ok hI (ha.kept H) (hb.kept H) O Y7) ?_
   generalize hbb:decide (dg x.natAbs=dg y.natAbs)=bb
   cases bb
   ·refine yD J J (zK J (en ?_))
    refine yV (⟨congrArg Value.bool ?_,H.drop0.drop0.up O⟩)
    have hinj:= @dg_inj x.natAbs y.natAbs
    simp only[Bool.true_eq,Bool.false_eq,decide_eq_true_eq,decide_eq_false_iff_not]at *
    (intro he;subst he;exact hbb rfl)
   refine yD J J (zK J (en ?_))
   refine yV (⟨congrArg Value.bool ?_,H.drop0.drop0.up O⟩)
   have hinj:= @dg_inj x.natAbs y.natAbs
   simp only[Bool.true_eq,Bool.false_eq,decide_eq_true_eq,decide_eq_false_iff_not]at *
   (have:=hinj hbb;omega)
  ·refine zX 2 (hI 174 U U) Tryz.func174 J fb174 J ?_
   refine zY H J O (fun b2 s1 H=>?_)
   refine zY H J O (fun b3 s2 H=>?_)
   refine zG (zB xD J (zJ sh4 J H.own1 J (zB xD J (zJ sh4 J H.own0 J (op_eqb un4 J J (zI J (yY J (zK J (en ?_)))))))))
   refine yV (⟨congrArg Value.bool ?_,H.drop0.drop0.up O⟩)
   have hinj:= @dg_inj x.natAbs y.natAbs
   simp only[Bool.true_eq,Bool.false_eq,decide_eq_true_eq,decide_eq_false_iff_not]at *
   omega
 ·cases n2
  ·refine zX 2 (hI 174 U U) Tryz.func174 J fb174 J ?_
   refine zY H J O (fun b2 s1 H=>?_)
   refine zY H J O (fun b3 s2 H=>?_)
   refine zG (zB xD J (zJ sh4 J H.own1 J (zB xD J (zJ sh4 J H.own0 J (op_eqb un4 J J (zI J (yY J (zK J (en ?_)))))))))
   refine yV (⟨congrArg Value.bool ?_,H.drop0.drop0.up O⟩)
   have hinj:= @dg_inj x.natAbs y.natAbs
   simp only[Bool.true_eq,Bool.false_eq,decide_eq_true_eq,decide_eq_false_iff_not]at *
   omega
  ·refine zX 2 (hI 174 U U) Tryz.func174 J fb174 J ?_
   refine zY H J O (fun b2 s1 H=>?_)
   refine zY H J O (fun b3 s2 H=>?_)
   refine zG (zB xD J (zJ sh4 J H.own1 J (zB xD J (zJ sh4 J H.own0 J (op_eqb un4 J J (zI J (zB yM J (zJ xQ J H.own1 J (zB yM J (zJ xQ J H.own0 J (zF J fc175 J ?_)))))))))))
   refine callS (eqInts_ok hI (ha.kept H) (hb.kept H) O Y7) ?_
   generalize hbb:decide (dg x.natAbs=dg y.natAbs)=bb
   cases bb
   ·refine yD J J (zK J (en ?_))
    refine yV (⟨congrArg Value.bool ?_,H.drop0.drop0.up O⟩)
    have hinj:= @dg_inj x.natAbs y.natAbs
    simp only[Bool.true_eq,Bool.false_eq,decide_eq_true_eq,decide_eq_false_iff_not]at *
    (intro he;subst he;exact hbb rfl)
   refine yD J J (zK J (en ?_))
   refine yV (⟨congrArg Value.bool ?_,H.drop0.drop0.up O⟩)
   have hinj:= @dg_inj x.natAbs y.natAbs
   simp only[Bool.true_eq,Bool.false_eq,decide_eq_true_eq,decide_eq_false_iff_not]at *
   (have:=hinj hbb;omega)
set_option maxHeartbeats 4000000 in
set_option maxRecDepth 10000 in
theorem ratSame_ok(hI:xA I)(hf:Fine s)(hK:Kn s K)(hx:RatK K n1 a1 m1 c1 n2 a2 m2 c2 a N1 M1)(hy:RatK K n3 a3 m3 c3 n4 a4 m4 c4 b N2 M2)(h1:N1<1000000000000000000000000000000000000000000000000000000)(h2:M1<1000000000000000000000000000000000000000000000000000000)(hroom:s.next+100≤yC) :
  ∃v' s',xN Tryz.prog I 106 #[.agg ⟨[.bool n1,.slice a1 m1 c1,.bool n2,.slice a2 m2 c2]⟩,.agg ⟨[.bool n3,.slice a3 m3 c3,.bool n4,.slice a4 m4 c4]⟩] s v' s'∧qQ s 100 (.bool (decide (a=b))) v' s':=by
 have H:=hf.hl
 have l1:=lenB hx.2.2.1 h1
 have l3:=lenB (dz_bd hx.2.2) h2
 have hx:=hx.mono (zZ (D:=[]))
 have hy:=hy.mono (zZ (D:=[]))
 have hx1:=hx.pp
 have hx2:=hx.qq
 have hy1:=hy.pp
 have hy2:=hy.qq
 refine zX 2 (hI 106 U U) Tryz.func106 J fb106 J ?_
 refine zY H J O (fun b2 s1 H=>?_)
 refine zY H J O (fun b3 s2 H=>?_)
 refine zG (xT (op_moveF J (zB qL J (zN xO J H.own1 J (zB qL J (zN xO J H.own0 J (zF J fc174 J (callB (sameP_ok hI H.fine (kn2 hK H) hx1 hy1 Z1 Z) (fun hb1 s9 Hc=>?_) (fun hb1 s9 Hc=>?_)))))))))
 ·have H:=H.call0 Hc
  clear Hc
  refine zI J (yY J (zK J (en ?_)))
  refine yV (⟨congrArg Value.bool ?_,(H.sub Z9).up O⟩)
  have he:= @rat_eq a b
  simp only[decide_eq_true_eq,decide_eq_false_iff_not]at *
  simp_all
 have H:=H.call0 Hc
 clear Hc
 refine zI J (op_moveF J (zB kI J (zN xO J H.own1 J (zB kI J (zN xO J H.own0 J (zF J fc174 J (callB (sameP_ok hI H.fine (kn2 hK H) hx2 hy2 Z1 Z) (fun hb2 s9 Hc=>?_) (fun hb2 s9 Hc=>?_))))))))
 ·have H:=H.call0 Hc
  clear Hc
  refine yD J J (zK J (en ?_))
  refine yV (⟨congrArg Value.bool ?_,(H.sub Z9).up O⟩)
  have he:= @rat_eq a b
  simp only[decide_eq_true_eq,decide_eq_false_iff_not]at *
  simp_all
 have H:=H.call0 Hc
 clear Hc
 refine yD J J (zK J (en ?_))
 refine yV (⟨congrArg Value.bool ?_,(H.sub Z9).up O⟩)
 have he:= @rat_eq a b
 simp only[decide_eq_true_eq,decide_eq_false_iff_not]at *
 simp_all
set_option maxHeartbeats 4000000 in
set_option maxRecDepth 10000 in
theorem vd_ok(hI:xA I){d:Int}(h0:0≤d)(h1:d<1000000000):∃v' s',xN Tryz.prog I 245 #[.int .i64 d] s v' s'∧(v'=.bool false∧s'=s):=by
 refine zX 1 (hI 245 U U) Tryz.func245 J fb245 J ?_
 refine zG (zC J (xB J J Y6 (fun h=>?_)))
 refine zI J (zC J (k7 J J Y6 (fun h=>?_)))
 refine yG J J (zK J (en ?_))
 refine yV ?_
 exact⟨J,J⟩
set_option maxHeartbeats 4000000 in
set_option maxRecDepth 10000 in
theorem indexInts_ok(hI:xA I)(ha:SlD s va la)(hd:Dig la)(hlen:la.length≤10000):∃v' s',xN Tryz.prog I 269 #[va,.func (.func 245) #[] #[]] s v' s'∧(v'=.int .i64 (-1)∧s'=s):=by
 obtain⟨a,len,cap,rfl,hn⟩:=ha.isSlice
 rw[List.length_map]at hn
 subst hn
 refine zX 2 (hI 269 U U) Tryz.func269 J fb269 J ?_
 refine zG (zH J (yF xV J J J (kB (xR (fun k F s1=>∃(G:FF) (i:Nat),F=lay G [(0,.slice a la.length cap),(1,.func (.func 245) #[] #[]),(7,.int .i64 (la.length:Int)),(8,.int .i64 (i:Int))]∧s1=s∧i≤la.length∧k=la.length-i) ?_ la.length _ _ ?_))))
 rotate_left
 ·exact⟨_,0,yZ ⟨J,J,J,J,trivial⟩,J,by omega,by omega⟩
 rintro k F s1 ⟨G,i,rfl,hs1,hi,rfl⟩
 subst hs1
 refine xB J J (fun h=>?_) (fun h=>?_)
 ·refine zC J (zL J ?_)
  have hdi:=hd.at i
  obtain⟨b1,off1,c1_,rfl,hg1,hb1,hc1⟩:=ha.atD (i:=(i:Int)) (k:=i) rfl O
  refine op_moveF J (zH J (zC J (zP qn J J O O (zJ sh3 J hg1 hc1 (zF J fc245 J (callS (vd_ok hI hdi.1 hdi.2) (yH J J Y (zC J (en ?_)))))))))
  exact⟨la.length-(i+1),by omega,_,i+1,yZ ⟨J,J,J,J,trivial⟩,J,by omega,J⟩
 refine zG (en ?_)
 refine yV ?_
 exact⟨J,J⟩
set_option maxHeartbeats 4000000 in
set_option maxRecDepth 10000 in
theorem containsInts_ok(hI:xA I)(ha:SlD s va la)(hd:Dig la)(hlen:la.length≤10000):∃v' s',xN Tryz.prog I 244 #[va,.func (.func 245) #[] #[]] s v' s'∧(v'=.bool false∧s'=s):=by
 refine zX 2 (hI 244 U U) Tryz.func244 J fb244 J ?_
 refine zG (xL (op_moveF J (zF J fc269 J (callS (indexInts_ok hI ha hd hlen) (k7 J J Y6 (fun h=>?_))))))
 refine zK J (en ?_)
 refine yV ?_
 exact⟨J,J⟩
set_option maxHeartbeats 4000000 in
set_option maxRecDepth 10000 in
theorem validI_ok(hI:xA I)(hf:Fine s)(hK:Kn s K)(hx:NumK K n1 a1 m1 c1 x)(hlx:(dg x.natAbs).length≤1000)(hroom:s.next+10≤yC) :
  ∃v' s',xN Tryz.prog I 196 #[.agg ⟨[.bool n1,.slice a1 m1 c1]⟩] s v' s'∧qQ s 10 (.bool true) v' s':=by
 have H:=hf.hl
 have hl0:= @dg_len0 x.natAbs
 obtain⟨hn1,rfl,hk1⟩:=hx
 have ha:=hK _ _ hk1
 cases n1
 ·refine zX 1 (hI 196 U U) Tryz.func196 J fb196 J ?_
  refine zY H J O (fun b1 s1 H=>?_)
  refine zG (zB yM J (zJ xQ J H.own0 J (zF J fc244 J (callS (containsInts_ok hI (ha.kept H) (kq x.natAbs) O) (zB yM J (zJ xQ J H.own0 J (yF xV J J J (qh J J (fun h=>?_) (fun h=>?_)))))))))
  ·refine zI J (zB xD J (zJ sh4 J H.own0 J (qt J (yD J J (zI J (xS J (zK J (en ?_))))))))
   refine yV ?_
   simp only[Bool.true_eq,Bool.false_eq,decide_eq_true_eq,decide_eq_false_iff_not]at hn1
   exact⟨J,H.drop0.up O⟩
  refine zI J (yY J (zI J (zB yM J (zJ xQ J H.own0 J (yF xV J J J ?_)))))
  refine qv J J (fun h=>?_) Y6
  refine zI J (zB yM J (zJ xQ J H.own0 J (zB yM J (zJ xQ J H.own0 J (yF xV J J J (qC J J Y ?_))))))
  have hne:(dg x.natAbs).length≠0:=by omega
  have hlast:=dg_last hne
  obtain⟨b11,off1,c1_,rfl,hg1,hb1,hc1⟩:=(ha.kept H).atD (i:=((dg x.natAbs).length:Int)-1) (k:=(dg x.natAbs).length-1) O O
  refine zP qn J J O O (zJ sh3 J hg1 hc1 (k6 J J (fun h=>?_) (fun h=>False.elim (h hlast))))
  refine yD J J (yG J J (zK J (en ?_)))
  refine yV ?_
  simp only[Bool.true_eq,Bool.false_eq,decide_eq_true_eq,decide_eq_false_iff_not]at hn1
  exact⟨J,H.drop0.up O⟩
 ·refine zX 1 (hI 196 U U) Tryz.func196 J fb196 J ?_
  refine zY H J O (fun b1 s1 H=>?_)
  refine zG (zB yM J (zJ xQ J H.own0 J (zF J fc244 J (callS (containsInts_ok hI (ha.kept H) (kq x.natAbs) O) (zB yM J (zJ xQ J H.own0 J (yF xV J J J (qh J J (fun h=>?_) (fun h=>?_)))))))))
  ·refine zI J (zB xD J (zJ sh4 J H.own0 J (qt J (yD J J (zI J (zB yM J (zJ xQ J H.own0 J (yF xV J J J (qv J J Y6 (fun h=>?_))))))))))
   refine zI J (yY J (yG J J (zK J (en ?_))))
   refine yV ?_
   simp only[Bool.true_eq,Bool.false_eq,decide_eq_true_eq,decide_eq_false_iff_not]at hn1
   omega
  refine zI J (yY J (zI J (zB yM J (zJ xQ J H.own0 J (yF xV J J J ?_)))))
  refine qv J J (fun h=>?_) Y6
  refine zI J (zB yM J (zJ xQ J H.own0 J (zB yM J (zJ xQ J H.own0 J (yF xV J J J (qC J J Y ?_))))))
  have hne:(dg x.natAbs).length≠0:=by omega
  have hlast:=dg_last hne
  obtain⟨b11,off1,c1_,rfl,hg1,hb1,hc1⟩:=(ha.kept H).atD (i:=((dg x.natAbs).length:Int)-1) (k:=(dg x.natAbs).length-1) O O
  refine zP qn J J O O (zJ sh3 J hg1 hc1 (k6 J J (fun h=>?_) (fun h=>False.elim (h hlast))))
  refine yD J J (yG J J (zK J (en ?_)))
  refine yV ?_
  simp only[Bool.true_eq,Bool.false_eq,decide_eq_true_eq,decide_eq_false_iff_not]at hn1
  exact⟨J,H.drop0.up O⟩
theorem unit_no(hI:xA I)(hf:Fine s)(hK:Kn s K)(hx:NumK K n1 a1 m1 c1 x)(h:x≠1)(hroom:s.next+10≤yC) :
  ∃v' s',xN Tryz.prog I 147 #[.agg ⟨[.bool n1,.slice a1 m1 c1]⟩] s v' s'∧qQ s 10 (.bool false) v' s':=by
 have:=unit_ok hI hf hK hx hroom
 rwa[decide_eq_false h]at this
theorem unit_yes(hI:xA I)(hf:Fine s)(hK:Kn s K)(hx:NumK K n1 a1 m1 c1 x)(h:x=1)(hroom:s.next+10≤yC) :
  ∃v' s',xN Tryz.prog I 147 #[.agg ⟨[.bool n1,.slice a1 m1 c1]⟩] s v' s'∧qQ s 10 (.bool true) v' s':=by
 have:=unit_ok hI hf hK hx hroom
 rwa[decide_eq_true h]at this
set_option maxHeartbeats 4000000 in
set_option maxRecDepth 10000 in
theorem ratValid_ok(hI:xA I)(hf:Fine s)(hK:Kn s K)(hx:RatK K n1 a1 m1 c1 n2 a2 m2 c2 a N1 M1)(h1:N1<1000000000000000000)(h2:M1<1000000000000000000)(hroom:s.next+1000≤yC) :
  ∃v' s',xN Tryz.prog I 120 #[.agg ⟨[.bool n1,.slice a1 m1 c1,.bool n2,.slice a2 m2 c2]⟩] s v' s'∧qQ s 1000 (.bool true) v' s':=by
 have H:=hf.hl
 have l1:=lenb hx.2.2.1 h1
 have l2:=lenb (dz_bd hx.2.2) h2
 have hdne:=dz_ne a
 have hb1:=hx.2.2.1
 have hb2:=dz_bd hx.2.2
 have hz0:=hx.qq.zero
 have hn2:n2=false:=hx.2.1.1
 subst hn2
 have hx:=hx.mono (zZ (D:=[]))
 have hx1:=hx.pp
 have hx2:=hx.qq
 refine zX 1 (hI 120 U U) Tryz.func120 J fb120 J ?_
 refine zY H J O (fun b1 s1 H=>?_)
 refine zG (zB qL J (zN xO J H.own0 J (zF J fc196 J (callE (validI_ok hI H.fine (kn1 hK H) hx1 Z1 Z) (fun s9 Hc=>?_)))))
 have H:=H.call0 Hc
 clear Hc
 refine qt J (zI J (zB kI J (zN xO J H.own0 J (zF J fc196 J (callE (validI_ok hI H.fine (kn1 hK H) hx2 Z1 Z) (fun s9 Hc=>?_))))))
 have H:=H.call0 Hc
 clear Hc
 refine qt J (yG J J (zI J (zB kI J (zB xD J (zJ sh4 J H.own0 J (yG J J (zI J (zB kI J (zN xO J H.own0 J (zF J fc147 J (callE (unit_no hI H.fine (kn1 hK H) hx2 Z1 Z) (fun s9 Hc=>?_))))))))))))
 have H:=H.call0 Hc
 clear Hc
 refine yG J J (zK J (zB kI J (zB yM J (zJ xQ J H.own0 J (yF xV J J J (qh J J (fun h=>?_) (fun h=>?_)))))))
 ·refine zK J (zG (en ?_))
  refine yV ?_
  exact⟨J,(H.sub Z9).up O⟩
 refine zK J (zB qL J (zN xO J H.own0 J (zB kI J (zN xO J H.own0 J (zF J fc146 J (qy (gcdP_ok hI H.fine (kn1 hK H) hx1 hx2 O O Z) (fun s9 D9 n4 a4 m4 c4 Hc h104=>?_)))))))
 obtain⟨Φ,ku,kd,H⟩:=ko (K:=K) H Hc
 replace h104:=h104.mono kd
 clear Hc ku kd
 refine zF J fc147 J (callE (unit_yes hI H.fine (kn1 hK H) h104 (gcd_dz (fun h0=>by have:=hz0.mpr h0;omega)) Z) (fun s9 Hc=>?_))
 have H:=H.call0 Hc
 clear Hc
 refine zK J (en ?_)
 refine yV ?_
 exact⟨J,(H.sub Z9).up O⟩
end Go.Proofs.YtocnbjjmmgolfaaGreat
namespace Go.Proofs.YtocnbjjmmgolfaaGreat
open Go Go.M Go.Proofs.C14
variable{p0 p1 p10 p2 p3 p4 p5 p6 p7 p8 p9:Nat×MObj}{K':Kw}{c l:List Value}{q r:Rat}{M N m o:Nat}
section
variable{W:List Nat}{s0 s s':St}{Φ D:Hp'}{K:Kw}{n k:Nat}
theorem kn9(hK:Kn s0 K)(H:HL [] s0 s (p0::p1::p2::p3::p4::p5::p6::p7::p8::Φ) n):Kn s (KX K Φ):=hK.x H Z8
theorem frz9(H:HL W s0 s (p0::p1::p2::p3::p4::p5::p6::p7::p8::Φ) n):HL W s0 s Φ n:=H.sub (by repeat (first|exact List.Sublist.refl _|refine List.Sublist.cons _ ?_))
theorem kn10(hK:Kn s0 K)(H:HL [] s0 s (p0::p1::p2::p3::p4::p5::p6::p7::p8::p9::Φ) n):Kn s (KX K Φ):=hK.x H Z8
theorem kn11(hK:Kn s0 K)(H:HL [] s0 s (p0::p1::p2::p3::p4::p5::p6::p7::p8::p9::p10::Φ) n):Kn s (KX K Φ):=hK.x H Z8
theorem kn12{p11:Nat×MObj}(hK:Kn s0 K)(H:HL [] s0 s (p0::p1::p2::p3::p4::p5::p6::p7::p8::p9::p10::p11::Φ) n):Kn s (KX K Φ):=hK.x H Z8
end
def VecK(K:Kw)(c:List Value)(q r:Rat)(N M:Nat):Prop:=∃n1 a1 m1 c1 n2 a2 m2 c2 n3 a3 m3 c3 n4 a4 m4 c4,c=[.bool n1,.slice a1 m1 c1,.bool n2,.slice a2 m2 c2,.bool n3,.slice a3 m3 c3,.bool n4,.slice a4 m4 c4]∧RatK K n1 a1 m1 c1 n2 a2 m2 c2 q N M∧RatK K n3 a3 m3 c3 n4 a4 m4 c4 r N M
theorem VecK.mono{K:Kw}(h:VecK K c q r N M)(hs:KLe K K'):VecK K' c q r N M:=by
 obtain⟨n1,a1,m1,c1,n2,a2,m2,c2,n3,a3,m3,c3,n4,a4,m4,c4,e,h1,h2⟩:=h
 exact⟨n1,a1,m1,c1,n2,a2,m2,c2,n3,a3,m3,c3,n4,a4,m4,c4,e,h1.mono hs,h2.mono hs⟩
theorem VecK.of{K:Kw}{n1 n2 n3 n4:Bool}{a1 a2 a3 a4:Option Addr}{m1 m2 m3 m4 c1 c2 c3 c4:Nat}(h1:RatK K n1 a1 m1 c1 n2 a2 m2 c2 q N M)(h2:RatK K n3 a3 m3 c3 n4 a4 m4 c4 r N M) :
  VecK K [.bool n1,.slice a1 m1 c1,.bool n2,.slice a2 m2 c2,.bool n3,.slice a3 m3 c3,.bool n4,.slice a4 m4 c4] q r N M:=⟨n1,a1,m1,c1,n2,a2,m2,c2,n3,a3,m3,c3,n4,a4,m4,c4,rfl,h1,h2⟩
theorem VecK.le{K:Kw}{N' M':Nat}(h:VecK K c q r N M)(h1:N≤N')(h2:M≤M'):VecK K c q r N' M':=by
 obtain⟨n1,a1,m1,c1,n2,a2,m2,c2,n3,a3,m3,c3,n4,a4,m4,c4,e,g1,g2⟩:=h
 exact⟨n1,a1,m1,c1,n2,a2,m2,c2,n3,a3,m3,c3,n4,a4,m4,c4,e,g1.le h1 h2,g2.le h1 h2⟩
theorem VecK.len{K:Kw}(h:VecK K c q r N M):c.length=8:=by
 obtain⟨n1,a1,m1,c1,n2,a2,m2,c2,n3,a3,m3,c3,n4,a4,m4,c4,e,g1,g2⟩:=h
 rw[e];rfl
theorem VecK.plain{K:Kw}(h:VecK K c q r N M):c.all Go.M.plainCell=true:=by
 obtain⟨n1,a1,m1,c1,n2,a2,m2,c2,n3,a3,m3,c3,n4,a4,m4,c4,e,g1,g2⟩:=h
 rw[e];rfl
structure VecsK(K:Kw)(l:List (List Value))(N M:Nat):Prop where
 vec:∀k,k<l.length→∃q r,VecK K (l.getD k []) q r N M
theorem VecsK.mono{K:Kw}{l:List (List Value)}(h:VecsK K l N M)(hs:KLe K K'):VecsK K' l N M:=⟨fun k hk=>(h.vec k hk).imp fun _ h=>h.imp fun _ h=>h.mono hs⟩
theorem jr{k j:Nat}(h:qX m (kw o c)=some l)(hk:k+j≤m):qX j (kw (o+k) c)=some ((l.drop k).take j):=by
 rw[vE,vN]at h ⊢
 split at h
 ·next hle=>
  rw[Option.some.injEq]at h
  rw[List.length_drop]at hle
  rw[if_pos (by rw[List.length_drop];omega),←h]
  congr 1
  rw[←List.drop_drop,List.drop_take,List.take_take,Nat.min_eq_left O]
 ·cases h
theorem lget_part{k:Nat}(h:qX m (kw o c)=some l)(hk:k<m){v:Value}(hv:l[k]? = some v):qG c (o+k)=some v:=by
 rw[vE,vN]at h
 split at h
 ·next hle=>
  rw[Option.some.injEq]at h
  rw[qR,←hv,←h,List.getElem?_take,if_pos hk,List.getElem?_drop]
 ·cases h
structure Ft where
 a:Int
 b:Int
 x:Int
 y:Int
 n:Int
 t:List Value
 lo:List Value
 hi:List Value
def Ft.cells(f:Ft):List Value:=.int .i64 f.a::.int .i64 f.b::.int .i64 f.x::.int .i64 f.y::.int .i64 f.n::(f.t++(f.lo++f.hi))
structure FtK(K:Kw)(f:Ft)(q:Q2):Prop where
 a:qp f.a
 b:qp f.b
 t:VecK K f.t q.1 q.2 25 25
 lo:∃q r,VecK K f.lo q r 1000000 1000
 hi:∃q r,VecK K f.hi q r 1000000 1000
 tn:Tn 25 q
instance:Inhabited Ft:=⟨⟨0,0,0,0,0,[],[],[]⟩⟩
structure FtsK(K:Kw)(l:List Ft)(T:Nat→Q2):Prop where
 fit:∀k,k<l.length→FtK K (l.getD k default) (T k)
variable{f:Ft}
theorem FtK.mono{K:Kw}{q:Q2}(h:FtK K f q)(hs:KLe K K'):FtK K' f q:=
 ⟨h.a,h.b,h.t.mono hs,h.lo.imp fun _ h=>h.imp fun _ h=>h.mono hs,h.hi.imp fun _ h=>h.imp fun _ h=>h.mono hs,h.tn⟩
theorem FtsK.mono{K:Kw}{l:List Ft}{T:Nat→Q2}(h:FtsK K l T)(hs:KLe K K'):FtsK K' l T:=⟨fun k hk=>(h.fit k hk).mono hs⟩
theorem FtK.len{K:Kw}{q:Q2}(h:FtK K f q):f.cells.length=29:=by
 obtain⟨_,_,h1⟩:=h.lo
 obtain⟨_,_,h2⟩:=h.hi
 simp[Ft.cells,h.t.len,h1.len,h2.len]
theorem FtK.plain{K:Kw}{q:Q2}(h:FtK K f q):f.cells.all Go.M.plainCell=true:=by
 obtain⟨_,_,h1⟩:=h.lo
 obtain⟨_,_,h2⟩:=h.hi
 simp only[Ft.cells,List.all_cons,List.all_append,h.t.plain,h1.plain,h2.plain]
 rfl
def ends(l:List Ft)(k:Nat):Int×Int:=((l.getD k default).a,(l.getD k default).b)
abbrev SlF(s:St)(v:Value)(l:List Ft):Prop:=Sl s 40 29 v (l.map Ft.cells)
def ki(r:List Nat):List Int:=r.map fun(k:Nat)=>(k:Int)
theorem qT(r:List Nat):(ki r).length=r.length:=by simp[ki]
theorem nats_getD{r:List Nat}{k:Nat}(h:k<r.length):(ki r).getD k 0=(r.getD k 0:Int):=jg h
section
variable{P:Program}{I:xP}{F:FF}{s:St}{Q:FF→St→Prop}{d:Option Tmp}{ty:TypeId}{pos:String}{af:Array Edge}{g:Option (Nat×Bool)}
variable{W:List Nat}{s0:St}{L:Hp'}{n:Nat}
theorem op_appendRoom{A:Hp'}{args:Array Operand}{ts:Array TypeId}{t t2 e e2:TypeId}{tr:List TypeId}{x y:Operand}{sz by_ b cap len:Nat}{z c':List Value}(H:HL W s0 s (A++(b,.cells c e)::L) n)(hs:q6 P t=some (e,sz,by_,z))(hu2:P.underlying t2=some (.slice e2))
  (ht:ts.toList=t::t2::tr) (ha:args.toList=[x,y]) (hx:yQ F x=.slice (some ⟨b,0,none⟩) len cap) (he:jC s sz (yQ F y) m l) (hcap:len+m≤cap / 2) (hp:l.all Go.M.plainCell=true) (hput:ky (len*sz) l c=some c') (hr:s0.next+n≤yC)
  (k:∀s',HL W s0 s' (A++(b,.cells c' e)::L) n→Q (upd F d (.slice (some ⟨b,0,none⟩) (len+m) cap)) s'):OpW P I ⟨d,.call ⟨.builtin .append,args,ts⟩,ty,pos,af,g⟩ F s Q:=by
 obtain⟨hu,inf,z',hi,rfl,rfl,hz,hz1,hz2⟩:=kz hs
 refine qf (v:=.slice (some ⟨b,0,none⟩) (len+m) cap) (s':=s.put b (some (.cells c' e))) ?_ (k _ (H.putAt A _ hr))
 have hf:Nat.ble (len+m) (cap / 2)=true:=Nat.ble_eq_true_of_le hcap
 have hmay:=(H.own (b,.cells c e) Y8).2.2.1
 simp only at hmay
 simp only[yX,kO,wV,ht,ha,vJ,hx,hu,hi,newL_ok hu2 he,jI,hf,kZ,Nat.zero_add,H.ownA,hp,Bool.true_and,hmay,hput]
 rfl
end
end Go.Proofs.YtocnbjjmmgolfaaGreat
