/- The reference of the plane: vectors and turns. -/
/- The plane: vectors and turns. -/
import Derived.Test.YtocnbjjmmgolfaaGreatA31
namespace Go.Proofs.YtocnbjjmmgolfaaGreat
open Go Go.M Go.Proofs.C14
theorem bf38:buildF Tryz.prog 38=some ([.bool false,.slice none 0 0,.bool false,.slice none 0 0,.bool false,.slice none 0 0,.bool false,.slice none 0 0],[(0,4),(4,4)]):=by kernel_rfl
theorem fb19:xK Tryz.f19 (Tryz.f19.body.getD .skip) 2=true:=by kernel_rfl
theorem q8:wZ Tryz.prog 38 0=some 0:=by kernel_rfl
theorem q7:wZ Tryz.prog 38 1=some 4:=by kernel_rfl
theorem qN:qw Tryz.prog 38=some (some 8):=by kernel_rfl
theorem sz38:kD Tryz.prog 38=some 8:=by kernel_rfl
theorem zf38:zeroF Tryz.prog 38=some [.bool false,.slice none 0 0,.bool false,.slice none 0 0,.bool false,.slice none 0 0,.bool false,.slice none 0 0]:=by kernel_rfl
theorem fb39:xK Tryz.f39 (Tryz.f39.body.getD .skip) 2=true:=by kernel_rfl
theorem fc98:xJ Tryz.prog 98=true:=by kernel_rfl
theorem fb226:xK Tryz.f226 (Tryz.f226.body.getD .skip) 2=true:=by kernel_rfl
theorem fc99:xJ Tryz.prog 99=true:=by kernel_rfl
theorem fb265:xK Tryz.f265 (Tryz.f265.body.getD .skip) 2=true:=by kernel_rfl
theorem fb40:xK Tryz.f40 (Tryz.f40.body.getD .skip) 2=true:=by kernel_rfl
theorem kN:wZ Tryz.prog 36 0=some 0:=by kernel_rfl
theorem kM:wZ Tryz.prog 36 1=some 4:=by kernel_rfl
theorem bf36:buildF Tryz.prog 36=some ([.bool false,.slice none 0 0,.bool false,.slice none 0 0,.bool false,.slice none 0 0,.bool false,.slice none 0 0],[(0,4),(4,4)]):=by kernel_rfl
theorem fb73:xK Tryz.f73 (Tryz.f73.body.getD .skip) 2=true:=by kernel_rfl
theorem kU:qw Tryz.prog 36=some (some 8):=by kernel_rfl
theorem jo:kD Tryz.prog 36=some 8:=by kernel_rfl
theorem zf36:zeroF Tryz.prog 36=some [.bool false,.slice none 0 0,.bool false,.slice none 0 0,.bool false,.slice none 0 0,.bool false,.slice none 0 0]:=by kernel_rfl
theorem fb100:xK Tryz.f100 (Tryz.f100.body.getD .skip) 1=true:=by kernel_rfl
theorem fb51:xK Tryz.f51 (Tryz.f51.body.getD .skip) 2=true:=by kernel_rfl
theorem fc109:xJ Tryz.prog 109=true:=by kernel_rfl
theorem fb41:xK Tryz.f41 (Tryz.f41.body.getD .skip) 2=true:=by kernel_rfl
theorem fc20:xJ Tryz.prog 20=true:=by kernel_rfl
theorem fb37:xK Tryz.f37 (Tryz.f37.body.getD .skip) 0=true:=by kernel_rfl
theorem fb54:xK Tryz.f54 (Tryz.f54.body.getD .skip) 1=true:=by kernel_rfl
theorem fc110:xJ Tryz.prog 110=true:=by kernel_rfl
variable{I:xP}{s:St}{K:Kw}{n1 n2 n3 n4 n5 n6 n7 n8:Bool}{a1 a2 a3 a4 a5 a6 a7 a8:Option Addr}{M1 M2 N1 N2 c1 c2 c3 c4 c5 c6 c7 c8 m1 m2 m3 m4 m5 m6 m7 m8:Nat}{p q u v:Rat}
set_option maxHeartbeats 4000000 in
set_option maxRecDepth 10000 in
theorem vadd05_ok(hI:xA I)(hf:Fine s)(hK:Kn s K)(hx:RatK K n1 a1 m1 c1 n2 a2 m2 c2 p N1 M1)(hy:RatK K n3 a3 m3 c3 n4 a4 m4 c4 q N1 M1)(hz:RatK K n5 a5 m5 c5 n6 a6 m6 c6 u N2 M2)(hw:RatK K n7 a7 m7 c7 n8 a8 m8 c8 v N2 M2)(h1:N1*M2+N2*M1<1000000000000000000)(h2:M1*M2<1000000000000000000)(hroom:s.next+40000≤yC) :
  ∃v' s',xN Tryz.prog I 19 #[.agg ⟨[.bool n1,.slice a1 m1 c1,.bool n2,.slice a2 m2 c2,.bool n3,.slice a3 m3 c3,.bool n4,.slice a4 m4 c4]⟩,.agg ⟨[.bool n5,.slice a5 m5 c5,.bool n6,.slice a6 m6 c6,.bool n7,.slice a7 m7 c7,.bool n8,.slice a8 m8 c8]⟩] s v' s'∧PostV K s 40000 (p+u) (q+v) (N1*M2+N2*M1) (M1*M2) v' s':=by
 have H:=hf.hl
 have hx:=hx.mono (zZ (D:=[]))
 have hy:=hy.mono (zZ (D:=[]))
 have hz:=hz.mono (zZ (D:=[]))
 have hw:=hw.mono (zZ (D:=[]))
 refine zX 2 (hI 19 U U) Tryz.func19 J fb19 J ?_
 refine zE (zY H J O (fun b2 s1 H=>?_))
 refine zY H J O (fun b3 s2 H=>?_)
 refine zS H zf38 O (fun b4 s3 H=>?_)
 refine zD (yT [⟨0,0,.light,[3,6,8]⟩,⟨1,1,.light,[3,6,8]⟩,⟨2,0,.light,[1,6,8]⟩,⟨3,4,.light,[1,6,8]⟩,⟨5,0,.light,[1,3,8]⟩,⟨6,32,.light,[1,3,8]⟩,⟨7,0,.light,[1,3,6]⟩,⟨8,128,.light,[1,3,6]⟩,⟨4,15,.whole,[6,8]⟩,⟨9,511,.whole,[]⟩,⟨10,1023,.light,[]⟩,⟨11,2047,.whole,[]⟩] Z0 Z0 (zA J J (zB q8 J ⟨J,(zQ J J xC J H.own2 Y2 J (zA J J (zB q8 J ⟨J,(zQ J J xC J H.own1 Y1 J (zA J J (zB q7 J ⟨J,(zQ J J xC J H.own2 Y2 J (zA J J (zB q7 J ⟨J,(zQ J J xC J H.own1 Y1 J (zM J J (zF J fc36 J (qe (wQ hI (Fine.pr H.fine (xW H.lt2 (xW H.lt1 qO))) X3 hx hz Z1 Z1 Z) (fun s9 D9 n1 a1 m1 c1 n1d a1d m1d c1d Hc h101=>?_)))))⟩)))⟩)))⟩)))⟩)))
 have Hc:=HL.wider H.fine Z3 Z5 Hc
 obtain⟨Φ,ku,kd,H⟩:=qk (K:=K) H Hc
 try replace hy:=hy.mono ku
 try replace hw:=hw.mono ku
 replace h101:=h101.mono kd
 clear Hc ku kd
 refine zM J J (zF J fc36 J (qe (wQ hI H.fine (kn3 hK H) hy hw Z1 Z1 Z) (fun s9 D9 n2 a2 m2 c2 n2d a2d m2d c2d Hc h102=>?_)))
 have Hc:=HL.wider H.fine Z3 Z7 Hc
 obtain⟨Φ,ku,kd,H⟩:=qk (K:=K) H Hc
 try replace h101:=h101.mono ku
 replace h102:=h102.mono kd
 clear Hc ku kd
 refine zA J J (xE (c:=[.bool _,.slice _ _ _,.bool _,.slice _ _ _,.bool _,.slice _ _ _,.bool _,.slice _ _ _]) bf38 J ⟨J,(xM (vs:=[.bool _,.slice _ _ _,.bool _,.slice _ _ _,.bool _,.slice _ _ _,.bool _,.slice _ _ _]) (fr:=[]) H J J sz38 J J J J J J Z2 O (fun s4 H=>?_))⟩)
 refine zU (yO (yB (yP qN J H.own0 J ?_)))
 exact⟨Φ,_,_,_,_,_,_,_,_,_,_,_,_,_,_,_,_,J,(frz3 H).up O,h101,h102⟩
set_option maxHeartbeats 4000000 in
set_option maxRecDepth 10000 in
theorem js(hI:xA I)(hf:Fine s)(hK:Kn s K)(hx:RatK K n1 a1 m1 c1 n2 a2 m2 c2 p N1 M1)(hy:RatK K n3 a3 m3 c3 n4 a4 m4 c4 q N1 M1)(hz:RatK K n5 a5 m5 c5 n6 a6 m6 c6 u N2 M2)(hw:RatK K n7 a7 m7 c7 n8 a8 m8 c8 v N2 M2)(h1:N1*M2+N2*M1<1000000000000000000)(h2:M1*M2<1000000000000000000)(hroom:s.next+40000≤yC) :
  ∃v' s',xN Tryz.prog I 39 #[.agg ⟨[.bool n1,.slice a1 m1 c1,.bool n2,.slice a2 m2 c2,.bool n3,.slice a3 m3 c3,.bool n4,.slice a4 m4 c4]⟩,.agg ⟨[.bool n5,.slice a5 m5 c5,.bool n6,.slice a6 m6 c6,.bool n7,.slice a7 m7 c7,.bool n8,.slice a8 m8 c8]⟩] s v' s'∧PostV K s 40000 (p-u) (q-v) (N1*M2+N2*M1) (M1*M2) v' s':=by
 have H:=hf.hl
 have hx:=hx.mono (zZ (D:=[]))
 have hy:=hy.mono (zZ (D:=[]))
 have hz:=hz.mono (zZ (D:=[]))
 have hw:=hw.mono (zZ (D:=[]))
 refine zX 2 (hI 39 U U) Tryz.func39 J fb39 J ?_
 refine zE (zY H J O (fun b2 s1 H=>?_))
 refine zY H J O (fun b3 s2 H=>?_)
 refine zS H zf38 O (fun b4 s3 H=>?_)
 refine zD (yT [⟨0,0,.light,[3,6,8]⟩,⟨1,1,.light,[3,6,8]⟩,⟨2,0,.light,[1,6,8]⟩,⟨3,4,.light,[1,6,8]⟩,⟨5,0,.light,[1,3,8]⟩,⟨6,32,.light,[1,3,8]⟩,⟨7,0,.light,[1,3,6]⟩,⟨8,128,.light,[1,3,6]⟩,⟨4,15,.whole,[6,8]⟩,⟨9,511,.whole,[]⟩,⟨10,1023,.light,[]⟩,⟨11,2047,.whole,[]⟩] Z0 Z0 (zA J J (zB q8 J ⟨J,(zQ J J xC J H.own2 Y2 J (zA J J (zB q8 J ⟨J,(zQ J J xC J H.own1 Y1 J (zA J J (zB q7 J ⟨J,(zQ J J xC J H.own2 Y2 J (zA J J (zB q7 J ⟨J,(zQ J J xC J H.own1 Y1 J (zM J J (zF J fc98 J (qe (sub04_ok hI (Fine.pr H.fine (xW H.lt2 (xW H.lt1 qO))) X3 hx hz Z1 Z1 Z) (fun s9 D9 n1 a1 m1 c1 n1d a1d m1d c1d Hc h101=>?_)))))⟩)))⟩)))⟩)))⟩)))
 have Hc:=HL.wider H.fine Z3 Z5 Hc
 obtain⟨Φ,ku,kd,H⟩:=qk (K:=K) H Hc
 try replace hy:=hy.mono ku
 try replace hw:=hw.mono ku
 replace h101:=h101.mono kd
 clear Hc ku kd
 refine zM J J (zF J fc98 J (qe (sub04_ok hI H.fine (kn3 hK H) hy hw Z1 Z1 Z) (fun s9 D9 n2 a2 m2 c2 n2d a2d m2d c2d Hc h102=>?_)))
 have Hc:=HL.wider H.fine Z3 Z7 Hc
 obtain⟨Φ,ku,kd,H⟩:=qk (K:=K) H Hc
 try replace h101:=h101.mono ku
 replace h102:=h102.mono kd
 clear Hc ku kd
 refine zA J J (xE (c:=[.bool _,.slice _ _ _,.bool _,.slice _ _ _,.bool _,.slice _ _ _,.bool _,.slice _ _ _]) bf38 J ⟨J,(xM (vs:=[.bool _,.slice _ _ _,.bool _,.slice _ _ _,.bool _,.slice _ _ _,.bool _,.slice _ _ _]) (fr:=[]) H J J sz38 J J J J J J Z2 O (fun s4 H=>?_))⟩)
 refine zU (yO (yB (yP qN J H.own0 J ?_)))
 exact⟨Φ,_,_,_,_,_,_,_,_,_,_,_,_,_,_,_,_,J,(frz3 H).up O,h101,h102⟩
set_option maxHeartbeats 4000000 in
set_option maxRecDepth 10000 in
theorem cross05_ok(hI:xA I)(hf:Fine s)(hK:Kn s K)(hx:RatK K n1 a1 m1 c1 n2 a2 m2 c2 p N1 M1)(hy:RatK K n3 a3 m3 c3 n4 a4 m4 c4 q N1 M1)(hz:RatK K n5 a5 m5 c5 n6 a6 m6 c6 u N2 M2)(hw:RatK K n7 a7 m7 c7 n8 a8 m8 c8 v N2 M2)(g1:N1*N2<1000000000000000000)(g2:M1*M2<1000000000000000000)(g3:N1<1000000000000000000)(g4:N2<1000000000000000000)(g5:N1*N2*(M1*M2)+N1*N2*(M1*M2)<1000000000000000000)(g6:M1*M2*(M1*M2)<1000000000000000000)(hroom:s.next+40000≤yC) :
  ∃v' s',xN Tryz.prog I 226 #[.agg ⟨[.bool n1,.slice a1 m1 c1,.bool n2,.slice a2 m2 c2,.bool n3,.slice a3 m3 c3,.bool n4,.slice a4 m4 c4]⟩,.agg ⟨[.bool n5,.slice a5 m5 c5,.bool n6,.slice a6 m6 c6,.bool n7,.slice a7 m7 c7,.bool n8,.slice a8 m8 c8]⟩] s v' s'∧PostQ K s 40000 (p*v-q*u) (N1*N2*(M1*M2)+N1*N2*(M1*M2)) (M1*M2*(M1*M2)) v' s':=by
 have H:=hf.hl
 have hx:=hx.mono (zZ (D:=[]))
 have hy:=hy.mono (zZ (D:=[]))
 have hz:=hz.mono (zZ (D:=[]))
 have hw:=hw.mono (zZ (D:=[]))
 refine zX 2 (hI 226 U U) Tryz.func226 J fb226 J ?_
 refine zE (zY H J O (fun b2 s1 H=>?_))
 refine zY H J O (fun b3 s2 H=>?_)
 refine zS H wB O (fun b4 s3 H=>?_)
 refine zD (yT [⟨0,0,.light,[3,6,8]⟩,⟨1,1,.light,[3,6,8]⟩,⟨2,0,.light,[1,6,8]⟩,⟨3,4,.light,[1,6,8]⟩,⟨5,0,.light,[1,3,8]⟩,⟨6,32,.light,[1,3,8]⟩,⟨7,0,.light,[1,3,6]⟩,⟨8,128,.light,[1,3,6]⟩,⟨4,15,.whole,[6,8]⟩,⟨9,511,.whole,[]⟩,⟨10,1023,.whole,[]⟩,⟨11,2047,.whole,[]⟩] Z0 Z0 (zA J J (zB q8 J ⟨J,(zQ J J xC J H.own2 Y2 J (zA J J (zB q7 J ⟨J,(zQ J J xC J H.own1 Y1 J (zA J J (zB q7 J ⟨J,(zQ J J xC J H.own2 Y2 J (zA J J (zB q8 J ⟨J,(zQ J J xC J H.own1 Y1 J (zM J J (zF J fc99 J (qe (kF hI (Fine.pr H.fine (xW H.lt2 (xW H.lt1 qO))) X3 hx hw Z1 Z1 Z1 Z1 Z) (fun s9 D9 n1 a1 m1 c1 n1d a1d m1d c1d Hc h101=>?_)))))⟩)))⟩)))⟩)))⟩)))
 have Hc:=HL.wider H.fine Z3 Z5 Hc
 obtain⟨Φ,ku,kd,H⟩:=qk (K:=K) H Hc
 try replace hy:=hy.mono ku
 try replace hz:=hz.mono ku
 replace h101:=h101.mono kd
 clear Hc ku kd
 refine zM J J (zF J fc99 J (qe (kF hI H.fine (kn3 hK H) hy hz Z1 Z1 Z1 Z1 Z) (fun s9 D9 n2 a2 m2 c2 n2d a2d m2d c2d Hc h102=>?_)))
 have Hc:=HL.wider H.fine Z3 Z7 Hc
 obtain⟨Φ,ku,kd,H⟩:=qk (K:=K) H Hc
 try replace h101:=h101.mono ku
 replace h102:=h102.mono kd
 clear Hc ku kd
 refine zM J J (zF J fc98 J (qe (sub04_ok hI H.fine (kn3 hK H) h101 h102 Z1 Z1 Z) (fun s9 D9 n3 a3 m3 c3 n3d a3d m3d c3d Hc h103=>?_)))
 have Hc:=HL.wider H.fine Z3 Z7 Hc
 obtain⟨Φ,ku,kd,H⟩:=qk (K:=K) H Hc
 replace h103:=h103.mono kd
 clear Hc ku kd
 refine xM (vs:=[.bool _,.slice _ _ _,.bool _,.slice _ _ _]) (fr:=[]) H J J kb J J J J J J Z2 O (fun s4 H=>?_)
 refine zU (yO (yB (yP xC J H.own0 J ?_)))
 exact⟨Φ,_,_,_,_,_,_,_,_,J,(frz3 H).up O,h103⟩
set_option maxHeartbeats 4000000 in
set_option maxRecDepth 10000 in
theorem dot05_ok(hI:xA I)(hf:Fine s)(hK:Kn s K)(hx:RatK K n1 a1 m1 c1 n2 a2 m2 c2 p N1 M1)(hy:RatK K n3 a3 m3 c3 n4 a4 m4 c4 q N1 M1)(hz:RatK K n5 a5 m5 c5 n6 a6 m6 c6 u N2 M2)(hw:RatK K n7 a7 m7 c7 n8 a8 m8 c8 v N2 M2)(g1:N1*N2<1000000000000000000)(g2:M1*M2<1000000000000000000)(g3:N1<1000000000000000000)(g4:N2<1000000000000000000)(g5:N1*N2*(M1*M2)+N1*N2*(M1*M2)<1000000000000000000)(g6:M1*M2*(M1*M2)<1000000000000000000)(hroom:s.next+40000≤yC) :
  ∃v' s',xN Tryz.prog I 265 #[.agg ⟨[.bool n1,.slice a1 m1 c1,.bool n2,.slice a2 m2 c2,.bool n3,.slice a3 m3 c3,.bool n4,.slice a4 m4 c4]⟩,.agg ⟨[.bool n5,.slice a5 m5 c5,.bool n6,.slice a6 m6 c6,.bool n7,.slice a7 m7 c7,.bool n8,.slice a8 m8 c8]⟩] s v' s'∧PostQ K s 40000 (p*u+q*v) (N1*N2*(M1*M2)+N1*N2*(M1*M2)) (M1*M2*(M1*M2)) v' s':=by
 have H:=hf.hl
 have hx:=hx.mono (zZ (D:=[]))
 have hy:=hy.mono (zZ (D:=[]))
 have hz:=hz.mono (zZ (D:=[]))
 have hw:=hw.mono (zZ (D:=[]))
 refine zX 2 (hI 265 U U) Tryz.func265 J fb265 J ?_
 refine zE (zY H J O (fun b2 s1 H=>?_))
 refine zY H J O (fun b3 s2 H=>?_)
 refine zS H wB O (fun b4 s3 H=>?_)
 refine zD (yT [⟨0,0,.light,[3,6,8]⟩,⟨1,1,.light,[3,6,8]⟩,⟨2,0,.light,[1,6,8]⟩,⟨3,4,.light,[1,6,8]⟩,⟨5,0,.light,[1,3,8]⟩,⟨6,32,.light,[1,3,8]⟩,⟨7,0,.light,[1,3,6]⟩,⟨8,128,.light,[1,3,6]⟩,⟨4,15,.whole,[6,8]⟩,⟨9,511,.whole,[]⟩,⟨10,1023,.whole,[]⟩,⟨11,2047,.whole,[]⟩] Z0 Z0 (zA J J (zB q8 J ⟨J,(zQ J J xC J H.own2 Y2 J (zA J J (zB q8 J ⟨J,(zQ J J xC J H.own1 Y1 J (zA J J (zB q7 J ⟨J,(zQ J J xC J H.own2 Y2 J (zA J J (zB q7 J ⟨J,(zQ J J xC J H.own1 Y1 J (zM J J (zF J fc99 J (qe (kF hI (Fine.pr H.fine (xW H.lt2 (xW H.lt1 qO))) X3 hx hz Z1 Z1 Z1 Z1 Z) (fun s9 D9 n1 a1 m1 c1 n1d a1d m1d c1d Hc h101=>?_)))))⟩)))⟩)))⟩)))⟩)))
 have Hc:=HL.wider H.fine Z3 Z5 Hc
 obtain⟨Φ,ku,kd,H⟩:=qk (K:=K) H Hc
 try replace hy:=hy.mono ku
 try replace hw:=hw.mono ku
 replace h101:=h101.mono kd
 clear Hc ku kd
 refine zM J J (zF J fc99 J (qe (kF hI H.fine (kn3 hK H) hy hw Z1 Z1 Z1 Z1 Z) (fun s9 D9 n2 a2 m2 c2 n2d a2d m2d c2d Hc h102=>?_)))
 have Hc:=HL.wider H.fine Z3 Z7 Hc
 obtain⟨Φ,ku,kd,H⟩:=qk (K:=K) H Hc
 try replace h101:=h101.mono ku
 replace h102:=h102.mono kd
 clear Hc ku kd
 refine zM J J (zF J fc36 J (qe (wQ hI H.fine (kn3 hK H) h101 h102 Z1 Z1 Z) (fun s9 D9 n3 a3 m3 c3 n3d a3d m3d c3d Hc h103=>?_)))
 have Hc:=HL.wider H.fine Z3 Z7 Hc
 obtain⟨Φ,ku,kd,H⟩:=qk (K:=K) H Hc
 replace h103:=h103.mono kd
 clear Hc ku kd
 refine xM (vs:=[.bool _,.slice _ _ _,.bool _,.slice _ _ _]) (fr:=[]) H J J kb J J J J J J Z2 O (fun s4 H=>?_)
 refine zU (yO (yB (yP xC J H.own0 J ?_)))
 exact⟨Φ,_,_,_,_,_,_,_,_,J,(frz3 H).up O,h103⟩
set_option maxHeartbeats 4000000 in
set_option maxRecDepth 10000 in
theorem rotate05_ok(hI:xA I)(hf:Fine s)(hK:Kn s K)(hx:RatK K n1 a1 m1 c1 n2 a2 m2 c2 p N1 M1)(hy:RatK K n3 a3 m3 c3 n4 a4 m4 c4 q N1 M1)(hz:RatK K n5 a5 m5 c5 n6 a6 m6 c6 u N2 M2)(hw:RatK K n7 a7 m7 c7 n8 a8 m8 c8 v N2 M2)(g1:N1*N2<1000000000000000000)(g2:M1*M2<1000000000000000000)(g3:N1<1000000000000000000)(g4:N2<1000000000000000000)(g5:N1*N2*(M1*M2)+N1*N2*(M1*M2)<1000000000000000000)(g6:M1*M2*(M1*M2)<1000000000000000000)(hroom:s.next+80000≤yC) :
  ∃v' s',xN Tryz.prog I 40 #[.agg ⟨[.bool n1,.slice a1 m1 c1,.bool n2,.slice a2 m2 c2,.bool n3,.slice a3 m3 c3,.bool n4,.slice a4 m4 c4]⟩,.agg ⟨[.bool n5,.slice a5 m5 c5,.bool n6,.slice a6 m6 c6,.bool n7,.slice a7 m7 c7,.bool n8,.slice a8 m8 c8]⟩] s v' s'∧PostV K s 80000 (p*u-q*v) (q*u+p*v) (N1*N2*(M1*M2)+N1*N2*(M1*M2)) (M1*M2*(M1*M2)) v' s':=by
 have H:=hf.hl
 have hx:=hx.mono (zZ (D:=[]))
 have hy:=hy.mono (zZ (D:=[]))
 have hz:=hz.mono (zZ (D:=[]))
 have hw:=hw.mono (zZ (D:=[]))
 refine zX 2 (hI 40 U U) Tryz.func40 J fb40 J ?_
 refine zE (zY H J O (fun b2 s1 H=>?_))
 refine zY H J O (fun b3 s2 H=>?_)
 refine zS H zf38 O (fun b4 s3 H=>?_)
 refine zD (yT [⟨0,0,.light,[3,6,8]⟩,⟨1,1,.light,[3,6,8]⟩,⟨2,0,.light,[1,6,8]⟩,⟨3,4,.light,[1,6,8]⟩,⟨5,0,.light,[1,3,8]⟩,⟨6,32,.light,[1,3,8]⟩,⟨7,0,.light,[1,3,6]⟩,⟨8,128,.light,[1,3,6]⟩,⟨4,15,.fresh,[6,8]⟩,⟨9,511,.fresh,[]⟩,⟨10,1023,.fresh,[]⟩,⟨11,0,.fresh,[1,3,6,8]⟩,⟨12,4095,.whole,[]⟩] Z0 Z0 (zA J J (zB kN J ⟨J,(zQ J J xC J H.own2 Y2 J (zA J J (zB q8 J ⟨J,(zQ J J xC J H.own1 Y1 J (zA J J (zB kM J ⟨J,(zQ J J xC J H.own2 Y2 J (zA J J (zB q7 J ⟨J,(zQ J J xC J H.own1 Y1 J (yK J J (zF J fc99 J (qe (kF hI Y9 X3 hx hz Z1 Z1 Z1 Z1 Z) (fun s9 D9 n1 a1 m1 c1 n1d a1d m1d c1d Hc h101=>?_)))))⟩)))⟩)))⟩)))⟩)))
 have Hc:=HL.wider H.fine H.fine.wfb Z7 Hc
 obtain⟨Φ,ku,kd,H⟩:=qk (K:=K) H Hc
 try replace hx:=hx.mono ku
 try replace hy:=hy.mono ku
 try replace hz:=hz.mono ku
 try replace hw:=hw.mono ku
 replace h101:=h101.mono kd
 clear Hc ku kd
 refine yK J J (zF J fc99 J (qe (kF hI Y9 X3 hy hw Z1 Z1 Z1 Z1 Z) (fun s9 D9 n2 a2 m2 c2 n2d a2d m2d c2d Hc h102=>?_)))
 have Hc:=HL.wider H.fine H.fine.wfb Z7 Hc
 obtain⟨Φ,ku,kd,H⟩:=qk (K:=K) H Hc
 try replace hx:=hx.mono ku
 try replace hy:=hy.mono ku
 try replace hz:=hz.mono ku
 try replace hw:=hw.mono ku
 try replace h101:=h101.mono ku
 replace h102:=h102.mono kd
 clear Hc ku kd
 refine yK J J (zF J fc98 J (qe (sub04_ok hI Y9 X3 h101 h102 Z1 Z1 Z) (fun s9 D9 n3 a3 m3 c3 n3d a3d m3d c3d Hc h103=>?_)))
 have Hc:=HL.wider H.fine H.fine.wfb Z7 Hc
 obtain⟨Φ,ku,kd,H⟩:=qk (K:=K) H Hc
 try replace hx:=hx.mono ku
 try replace hy:=hy.mono ku
 try replace hz:=hz.mono ku
 try replace hw:=hw.mono ku
 replace h103:=h103.mono kd
 clear Hc ku kd
 refine yK J J (zS (Fine.fresh H.fine).hl wB (H.rm (k:=1) O) (fun b5 s4 Hc=>?_))
 have H:=H.call X6
 clear Hc
 refine xM (vs:=[.bool _,.slice _ _ _,.bool _,.slice _ _ _]) (fr:=[]) H J J kb J J J J J J Z2 O (fun s5 H=>?_)
 refine zU (yT [⟨0,0,.light,[3,6,8]⟩,⟨1,1,.light,[3,6,8]⟩,⟨2,0,.light,[1,6,8]⟩,⟨3,4,.light,[1,6,8]⟩,⟨5,0,.light,[1,3,8]⟩,⟨6,32,.light,[1,3,8]⟩,⟨7,0,.light,[1,3,6]⟩,⟨8,128,.light,[1,3,6]⟩,⟨4,15,.fresh,[6,8]⟩,⟨9,511,.fresh,[]⟩,⟨10,1023,.fresh,[]⟩,⟨11,0,.fresh,[1,3,6,8]⟩,⟨12,4095,.whole,[]⟩] Z0 Z0 (zA J J (zB kM J ⟨J,(zQ J J xC J H.own3 Y3 J (zA J J (zB q8 J ⟨J,(zQ J J xC J H.own2 Y2 J (zA J J (zB kN J ⟨J,(zQ J J xC J H.own3 Y3 J (zA J J (zB q7 J ⟨J,(zQ J J xC J H.own2 Y2 J (yK J J (zF J fc99 J (qe (kF hI Y9 X4 hy hz Z1 Z1 Z1 Z1 Z) (fun s9 D9 n4 a4 m4 c4 n4d a4d m4d c4d Hc h104=>?_)))))⟩)))⟩)))⟩)))⟩)))
 have Hc:=HL.wider H.fine H.fine.wfb Z7 Hc
 obtain⟨Φ,ku,kd,H⟩:=kj (K:=K) H Hc
 try replace hx:=hx.mono ku
 try replace hw:=hw.mono ku
 try replace h103:=h103.mono ku
 replace h104:=h104.mono kd
 clear Hc ku kd
 refine yK J J (zF J fc99 J (qe (kF hI Y9 X4 hx hw Z1 Z1 Z1 Z1 Z) (fun s9 D9 n5 a5 m5 c5 n5d a5d m5d c5d Hc h105=>?_)))
 have Hc:=HL.wider H.fine H.fine.wfb Z7 Hc
 obtain⟨Φ,ku,kd,H⟩:=kj (K:=K) H Hc
 try replace h103:=h103.mono ku
 try replace h104:=h104.mono ku
 replace h105:=h105.mono kd
 clear Hc ku kd
 refine yK J J (zF J fc36 J (qe (wQ hI Y9 X4 h104 h105 Z1 Z1 Z) (fun s9 D9 n6 a6 m6 c6 n6d a6d m6d c6d Hc h106=>?_)))
 have Hc:=HL.wider H.fine H.fine.wfb Z7 Hc
 obtain⟨Φ,ku,kd,H⟩:=kj (K:=K) H Hc
 try replace h103:=h103.mono ku
 replace h106:=h106.mono kd
 clear Hc ku kd
 refine yK J J (zS (Fine.fresh H.fine).hl wB (H.rm (k:=1) O) (fun b6 s6 Hc=>?_))
 have H:=H.call X6
 clear Hc
 refine xM (vs:=[.bool _,.slice _ _ _,.bool _,.slice _ _ _]) (fr:=[]) H J J kb J J J J J J Z2 O (fun s7 H=>?_)
 refine zU (zE (zN xC J H.own1 J (zN xC J H.own0 J (xE (c:=[.bool _,.slice _ _ _,.bool _,.slice _ _ _,.bool _,.slice _ _ _,.bool _,.slice _ _ _]) bf38 J (vQ (vs:=[.bool _,.slice _ _ _,.bool _,.slice _ _ _,.bool _,.slice _ _ _,.bool _,.slice _ _ _]) H sz38 J J J J J O (fun s8 H=>?_))))))
 refine zD (yO (yB (yP qN J H.own2 J ?_)))
 exact⟨Φ,_,_,_,_,_,_,_,_,_,_,_,_,_,_,_,_,J,(frz5 H).up O,h103,h106⟩
set_option maxHeartbeats 4000000 in
set_option maxRecDepth 10000 in
theorem after05_ok(hI:xA I)(hf:Fine s)(hK:Kn s K)(hx:RatK K n1 a1 m1 c1 n2 a2 m2 c2 p N1 M1)(hy:RatK K n3 a3 m3 c3 n4 a4 m4 c4 q N1 M1)(hz:RatK K n5 a5 m5 c5 n6 a6 m6 c6 u N2 M2)(hw:RatK K n7 a7 m7 c7 n8 a8 m8 c8 v N2 M2)(g1:N1*N2<1000000000000000000)(g2:M1*M2<1000000000000000000)(g3:N1<1000000000000000000)(g4:N2<1000000000000000000)(g5:N1*N2*(M1*M2)+N1*N2*(M1*M2)<1000000000000000000)(g6:M1*M2*(M1*M2)<1000000000000000000)(hroom:s.next+80000≤yC) :
  ∃v' s',xN Tryz.prog I 73 #[.agg ⟨[.bool n1,.slice a1 m1 c1,.bool n2,.slice a2 m2 c2,.bool n3,.slice a3 m3 c3,.bool n4,.slice a4 m4 c4]⟩,.agg ⟨[.bool n5,.slice a5 m5 c5,.bool n6,.slice a6 m6 c6,.bool n7,.slice a7 m7 c7,.bool n8,.slice a8 m8 c8]⟩] s v' s'∧PostV K s 80000 (p*u-q*v) (q*u+p*v) (N1*N2*(M1*M2)+N1*N2*(M1*M2)) (M1*M2*(M1*M2)) v' s':=by
 have H:=hf.hl
 have hx:=hx.mono (zZ (D:=[]))
 have hy:=hy.mono (zZ (D:=[]))
 have hz:=hz.mono (zZ (D:=[]))
 have hw:=hw.mono (zZ (D:=[]))
 refine zX 2 (hI 73 U U) Tryz.func73 J fb73 J ?_
 refine zE (zY H J O (fun b2 s1 H=>?_))
 refine zY H J O (fun b3 s2 H=>?_)
 refine zS H zf36 O (fun b4 s3 H=>?_)
 refine zD (yT [⟨0,0,.light,[3,6,8]⟩,⟨1,1,.light,[3,6,8]⟩,⟨2,0,.light,[1,6,8]⟩,⟨3,4,.light,[1,6,8]⟩,⟨5,0,.light,[1,3,8]⟩,⟨6,32,.light,[1,3,8]⟩,⟨7,0,.light,[1,3,6]⟩,⟨8,128,.light,[1,3,6]⟩,⟨4,15,.fresh,[6,8]⟩,⟨9,511,.fresh,[]⟩,⟨10,1023,.fresh,[]⟩,⟨11,0,.fresh,[1,3,6,8]⟩,⟨12,4095,.whole,[]⟩] Z0 Z0 (zA J J (zB kN J ⟨J,(zQ J J xC J H.own2 Y2 J (zA J J (zB kN J ⟨J,(zQ J J xC J H.own1 Y1 J (zA J J (zB kM J ⟨J,(zQ J J xC J H.own2 Y2 J (zA J J (zB kM J ⟨J,(zQ J J xC J H.own1 Y1 J (yK J J (zF J fc99 J (qe (kF hI Y9 X3 hx hz Z1 Z1 Z1 Z1 Z) (fun s9 D9 n1 a1 m1 c1 n1d a1d m1d c1d Hc h101=>?_)))))⟩)))⟩)))⟩)))⟩)))
 have Hc:=HL.wider H.fine H.fine.wfb Z7 Hc
 obtain⟨Φ,ku,kd,H⟩:=qk (K:=K) H Hc
 try replace hx:=hx.mono ku
 try replace hy:=hy.mono ku
 try replace hz:=hz.mono ku
 try replace hw:=hw.mono ku
 replace h101:=h101.mono kd
 clear Hc ku kd
 refine yK J J (zF J fc99 J (qe (kF hI Y9 X3 hy hw Z1 Z1 Z1 Z1 Z) (fun s9 D9 n2 a2 m2 c2 n2d a2d m2d c2d Hc h102=>?_)))
 have Hc:=HL.wider H.fine H.fine.wfb Z7 Hc
 obtain⟨Φ,ku,kd,H⟩:=qk (K:=K) H Hc
 try replace hx:=hx.mono ku
 try replace hy:=hy.mono ku
 try replace hz:=hz.mono ku
 try replace hw:=hw.mono ku
 try replace h101:=h101.mono ku
 replace h102:=h102.mono kd
 clear Hc ku kd
 refine yK J J (zF J fc98 J (qe (sub04_ok hI Y9 X3 h101 h102 Z1 Z1 Z) (fun s9 D9 n3 a3 m3 c3 n3d a3d m3d c3d Hc h103=>?_)))
 have Hc:=HL.wider H.fine H.fine.wfb Z7 Hc
 obtain⟨Φ,ku,kd,H⟩:=qk (K:=K) H Hc
 try replace hx:=hx.mono ku
 try replace hy:=hy.mono ku
 try replace hz:=hz.mono ku
 try replace hw:=hw.mono ku
 replace h103:=h103.mono kd
 clear Hc ku kd
 refine yK J J (zS (Fine.fresh H.fine).hl wB (H.rm (k:=1) O) (fun b5 s4 Hc=>?_))
 have H:=H.call X6
 clear Hc
 refine xM (vs:=[.bool _,.slice _ _ _,.bool _,.slice _ _ _]) (fr:=[]) H J J kb J J J J J J Z2 O (fun s5 H=>?_)
 refine zU (yT [⟨0,0,.light,[3,6,8]⟩,⟨1,1,.light,[3,6,8]⟩,⟨2,0,.light,[1,6,8]⟩,⟨3,4,.light,[1,6,8]⟩,⟨5,0,.light,[1,3,8]⟩,⟨6,32,.light,[1,3,8]⟩,⟨7,0,.light,[1,3,6]⟩,⟨8,128,.light,[1,3,6]⟩,⟨4,15,.fresh,[6,8]⟩,⟨9,511,.fresh,[]⟩,⟨10,1023,.fresh,[]⟩,⟨11,0,.fresh,[1,3,6,8]⟩,⟨12,4095,.whole,[]⟩] Z0 Z0 (zA J J (zB kM J ⟨J,(zQ J J xC J H.own3 Y3 J (zA J J (zB kN J ⟨J,(zQ J J xC J H.own2 Y2 J (zA J J (zB kN J ⟨J,(zQ J J xC J H.own3 Y3 J (zA J J (zB kM J ⟨J,(zQ J J xC J H.own2 Y2 J (yK J J (zF J fc99 J (qe (kF hI Y9 X4 hy hz Z1 Z1 Z1 Z1 Z) (fun s9 D9 n4 a4 m4 c4 n4d a4d m4d c4d Hc h104=>?_)))))⟩)))⟩)))⟩)))⟩)))
 have Hc:=HL.wider H.fine H.fine.wfb Z7 Hc
 obtain⟨Φ,ku,kd,H⟩:=kj (K:=K) H Hc
 try replace hx:=hx.mono ku
 try replace hw:=hw.mono ku
 try replace h103:=h103.mono ku
 replace h104:=h104.mono kd
 clear Hc ku kd
 refine yK J J (zF J fc99 J (qe (kF hI Y9 X4 hx hw Z1 Z1 Z1 Z1 Z) (fun s9 D9 n5 a5 m5 c5 n5d a5d m5d c5d Hc h105=>?_)))
 have Hc:=HL.wider H.fine H.fine.wfb Z7 Hc
 obtain⟨Φ,ku,kd,H⟩:=kj (K:=K) H Hc
 try replace h103:=h103.mono ku
 try replace h104:=h104.mono ku
 replace h105:=h105.mono kd
 clear Hc ku kd
 refine yK J J (zF J fc36 J (qe (wQ hI Y9 X4 h104 h105 Z1 Z1 Z) (fun s9 D9 n6 a6 m6 c6 n6d a6d m6d c6d Hc h106=>?_)))
 have Hc:=HL.wider H.fine H.fine.wfb Z7 Hc
 obtain⟨Φ,ku,kd,H⟩:=kj (K:=K) H Hc
 try replace h103:=h103.mono ku
 replace h106:=h106.mono kd
 clear Hc ku kd
 refine yK J J (zS (Fine.fresh H.fine).hl wB (H.rm (k:=1) O) (fun b6 s6 Hc=>?_))
 have H:=H.call X6
 clear Hc
 refine xM (vs:=[.bool _,.slice _ _ _,.bool _,.slice _ _ _]) (fr:=[]) H J J kb J J J J J J Z2 O (fun s7 H=>?_)
 refine zU (zE (zN xC J H.own1 J (zN xC J H.own0 J (xE (c:=[.bool _,.slice _ _ _,.bool _,.slice _ _ _,.bool _,.slice _ _ _,.bool _,.slice _ _ _]) bf36 J (vQ (vs:=[.bool _,.slice _ _ _,.bool _,.slice _ _ _,.bool _,.slice _ _ _,.bool _,.slice _ _ _]) H jo J J J J J O (fun s8 H=>?_))))))
 refine zD (yO (yB (yP kU J H.own2 J ?_)))
 exact⟨Φ,_,_,_,_,_,_,_,_,_,_,_,_,_,_,_,_,J,(frz5 H).up O,h103,h106⟩
set_option maxHeartbeats 4000000 in
set_option maxRecDepth 10000 in
theorem back05_ok(hI:xA I)(hf:Fine s)(hK:Kn s K)(hx:RatK K n1 a1 m1 c1 n2 a2 m2 c2 p N1 M1)(hy:RatK K n3 a3 m3 c3 n4 a4 m4 c4 q N1 M1)(h1:N1<1000000000000000000)(hroom:s.next+100≤yC) :
  ∃v' s',xN Tryz.prog I 100 #[.agg ⟨[.bool n1,.slice a1 m1 c1,.bool n2,.slice a2 m2 c2,.bool n3,.slice a3 m3 c3,.bool n4,.slice a4 m4 c4]⟩] s v' s'∧PostV K s 100 p (-q) N1 M1 v' s':=by
 have H:=hf.hl
 have hx:=hx.mono (zZ (D:=[]))
 have hy:=hy.mono (zZ (D:=[]))
 refine zX 1 (hI 100 U U) Tryz.func100 J fb100 J ?_
 refine zE (zY H J O (fun b1 s1 H=>?_))
 refine zS H zf36 O (fun b2 s2 H=>?_)
 refine zD (yT [⟨0,0,.light,[3]⟩,⟨1,1,.light,[3]⟩,⟨2,0,.light,[1]⟩,⟨3,4,.light,[1]⟩,⟨4,12,.whole,[1]⟩,⟨5,31,.light,[]⟩,⟨6,63,.whole,[]⟩] Z0 Z0 (zA J J (zB kN J ⟨J,(zQ J J xC J H.own1 Y1 J (zA J J (zB kM J ⟨J,(zQ J J xC J H.own1 Y1 J (zM J J (zF J fc38 J (qe (neg04_ok hI (Fine.pr H.fine (xW H.lt1 qO)) X2 hy Z1 Z) (fun s9 D9 n1 a1 m1 c1 n1d a1d m1d c1d Hc h101=>?_)))))⟩)))⟩)))
 have Hc:=HL.wider H.fine Z3 Z5 Hc
 obtain⟨Φ,ku,kd,H⟩:=k8 (K:=K) H Hc
 try replace hx:=hx.mono ku
 replace h101:=h101.mono kd
 clear Hc ku kd
 refine zA J J (xE (c:=[.bool _,.slice _ _ _,.bool _,.slice _ _ _,.bool _,.slice _ _ _,.bool _,.slice _ _ _]) bf36 J ⟨J,(xM (vs:=[.bool _,.slice _ _ _,.bool _,.slice _ _ _,.bool _,.slice _ _ _,.bool _,.slice _ _ _]) (fr:=[]) H J J jo J J J J J J Z2 O (fun s3 H=>?_))⟩)
 refine zU (yO (yB (yP kU J H.own0 J ?_)))
 exact⟨Φ,_,_,_,_,_,_,_,_,_,_,_,_,_,_,_,_,J,(frz2 H).up O,hx,h101⟩
set_option maxHeartbeats 4000000 in
set_option maxRecDepth 10000 in
theorem sameTurn05_ok(hI:xA I)(hf:Fine s)(hK:Kn s K)(hx:RatK K n1 a1 m1 c1 n2 a2 m2 c2 p N1 M1)(hy:RatK K n3 a3 m3 c3 n4 a4 m4 c4 q N1 M1)(hz:RatK K n5 a5 m5 c5 n6 a6 m6 c6 u N2 M2)(hw:RatK K n7 a7 m7 c7 n8 a8 m8 c8 v N2 M2)(h1:N1<1000000000000000000000000000000000000000000000000000000)(h2:N2<1000000000000000000000000000000000000000000000000000000)(h3:M1<1000000000000000000000000000000000000000000000000000000)(h4:M2<1000000000000000000000000000000000000000000000000000000)(hroom:s.next+1000≤yC) :
  ∃v' s',xN Tryz.prog I 51 #[.agg ⟨[.bool n1,.slice a1 m1 c1,.bool n2,.slice a2 m2 c2,.bool n3,.slice a3 m3 c3,.bool n4,.slice a4 m4 c4]⟩,.agg ⟨[.bool n5,.slice a5 m5 c5,.bool n6,.slice a6 m6 c6,.bool n7,.slice a7 m7 c7,.bool n8,.slice a8 m8 c8]⟩] s v' s'∧qQ s 1000 (.bool (decide (p=u∧q=v))) v' s':=by
 have H:=hf.hl
 have hx:=hx.mono (zZ (D:=[]))
 have hy:=hy.mono (zZ (D:=[]))
 have hz:=hz.mono (zZ (D:=[]))
 have hw:=hw.mono (zZ (D:=[]))
 refine zX 2 (hI 51 U U) Tryz.func51 J fb51 J ?_
 refine zE (zY H J O (fun b2 s1 H=>?_))
 refine zY H J O (fun b3 s2 H=>?_)
 refine zG (zD (zE (zB kN J (zN xC J H.own1 J (zB kN J (zN xC J H.own0 J (zF J fc109 J (callB (same04_ok hI H.fine (kn2 hK H) hx hz Z1 Z1 Z1 Z1 Z) (fun hb1 s9 Hc=>?_) (fun hb1 s9 Hc=>?_)))))))))
 ·have H:=H.call0 Hc
  clear Hc
  refine zI J (zO J (zO J (zO J (zO J (zO J (yY J (zK J (zD (yO (yB (yV ?_)))))))))))
  refine⟨congrArg Value.bool ?_,(H.sub Z9).up O⟩
  simp_all
 have H:=H.call0 Hc
 clear Hc
 refine zI J (zB kM J (zN xC J H.own1 J (zB kM J (zN xC J H.own0 J (zF J fc109 J (callB (same04_ok hI H.fine (kn2 hK H) hy hw Z1 Z1 Z1 Z1 Z) (fun hb2 s9 Hc=>?_) (fun hb2 s9 Hc=>?_)))))))
 ·have H:=H.call0 Hc
  clear Hc
  refine yD J J (zK J (zD (yO (yB (yV (⟨congrArg Value.bool ?_,(H.sub Z9).up O⟩))))))
  simp_all
 have H:=H.call0 Hc
 clear Hc
 refine yD J J (zK J (zD (yO (yB (yV (⟨congrArg Value.bool ?_,(H.sub Z9).up O⟩))))))
 simp_all
theorem jA(x:Int):Rat.divInt x 1=(x:Rat):=by
 rw[show(1:Int)=((1:Nat):Int)from rfl,Rat.divInt_ofNat]
 exact Rat.mkRat_one x
set_option maxHeartbeats 4000000 in
set_option maxRecDepth 10000 in
theorem of05_ok(hI:xA I)(hf:Fine s)(hK:Kn s K){x y:Int}{N:Nat}(hx:x.natAbs≤N)(hy:y.natAbs≤N)(hN:N<1000000000000000000)(hroom:s.next+2300≤yC) :
  ∃v' s',xN Tryz.prog I 41 #[.int .i64 x,.int .i64 y] s v' s'∧PostV K s 2300 (x:Rat) (y:Rat) N 1 v' s':=by
 have H:=hf.hl
 refine zX 2 (hI 41 U U) Tryz.func41 J fb41 J ?_
 refine zE (zS H zf38 O (fun b4 s1 H=>?_))
 refine zD (zE (zC J (zF J fc20 J (qe (wS hI H.fine Z1 (M:=1) U O U U (kn1 hK H) Z) (fun s9 D9 n1 a1 m1 c1 n1d a1d m1d c1d Hc h101=>?_)))))
 obtain⟨Φ,ku,kd,H⟩:=ko (K:=K) H Hc
 replace h101:=h101.mono kd
 clear Hc ku kd
 refine zC J (zF J fc20 J (qe (wS hI H.fine Z1 (M:=1) U O U U (kn1 hK H) Z) (fun s9 D9 n2 a2 m2 c2 n2d a2d m2d c2d Hc h102=>?_)))
 obtain⟨Φ,ku,kd,H⟩:=ko (K:=K) H Hc
 try replace h101:=h101.mono ku
 replace h102:=h102.mono kd
 clear Hc ku kd
 refine xE (c:=[.bool _,.slice _ _ _,.bool _,.slice _ _ _,.bool _,.slice _ _ _,.bool _,.slice _ _ _]) bf38 J (zT (vs:=[.bool _,.slice _ _ _,.bool _,.slice _ _ _,.bool _,.slice _ _ _,.bool _,.slice _ _ _]) H sz38 J J J J J O (fun s2 H=>?_))
 refine zD (yO (yB (yP qN J H.own0 J ?_)))
 rw[jA]at h101 h102
 exact⟨Φ,_,_,_,_,_,_,_,_,_,_,_,_,_,_,_,_,J,(frz1 H).up O,h101,h102⟩
set_option maxHeartbeats 4000000 in
set_option maxRecDepth 10000 in
theorem still05_ok(hI:xA I)(hf:Fine s)(hK:Kn s K)(hroom:s.next+1200≤yC) :
  ∃v' s',xN Tryz.prog I 37 #[] s v' s'∧PostV K s 1200 1 0 1 1 v' s':=by
 have H:=hf.hl
 refine zX 0 (hI 37 U U) Tryz.func37 J fb37 J ?_
 refine zE (zS H zf36 O (fun b0 s1 H=>?_))
 refine zD (zE (zF J fc20 J (qe (wS hI H.fine (p:=1) (q:=1) (N:=1) (M:=1) U U U U U (kn1 hK H) Z) (fun s9 D9 n1 a1 m1 c1 n1d a1d m1d c1d Hc h101=>?_))))
 obtain⟨Φ,ku,kd,H⟩:=ko (K:=K) H Hc
 replace h101:=h101.mono kd
 clear Hc ku kd
 refine xE (c:=[.bool _,.slice _ _ _,.bool _,.slice _ _ _,.bool _,.slice _ _ _,.bool _,.slice _ _ _]) bf36 J (zT (vs:=[.bool _,.slice _ _ _,.bool _,.slice _ _ _,.bool _,.slice _ _ _,.bool _,.slice _ _ _]) H jo J J J J J O (fun s2 H=>?_))
 refine zD (yO (yB (yP kU J H.own0 J ?_)))
 exact⟨Φ,_,_,_,_,_,_,_,_,_,_,_,_,_,_,_,_,J,(frz1 H).up O,h101.eq (by rw[jA];rfl),RatK.nil.le O O⟩
theorem same04_yes(hI:xA I)(hf:Fine s)(hK:Kn s K){a b:Rat}(hx:RatK K n1 a1 m1 c1 n2 a2 m2 c2 a N1 M1)(hy:RatK K n3 a3 m3 c3 n4 a4 m4 c4 b N2 M2)(h:a=b)(h1:N1<1000000000000000000000000000000000000000000000000000000)(h2:N2<1000000000000000000000000000000000000000000000000000000)(h3:M1<1000000000000000000000000000000000000000000000000000000)(h4:M2<1000000000000000000000000000000000000000000000000000000)(hroom:s.next+100≤yC) :
  ∃v' s',xN Tryz.prog I 109 #[.agg ⟨[.bool n1,.slice a1 m1 c1,.bool n2,.slice a2 m2 c2]⟩,.agg ⟨[.bool n3,.slice a3 m3 c3,.bool n4,.slice a4 m4 c4]⟩] s v' s'∧qQ s 100 (.bool true) v' s':=by
 have:=same04_ok hI hf hK hx hy h1 h2 h3 h4 hroom
 rwa[decide_eq_true h]at this
set_option maxHeartbeats 4000000 in
set_option maxRecDepth 10000 in
theorem valid05_ok(hI:xA I)(hf:Fine s)(hK:Kn s K)(hx:RatK K n1 a1 m1 c1 n2 a2 m2 c2 p 25 25)(hy:RatK K n3 a3 m3 c3 n4 a4 m4 c4 q 25 25)(ht:p*p+q*q=1)(hroom:s.next+40000≤yC) :
  ∃v' s',xN Tryz.prog I 54 #[.agg ⟨[.bool n1,.slice a1 m1 c1,.bool n2,.slice a2 m2 c2,.bool n3,.slice a3 m3 c3,.bool n4,.slice a4 m4 c4]⟩] s v' s'∧qQ s 40000 (.bool true) v' s':=by
 have H:=hf.hl
 have hx:=hx.mono (zZ (D:=[]))
 have hy:=hy.mono (zZ (D:=[]))
 refine zX 1 (hI 54 U U) Tryz.func54 J fb54 J ?_
 refine zE (zY H J O (fun b1 s1 H=>?_))
 refine zG (zD (yE (zE (zB kN J (zN xC J H.own0 J (zF J fc110 J (callE (valid04_ok hI H.fine (kn1 hK H) hx U U Z) (fun s9 Hc=>?_))))))))
 have H:=H.call0 Hc
 clear Hc
 refine qt J (zI J (zB kM J (zN xC J H.own0 J (zF J fc110 J (callE (valid04_ok hI H.fine (kn1 hK H) hy U U Z) (fun s9 Hc=>?_))))))
 have H:=H.call0 Hc
 clear Hc
 refine qt J (yG J J (zD (yL rfl (yN (zR (yT [⟨0,0,.light,[3,6,8]⟩,⟨1,1,.light,[3,6,8]⟩,⟨2,0,.light,[1,6,8]⟩,⟨3,4,.light,[1,6,8]⟩,⟨5,0,.light,[1,3,8]⟩,⟨6,32,.light,[1,3,8]⟩,⟨7,0,.light,[1,3,6]⟩,⟨8,128,.light,[1,3,6]⟩,⟨4,15,.fresh,[6,8]⟩,⟨9,511,.fresh,[]⟩,⟨10,1023,.fresh,[]⟩,⟨11,0,.fresh,[1,3,6,8]⟩,⟨12,4095,.whole,[]⟩] Z0 Z0 (zA J J (zB kN J ⟨J,(zQ J J xC J H.own0 Y0 J (zA J J (zB kN J ⟨J,(zQ J J xC J H.own0 Y0 J (zA J J (zB kM J ⟨J,?_⟩)))⟩)))⟩))))))))
 refine zQ J J xC J H.own0 Y0 J (zA J J (zB kM J ⟨J,(zQ J J xC J H.own0 Y0 J (yK J J (zF J fc99 J (qe (kF hI Y9 X1 hx hx U U U U Z) (fun s9 D9 n3 a3 m3 c3 n3d a3d m3d c3d Hc h103=>?_)))))⟩))
 have Hc:=HL.wider H.fine H.fine.wfb Z7 Hc
 obtain⟨Φ,ku,kd,H⟩:=ko (K:=K) H Hc
 try replace hy:=hy.mono ku
 replace h103:=h103.mono kd
 clear Hc ku kd
 refine yK J J (zF J fc99 J (qe (kF hI Y9 X1 hy hy U U U U Z) (fun s9 D9 n4 a4 m4 c4 n4d a4d m4d c4d Hc h104=>?_)))
 have Hc:=HL.wider H.fine H.fine.wfb Z7 Hc
 obtain⟨Φ,ku,kd,H⟩:=ko (K:=K) H Hc
 try replace h103:=h103.mono ku
 replace h104:=h104.mono kd
 clear Hc ku kd
 refine yK J J (zF J fc36 J (qe (wQ hI Y9 X1 h103 h104 U U Z) (fun s9 D9 n5 a5 m5 c5 n5d a5d m5d c5d Hc h105=>?_)))
 have Hc:=HL.wider H.fine H.fine.wfb Z7 Hc
 obtain⟨Φ,ku,kd,H⟩:=ko (K:=K) H Hc
 replace h105:=h105.mono kd
 clear Hc ku kd
 refine yK J J (zS (Fine.fresh H.fine).hl wB (H.rm (k:=1) O) (fun b3 s2 Hc=>?_))
 have H:=H.call X6
 clear Hc
 refine xM (vs:=[.bool _,.slice _ _ _,.bool _,.slice _ _ _]) (fr:=[]) H J J kb J J J J J J Z2 O (fun s3 H=>?_)
 refine zU (yT [⟨0,0,.light,[]⟩,⟨1,0,.whole,[0]⟩,⟨2,3,.whole,[]⟩,⟨3,7,.light,[]⟩] Z0 Z0 (zQ J J xC J H.own0 Y0 J (zM J J (zF J fc20 J (qe (wS hI (Fine.pr H.fine (xW H.lt0 qO)) (p:=1) (q:=1) (N:=1) (M:=1) U U U U U X2 Z) (fun s9 D9 n6 a6 m6 c6 n6d a6d m6d c6d Hc h106=>?_))))))
 have Hc:=HL.wider H.fine Z3 Z5 Hc
 obtain⟨Φ,ku,kd,H⟩:=k8 (K:=K) H Hc
 try replace h105:=h105.mono ku
 replace h106:=h106.mono kd
 clear Hc ku kd
 refine zM J J (zF J fc109 J (callE (same04_yes hI H.fine (kn2 hK H) h105 h106 (by rw[ht,jA];rfl) U U U U Z) (fun s9 Hc=>?_)))
 have Hc:=HL.wider H.fine Z3 Z7 Hc
 have H:=H.call0 Hc
 clear Hc
 refine zA J J (zK J ⟨J,(zU (yO (yB (yV ?_))))⟩)
 exact⟨J,(H.sub Z9).up O⟩
end Go.Proofs.YtocnbjjmmgolfaaGreat
namespace Go.Proofs.YtocnbjjmmgolfaaGreat
open Go Go.M Go.Proofs.C14
theorem el115:elemF Tryz.prog 115=some (true,0,4):=by kernel_rfl
theorem fb121:xK Tryz.f121 (Tryz.f121.body.getD .skip) 1=true:=by kernel_rfl
theorem un115:Tryz.prog.underlying 115=some (.slice 34):=by kernel_rfl
theorem fb125:xK Tryz.f125 (Tryz.f125.body.getD .skip) 2=true:=by kernel_rfl
theorem fc121:xJ Tryz.prog 121=true:=by kernel_rfl
theorem fc122:xJ Tryz.prog 122=true:=by kernel_rfl
theorem sl115:q6 Tryz.prog 115=some (34,4,64,[.bool false,.slice none 0 0,.bool false,.slice none 0 0]):=by kernel_rfl
theorem fb67:xK Tryz.f67 (Tryz.f67.body.getD .skip) 2=true:=by kernel_rfl
theorem fc125:xJ Tryz.prog 125=true:=by kernel_rfl
theorem fb105:xK Tryz.f105 (Tryz.f105.body.getD .skip) 1=true:=by kernel_rfl
theorem fb47:xK Tryz.f47 (Tryz.f47.body.getD .skip) 2=true:=by kernel_rfl
theorem fc106:xJ Tryz.prog 106=true:=by kernel_rfl
theorem fb65:xK Tryz.f65 (Tryz.f65.body.getD .skip) 0=true:=by kernel_rfl
theorem fc123:xJ Tryz.prog 123=true:=by kernel_rfl
theorem fb63:xK Tryz.f63 (Tryz.f63.body.getD .skip) 1=true:=by kernel_rfl
theorem fc120:xJ Tryz.prog 120=true:=by kernel_rfl
variable{I:xP}{s:St}{K:Kw}{n1 n2 n3 n4 n5 n6 n7 n8:Bool}{a1 a2 a3 a4 a5 a6 a7 a8:Option Addr}{M1 M2 N1 N2 c1 c2 c3 c4 c5 c6 c7 c8 m1 m2 m3 m4 m5 m6 m7 m8:Nat}{a b p q u v:Rat}
set_option maxHeartbeats 4000000 in
set_option maxRecDepth 10000 in
theorem sum_ok(hI:xA I)(hf:Fine s)(hK:Kn s K){bl cap:Nat}{e:TypeId}(hg:s.get bl=some (.cells [.bool n1,.slice a1 m1 c1,.bool n2,.slice a2 m2 c2,.bool n3,.slice a3 m3 c3,.bool n4,.slice a4 m4 c4] e))(hb:bl<s.next)(hx:RatK K n1 a1 m1 c1 n2 a2 m2 c2 a N1 M1)(hy:RatK K n3 a3 m3 c3 n4 a4 m4 c4 b N2 M2)(h1:N1*M2+N2*M1<1000000000000000000)(h2:M1*M2<1000000000000000000)(hroom:s.next+31000≤yC) :
  ∃v' s',xN Tryz.prog I 121 #[.slice (some ⟨bl,0,none⟩) 2 cap] s v' s'∧PostQ K s 31000 (a+b) (N1*M2+N2*M1) (M1*M2) v' s':=by
 have H:=hf.hl
 have e1:=Nat.le_mul_of_pos_right N1 hy.2.2.m1
 have e3:=Nat.le_mul_of_pos_right M1 hy.2.2.m1
 have hb1:=hx.2.2
 have hb2:=hx.2.2.add hy.2.2
 have hx:=hx.mono (zZ (D:=[]))
 have hy:=hy.mono (zZ (D:=[]))
 have h0:RatK (KX K []) false none 0 0 false none 0 0 0 0 1:=RatK.nil.le O O
 refine zX 1 (hI 121 U U) Tryz.func121 J fb121 J ?_
 refine zE (zS H wB O (fun b2 s1 H=>?_))
 refine zD (zE (zS H wB O (fun b3 s2 H=>?_)))
 refine zD (yE (zE (zH J (yF un115 J J J (kB (zD (yR (kf (zE ?_)))))))))
 refine xB J J (fun h=>?_) Y6
 refine zD (yE (yJ rfl (yN (zR (yE (yR (zE (zP el115 J J O O (zN xC J ((H.old hb hg)) J (zS H wB O (fun b5 s3 H=>?_)))))))))))
 refine zT (vs:=[.bool _,.slice _ _ _,.bool _,.slice _ _ _]) H kb J J J J J O (fun s4 H=>?_)
 refine zD (yA (zN xC J H.own1 J (zN xC J H.own0 J (zF J fc30 J (qe (ratAdd_ok hI H.fine (kn3 hK H) h0 hx O O Z) (fun s9 D9 n1 a1 m1 c1 n1d a1d m1d c1d Hc h101=>?_))))))
 obtain⟨Φ,ku,kd,H⟩:=qk (K:=K) H Hc
 try replace hy:=hy.mono ku
 replace h101:=h101.mono kd
 clear Hc ku kd
 replace h101:=(h101.eq (Rat.zero_add _)).bd hb1
 refine qu (vs:=[.bool _,.slice _ _ _,.bool _,.slice _ _ _]) H kb J J J J J O (fun s5 H=>?_)
 refine zD (xF (zR (yA (yH J J Y (zC J (zD (zR (kf (zE ?_)))))))))
 refine xB J J (fun h=>?_) Y6
 refine zD (yE (yJ rfl (yN (zR (yE (yR (zE (zP el115 J J O O (zN xC J ((H.old hb hg)) J (zS H wB O (fun b5 s6 H=>?_)))))))))))
 refine zT (vs:=[.bool _,.slice _ _ _,.bool _,.slice _ _ _]) H kb J J J J J O (fun s7 H=>?_)
 refine zD (yA (zN xC J H.own2 J (zN xC J H.own0 J (zF J fc30 J (qe (ratAdd_ok hI H.fine (kn4 hK H) h101 hy Z1 Z1 Z) (fun s9 D9 n2 a2 m2 c2 n2d a2d m2d c2d Hc h102=>?_))))))
 obtain⟨Φ,ku,kd,H⟩:=kj (K:=K) H Hc
 replace h102:=h102.mono kd
 clear Hc ku kd
 refine vQ (vs:=[.bool _,.slice _ _ _,.bool _,.slice _ _ _]) H kb J J J J J O (fun s8 H=>?_)
 refine zD (xF (zR (yA (yH J J Y (zC J (zD (zR (kf (zE (xB J J Y6 (fun h=>?_)))))))))))
 refine zD (yE (yL rfl (ql (xU (xU (xX (zR (zE (zN xC J H.own2 J (vP (vs:=[.bool _,.slice _ _ _,.bool _,.slice _ _ _]) H kb J J J J J O (fun s9 H=>?_)))))))))))
 refine zD (yO (yB (yP xC J H.own3 J ?_)))
 exact⟨Φ,_,_,_,_,_,_,_,_,J,(frz4 H).up O,h102⟩
set_option maxHeartbeats 4000000 in
set_option maxRecDepth 10000 in
theorem rotateP_ok(hI:xA I)(hf:Fine s)(hK:Kn s K)(hx:RatK K n1 a1 m1 c1 n2 a2 m2 c2 p N1 M1)(hy:RatK K n3 a3 m3 c3 n4 a4 m4 c4 q N1 M1)(hz:RatK K n5 a5 m5 c5 n6 a6 m6 c6 u N2 M2)(hw:RatK K n7 a7 m7 c7 n8 a8 m8 c8 v N2 M2)(g1:N1*N2<1000000000000000000)(g2:M1*M2<1000000000000000000)(g3:N1<1000000000000000000)(g4:N2<1000000000000000000)(g5:N1*N2*(M1*M2)+N1*N2*(M1*M2)<1000000000000000000)(g6:M1*M2*(M1*M2)<1000000000000000000)(hroom:s.next+100000≤yC) :
  ∃v' s',xN Tryz.prog I 125 #[.agg ⟨[.bool n1,.slice a1 m1 c1,.bool n2,.slice a2 m2 c2,.bool n3,.slice a3 m3 c3,.bool n4,.slice a4 m4 c4]⟩,.agg ⟨[.bool n5,.slice a5 m5 c5,.bool n6,.slice a6 m6 c6,.bool n7,.slice a7 m7 c7,.bool n8,.slice a8 m8 c8]⟩] s v' s'∧PostV K s 100000 (p*u-q*v) (q*u+p*v) (N1*N2*(M1*M2)+N1*N2*(M1*M2)) (M1*M2*(M1*M2)) v' s':=by
 have H:=hf.hl
 have hx:=hx.mono (zZ (D:=[]))
 have hy:=hy.mono (zZ (D:=[]))
 have hz:=hz.mono (zZ (D:=[]))
 have hw:=hw.mono (zZ (D:=[]))
 refine zX 2 (hI 125 U U) Tryz.func125 J fb125 J ?_
 refine zE (zY H J O (fun b2 s1 H=>?_))
 refine zY H J O (fun b3 s2 H=>?_)
 refine zS H zf38 O (fun b4 s3 H=>?_)
 refine zD (yT [⟨0,0,.light,[3,6,8,14,16,19,21]⟩,⟨1,1,.light,[3,6,8,14,16,19,21]⟩,⟨2,0,.light,[1,6,8,14,16,19,21]⟩,⟨3,4,.light,[1,6,8,14,16,19,21]⟩,⟨5,0,.light,[1,3,8,14,16,19,21]⟩,⟨6,32,.light,[1,3,8,14,16,19,21]⟩,⟨7,0,.light,[1,3,6,14,16,19,21]⟩,⟨8,128,.light,[1,3,6,14,16,19,21]⟩,⟨13,0,.light,[1,3,6,8,16,19,21]⟩,⟨14,8192,.light,[1,3,6,8,16,19,21]⟩,⟨15,0,.light,[1,3,6,8,14,19,21]⟩,⟨16,32768,.light,[1,3,6,8,14,19,21]⟩,⟨18,0,.light,[1,3,6,8,14,16,21]⟩,⟨19,262144,.light,[1,3,6,8,14,16,21]⟩,⟨20,0,.light,[1,3,6,8,14,16,19]⟩,⟨21,1048576,.light,[1,3,6,8,14,16,19]⟩,⟨4,15,.whole,[6,8,14,16,19,21]⟩,⟨9,511,.whole,[14,16,19,21]⟩,⟨10,1023,.whole,[14,16,19,21]⟩,⟨11,2047,.whole,[14,16,19,21]⟩,⟨12,4095,.whole,[14,16,19,21]⟩,⟨17,131071,.whole,[19,21]⟩,⟨22,4194303,.whole,[]⟩,⟨23,8388607,.whole,[]⟩,⟨24,16777215,.whole,[]⟩,⟨25,33554431,.light,[]⟩,⟨26,67108863,.whole,[]⟩] Z0 Z0 (zA J J (zB kN J ⟨J,(zQ J J xC J H.own2 Y2 J (zA J J (zB q8 J ⟨J,(zQ J J xC J H.own1 Y1 J (zA J J (zB kM J ⟨J,(zQ J J xC J H.own2 Y2 J (zA J J (zB q7 J ⟨J,(zQ J J xC J H.own1 Y1 J (zA J J (zB kM J ⟨J,(zQ J J xC J H.own2 Y2 J ?_)⟩)))⟩)))⟩)))⟩)))⟩)))
 refine zA J J (zB q8 J ⟨J,(zQ J J xC J H.own1 Y1 J (zA J J (zB kN J ⟨J,(zQ J J xC J H.own2 Y2 J (zA J J (zB q7 J ⟨J,(zQ J J xC J H.own1 Y1 J (zM J J (zF J fc122 J (qe (ratMul_ok hI (Fine.pr H.fine (xW H.lt2 (xW H.lt1 (xW H.lt2 (xW H.lt1 (xW H.lt2 (xW H.lt1 qO))))))) X3 hx hz Z1 Z1 Z1 Z1 Z) (fun s9 D9 n1 a1 m1 c1 n1d a1d m1d c1d Hc h101=>?_)))))⟩)))⟩)))⟩)
 have Hc:=HL.wider H.fine Z3 Z5 Hc
 obtain⟨Φ,ku,kd,H⟩:=qk (K:=K) H Hc
 try replace hx:=hx.mono ku
 try replace hy:=hy.mono ku
 try replace hz:=hz.mono ku
 try replace hw:=hw.mono ku
 replace h101:=h101.mono kd
 clear Hc ku kd
 refine zM J J (zF J fc122 J (qe (ratMul_ok hI (Fine.pr H.fine (xW H.lt2 (xW H.lt1 (xW H.lt2 (xW H.lt1 qO))))) X3 hy hw Z1 Z1 Z1 Z1 Z) (fun s9 D9 n2 a2 m2 c2 n2d a2d m2d c2d Hc h102=>?_)))
 have Hc:=HL.wider H.fine Z3 Z5 Hc
 obtain⟨Φ,ku,kd,H⟩:=qk (K:=K) H Hc
 try replace hx:=hx.mono ku
 try replace hy:=hy.mono ku
 try replace hz:=hz.mono ku
 try replace hw:=hw.mono ku
 try replace h101:=h101.mono ku
 replace h102:=h102.mono kd
 clear Hc ku kd
 refine zM J J (zF J fc139 J (qe (ratNeg_ok hI (Fine.pr H.fine (xW H.lt2 (xW H.lt1 (xW H.lt2 (xW H.lt1 qO))))) X3 h102 Z) (fun s9 D9 n3 a3 m3 c3 n3d a3d m3d c3d Hc h103=>?_)))
 have Hc:=HL.wider H.fine Z3 Z5 Hc
 obtain⟨Φ,ku,kd,H⟩:=qk (K:=K) H Hc
 try replace hx:=hx.mono ku
 try replace hy:=hy.mono ku
 try replace hz:=hz.mono ku
 try replace hw:=hw.mono ku
 try replace h101:=h101.mono ku
 replace h103:=h103.mono kd
 clear Hc ku kd
 refine zM J J (yS (c:=[.bool _,.slice _ _ _,.bool _,.slice _ _ _,.bool _,.slice _ _ _,.bool _,.slice _ _ _]) (Fine.pr H.fine (xW H.lt2 (xW H.lt1 (xW H.lt2 (xW H.lt1 qO))))).hl sl115 J J (H.rm (k:=1) O) (fun b16 s4 Hc=>?_))
 have H:=H.call X7
 clear Hc
 refine zM J J (zF J fc121 J (qe (sum_ok hI (Fine.pr H.fine (xW H.lt3 (xW H.lt2 (xW H.lt3 (xW H.lt2 qO))))) X4 H.own0 H.lt0 h101 h103 Z1 Z1 Z) (fun s9 D9 n4 a4 m4 c4 n4d a4d m4d c4d Hc h104=>?_)))
 have Hc:=HL.wider H.fine Z3 Z5 Hc
 obtain⟨Φ,ku,kd,H⟩:=kj (K:=K) H Hc
 try replace hx:=hx.mono ku
 try replace hy:=hy.mono ku
 try replace hz:=hz.mono ku
 try replace hw:=hw.mono ku
 replace h104:=h104.mono kd
 clear Hc ku kd
 refine zM J J (zF J fc122 J (qe (ratMul_ok hI (Fine.pr H.fine (xW H.lt3 (xW H.lt2 qO))) X4 hy hz Z1 Z1 Z1 Z1 Z) (fun s9 D9 n5 a5 m5 c5 n5d a5d m5d c5d Hc h105=>?_)))
 have Hc:=HL.wider H.fine Z3 Z5 Hc
 obtain⟨Φ,ku,kd,H⟩:=kj (K:=K) H Hc
 try replace hx:=hx.mono ku
 try replace hw:=hw.mono ku
 try replace h104:=h104.mono ku
 replace h105:=h105.mono kd
 clear Hc ku kd
 refine zM J J (zF J fc122 J (qe (ratMul_ok hI H.fine (kn4 hK H) hx hw Z1 Z1 Z1 Z1 Z) (fun s9 D9 n6 a6 m6 c6 n6d a6d m6d c6d Hc h106=>?_)))
 have Hc:=HL.wider H.fine Z3 Z7 Hc
 obtain⟨Φ,ku,kd,H⟩:=kj (K:=K) H Hc
 try replace h104:=h104.mono ku
 try replace h105:=h105.mono ku
 replace h106:=h106.mono kd
 clear Hc ku kd
 refine zM J J (yS (c:=[.bool _,.slice _ _ _,.bool _,.slice _ _ _,.bool _,.slice _ _ _,.bool _,.slice _ _ _]) H.fine.hl sl115 J J (H.rm (k:=1) O) (fun b28 s5 Hc=>?_))
 have H:=H.call X8
 clear Hc
 refine zM J J (zF J fc121 J (qe (sum_ok hI H.fine (kn5 hK H) H.own0 H.lt0 h105 h106 Z1 Z1 Z) (fun s9 D9 n7 a7 m7 c7 n7d a7d m7d c7d Hc h107=>?_)))
 have Hc:=HL.wider H.fine Z3 Z7 Hc
 obtain⟨Φ,ku,kd,H⟩:=ka (K:=K) H Hc
 try replace h104:=h104.mono ku
 replace h107:=h107.mono kd
 clear Hc ku kd
 refine zA J J (xE (c:=[.bool _,.slice _ _ _,.bool _,.slice _ _ _,.bool _,.slice _ _ _,.bool _,.slice _ _ _]) bf38 J ⟨J,(ke (vs:=[.bool _,.slice _ _ _,.bool _,.slice _ _ _,.bool _,.slice _ _ _,.bool _,.slice _ _ _]) (fr:=[]) H J J sz38 J J J J J J Z2 O (fun s6 H=>?_))⟩)
 refine zU (yO (yB (yP qN J H.own2 J ?_)))
 rw[←Rat.sub_eq_add_neg]at h104
 exact⟨Φ,_,_,_,_,_,_,_,_,_,_,_,_,_,_,_,_,J,(frz5 H).up O,h104,h107⟩
set_option maxHeartbeats 4000000 in
set_option maxRecDepth 10000 in
theorem afterP_ok(hI:xA I)(hf:Fine s)(hK:Kn s K)(hx:RatK K n1 a1 m1 c1 n2 a2 m2 c2 p N1 M1)(hy:RatK K n3 a3 m3 c3 n4 a4 m4 c4 q N1 M1)(hz:RatK K n5 a5 m5 c5 n6 a6 m6 c6 u N2 M2)(hw:RatK K n7 a7 m7 c7 n8 a8 m8 c8 v N2 M2)(g1:N1*N2<1000000000000000000)(g2:M1*M2<1000000000000000000)(g3:N1<1000000000000000000)(g4:N2<1000000000000000000)(g5:N1*N2*(M1*M2)+N1*N2*(M1*M2)<1000000000000000000)(g6:M1*M2*(M1*M2)<1000000000000000000)(hroom:s.next+101000≤yC) :
  ∃v' s',xN Tryz.prog I 67 #[.agg ⟨[.bool n1,.slice a1 m1 c1,.bool n2,.slice a2 m2 c2,.bool n3,.slice a3 m3 c3,.bool n4,.slice a4 m4 c4]⟩,.agg ⟨[.bool n5,.slice a5 m5 c5,.bool n6,.slice a6 m6 c6,.bool n7,.slice a7 m7 c7,.bool n8,.slice a8 m8 c8]⟩] s v' s'∧PostV K s 101000 (p*u-q*v) (q*u+p*v) (N1*N2*(M1*M2)+N1*N2*(M1*M2)) (M1*M2*(M1*M2)) v' s':=by
 have H:=hf.hl
 have hx:=hx.mono (zZ (D:=[]))
 have hy:=hy.mono (zZ (D:=[]))
 have hz:=hz.mono (zZ (D:=[]))
 have hw:=hw.mono (zZ (D:=[]))
 refine zX 2 (hI 67 U U) Tryz.func67 J fb67 J ?_
 refine zE (zY H J O (fun b2 s1 H=>?_))
 refine zY H J O (fun b3 s2 H=>?_)
 refine zS H zf36 O (fun b4 s3 H=>?_)
 refine zD (zE (zN kU J H.own2 J (zB kN J (zN xC J H.own1 J (zB kM J (zN xC J H.own1 J (xE (c:=[.bool _,.slice _ _ _,.bool _,.slice _ _ _,.bool _,.slice _ _ _,.bool _,.slice _ _ _]) bf38 J (zF J fc125 J (kn (rotateP_ok hI H.fine (kn3 hK H) hx hy hz hw Z1 Z1 Z1 Z1 Z1 Z1 Z) (fun s9 D9 n1 a1 m1 c1 n1d a1d m1d c1d n1y a1y m1y c1y n1yd a1yd m1yd c1yd Hc h101a h101b=>?_))))))))))
 obtain⟨Φ,ku,kd,H⟩:=qk (K:=K) H Hc
 replace h101a:=h101a.mono kd
 replace h101b:=h101b.mono kd
 clear Hc ku kd
 refine zS H zf38 O (fun b5 s4 H=>?_)
 refine zT (vs:=[.bool _,.slice _ _ _,.bool _,.slice _ _ _,.bool _,.slice _ _ _,.bool _,.slice _ _ _]) H sz38 J J J J J O (fun s5 H=>?_)
 refine zD (zE (zB q8 J (zN xC J H.own0 J (zB q7 J (zN xC J H.own0 J (xE (c:=[.bool _,.slice _ _ _,.bool _,.slice _ _ _,.bool _,.slice _ _ _,.bool _,.slice _ _ _]) bf36 J (qu (vs:=[.bool _,.slice _ _ _,.bool _,.slice _ _ _,.bool _,.slice _ _ _,.bool _,.slice _ _ _]) H jo J J J J J O (fun s6 H=>?_))))))))
 refine zD (yO (yB (yP kU J H.own1 J ?_)))
 exact⟨Φ,_,_,_,_,_,_,_,_,_,_,_,_,_,_,_,_,J,(frz4 H).up O,h101a,h101b⟩
set_option maxHeartbeats 4000000 in
set_option maxRecDepth 10000 in
theorem backP_ok(hI:xA I)(hf:Fine s)(hK:Kn s K)(hx:RatK K n1 a1 m1 c1 n2 a2 m2 c2 p N1 M1)(hy:RatK K n3 a3 m3 c3 n4 a4 m4 c4 q N1 M1)(hroom:s.next+100≤yC) :
  ∃v' s',xN Tryz.prog I 105 #[.agg ⟨[.bool n1,.slice a1 m1 c1,.bool n2,.slice a2 m2 c2,.bool n3,.slice a3 m3 c3,.bool n4,.slice a4 m4 c4]⟩] s v' s'∧PostV K s 100 p (-q) N1 M1 v' s':=by
 have H:=hf.hl
 have hx:=hx.mono (zZ (D:=[]))
 have hy:=hy.mono (zZ (D:=[]))
 refine zX 1 (hI 105 U U) Tryz.func105 J fb105 J ?_
 refine zE (zY H J O (fun b1 s1 H=>?_))
 refine zS H zf36 O (fun b2 s2 H=>?_)
 refine zD (yT [⟨0,0,.light,[3]⟩,⟨1,1,.light,[3]⟩,⟨2,0,.light,[1]⟩,⟨3,4,.light,[1]⟩,⟨4,12,.whole,[1]⟩,⟨5,31,.light,[]⟩,⟨6,63,.whole,[]⟩] Z0 Z0 (zA J J (zB kN J ⟨J,(zQ J J xC J H.own1 Y1 J (zA J J (zB kM J ⟨J,(zQ J J xC J H.own1 Y1 J (zM J J (zF J fc139 J (qe (ratNeg_ok hI (Fine.pr H.fine (xW H.lt1 qO)) X2 hy Z) (fun s9 D9 n1 a1 m1 c1 n1d a1d m1d c1d Hc h101=>?_)))))⟩)))⟩)))
 have Hc:=HL.wider H.fine Z3 Z5 Hc
 obtain⟨Φ,ku,kd,H⟩:=k8 (K:=K) H Hc
 try replace hx:=hx.mono ku
 replace h101:=h101.mono kd
 clear Hc ku kd
 refine zA J J (xE (c:=[.bool _,.slice _ _ _,.bool _,.slice _ _ _,.bool _,.slice _ _ _,.bool _,.slice _ _ _]) bf36 J ⟨J,(xM (vs:=[.bool _,.slice _ _ _,.bool _,.slice _ _ _,.bool _,.slice _ _ _,.bool _,.slice _ _ _]) (fr:=[]) H J J jo J J J J J J Z2 O (fun s3 H=>?_))⟩)
 refine zU (yO (yB (yP kU J H.own0 J ?_)))
 exact⟨Φ,_,_,_,_,_,_,_,_,_,_,_,_,_,_,_,_,J,(frz2 H).up O,hx,h101⟩
set_option maxHeartbeats 4000000 in
set_option maxRecDepth 10000 in
theorem sameTurnP_ok(hI:xA I)(hf:Fine s)(hK:Kn s K)(hx:RatK K n1 a1 m1 c1 n2 a2 m2 c2 p N1 M1)(hy:RatK K n3 a3 m3 c3 n4 a4 m4 c4 q N1 M1)(hz:RatK K n5 a5 m5 c5 n6 a6 m6 c6 u N2 M2)(hw:RatK K n7 a7 m7 c7 n8 a8 m8 c8 v N2 M2)(h1:N1<1000000000000000000000000000000000000000000000000000000)(h3:M1<1000000000000000000000000000000000000000000000000000000)(hroom:s.next+1000≤yC) :
  ∃v' s',xN Tryz.prog I 47 #[.agg ⟨[.bool n1,.slice a1 m1 c1,.bool n2,.slice a2 m2 c2,.bool n3,.slice a3 m3 c3,.bool n4,.slice a4 m4 c4]⟩,.agg ⟨[.bool n5,.slice a5 m5 c5,.bool n6,.slice a6 m6 c6,.bool n7,.slice a7 m7 c7,.bool n8,.slice a8 m8 c8]⟩] s v' s'∧qQ s 1000 (.bool (decide (p=u∧q=v))) v' s':=by
 have H:=hf.hl
 have hx:=hx.mono (zZ (D:=[]))
 have hy:=hy.mono (zZ (D:=[]))
 have hz:=hz.mono (zZ (D:=[]))
 have hw:=hw.mono (zZ (D:=[]))
 refine zX 2 (hI 47 U U) Tryz.func47 J fb47 J ?_
 refine zE (zY H J O (fun b2 s1 H=>?_))
 refine zY H J O (fun b3 s2 H=>?_)
 refine zG (zD (zE (zB kN J (zN xC J H.own1 J (zB kN J (zN xC J H.own0 J (zF J fc106 J (callB (ratSame_ok hI H.fine (kn2 hK H) hx hz Z1 Z1 Z) (fun hb1 s9 Hc=>?_) (fun hb1 s9 Hc=>?_)))))))))
 ·have H:=H.call0 Hc
  clear Hc
  refine zI J (zO J (zO J (zO J (zO J (zO J (yY J (zK J (zD (yO (yB (yV ?_)))))))))))
  refine⟨congrArg Value.bool ?_,(H.sub Z9).up O⟩
  simp_all
 have H:=H.call0 Hc
 clear Hc
 refine zI J (zB kM J (zN xC J H.own1 J (zB kM J (zN xC J H.own0 J (zF J fc106 J (callB (ratSame_ok hI H.fine (kn2 hK H) hy hw Z1 Z1 Z) (fun hb2 s9 Hc=>?_) (fun hb2 s9 Hc=>?_)))))))
 ·have H:=H.call0 Hc
  clear Hc
  refine yD J J (zK J (zD (yO (yB (yV (⟨congrArg Value.bool ?_,(H.sub Z9).up O⟩))))))
  simp_all
 have H:=H.call0 Hc
 clear Hc
 refine yD J J (zK J (zD (yO (yB (yV (⟨congrArg Value.bool ?_,(H.sub Z9).up O⟩))))))
 simp_all
set_option maxHeartbeats 4000000 in
set_option maxRecDepth 10000 in
theorem stillP_ok(hI:xA I)(hf:Fine s)(hK:Kn s K)(hroom:s.next+1200≤yC) :
  ∃v' s',xN Tryz.prog I 65 #[] s v' s'∧PostV K s 1200 1 0 1 1 v' s':=by
 have H:=hf.hl
 refine zX 0 (hI 65 U U) Tryz.func65 J fb65 J ?_
 refine zE (zS H zf36 O (fun b0 s1 H=>?_))
 refine zD (zE (zF J fc123 J (qe (ratOf_ok hI H.fine (p:=1) (q:=1) (N:=1) (M:=1) U U U U U (kn1 hK H) Z) (fun s9 D9 n1 a1 m1 c1 n1d a1d m1d c1d Hc h101=>?_))))
 obtain⟨Φ,ku,kd,H⟩:=ko (K:=K) H Hc
 replace h101:=h101.mono kd
 clear Hc ku kd
 refine xE (c:=[.bool _,.slice _ _ _,.bool _,.slice _ _ _,.bool _,.slice _ _ _,.bool _,.slice _ _ _]) bf36 J (zT (vs:=[.bool _,.slice _ _ _,.bool _,.slice _ _ _,.bool _,.slice _ _ _,.bool _,.slice _ _ _]) H jo J J J J J O (fun s2 H=>?_))
 refine zD (yO (yB (yP kU J H.own0 J ?_)))
 exact⟨Φ,_,_,_,_,_,_,_,_,_,_,_,_,_,_,_,_,J,(frz1 H).up O,h101.eq (by rw[jA];rfl),RatK.nil.le O O⟩
theorem ratSame_yes(hI:xA I)(hf:Fine s)(hK:Kn s K)(hx:RatK K n1 a1 m1 c1 n2 a2 m2 c2 a N1 M1)(hy:RatK K n3 a3 m3 c3 n4 a4 m4 c4 b N2 M2)(h:a=b)(h1:N1<1000000000000000000000000000000000000000000000000000000)(h3:M1<1000000000000000000000000000000000000000000000000000000)(hroom:s.next+100≤yC) :
  ∃v' s',xN Tryz.prog I 106 #[.agg ⟨[.bool n1,.slice a1 m1 c1,.bool n2,.slice a2 m2 c2]⟩,.agg ⟨[.bool n3,.slice a3 m3 c3,.bool n4,.slice a4 m4 c4]⟩] s v' s'∧qQ s 100 (.bool true) v' s':=by
 have:=ratSame_ok hI hf hK hx hy h1 h3 hroom
 rwa[decide_eq_true h]at this
set_option maxHeartbeats 4000000 in
set_option maxRecDepth 10000 in
theorem validP_ok(hI:xA I)(hf:Fine s)(hK:Kn s K)(hx:RatK K n1 a1 m1 c1 n2 a2 m2 c2 p 25 25)(hy:RatK K n3 a3 m3 c3 n4 a4 m4 c4 q 25 25)(ht:p*p+q*q=1)(hroom:s.next+50000≤yC) :
  ∃v' s',xN Tryz.prog I 63 #[.agg ⟨[.bool n1,.slice a1 m1 c1,.bool n2,.slice a2 m2 c2,.bool n3,.slice a3 m3 c3,.bool n4,.slice a4 m4 c4]⟩] s v' s'∧qQ s 50000 (.bool true) v' s':=by
 have H:=hf.hl
 have hx:=hx.mono (zZ (D:=[]))
 have hy:=hy.mono (zZ (D:=[]))
 refine zX 1 (hI 63 U U) Tryz.func63 J fb63 J ?_
 refine zE (zY H J O (fun b1 s1 H=>?_))
 refine zG (zD (yT [⟨0,0,.light,[]⟩,⟨1,1,.light,[]⟩,⟨2,3,.whole,[]⟩,⟨3,7,.light,[]⟩,⟨4,15,.light,[]⟩,⟨5,31,.light,[]⟩,⟨6,63,.whole,[]⟩,⟨7,127,.light,[]⟩,⟨8,255,.light,[]⟩,⟨9,511,.light,[12,15,17]⟩,⟨10,1023,.light,[12,15,17]⟩,⟨11,511,.light,[10,15,17]⟩,⟨12,2559,.light,[10,15,17]⟩,⟨14,511,.light,[10,12,17]⟩,⟨15,16895,.light,[10,12,17]⟩,⟨16,511,.light,[10,12,15]⟩,⟨17,66047,.light,[10,12,15]⟩,⟨13,8191,.whole,[15,17]⟩,⟨18,262143,.whole,[]⟩,⟨19,524287,.whole,[]⟩,⟨20,1048575,.whole,[]⟩,⟨21,2097151,.whole,[]⟩,⟨22,4194303,.whole,[]⟩,⟨23,8388607,.light,[]⟩,⟨24,16777215,.light,[]⟩] Z0 Z0 (zA J J (zB kN J ⟨J,(zQ J J xC J H.own0 Y0 J (zM J J (zF J fc120 J (callE (ratValid_ok hI H.fine (kn1 hK H) hx U U Z) (fun s9 Hc=>?_)))))⟩))))
 have Hc:=HL.wider H.fine Z3 Z7 Hc
 have H:=H.call0 Hc
 clear Hc
 refine zA J J (zI J ⟨J,(zA J J (zB kM J ⟨J,(zQ J J xC J H.own0 Y0 J (zM J J (zF J fc120 J (callE (ratValid_ok hI H.fine (kn1 hK H) hy U U Z) (fun s9 Hc=>?_)))))⟩))⟩)
 have Hc:=HL.wider H.fine Z3 Z7 Hc
 have H:=H.call0 Hc
 clear Hc
 refine zA J J (yD J J ⟨J,(zA J J (zI J ⟨J,(zA J J (zB kN J ⟨J,(zQ J J xC J H.own0 Y0 J (zA J J (zB kN J ⟨J,(zQ J J xC J H.own0 Y0 J (zA J J (zB kM J ⟨J,(zQ J J xC J H.own0 Y0 J (zA J J (zB kM J ⟨J,(zQ J J xC J H.own0 Y0 J (zM J J (zF J fc122 J (qe (ratMul_ok hI (Fine.pr H.fine (xW H.lt0 (xW H.lt0 qO))) X1 hx hx U U U U Z) (fun s9 D9 n3 a3 m3 c3 n3d a3d m3d c3d Hc h103=>?_)))))⟩)))⟩)))⟩)))⟩))⟩))⟩)
 have Hc:=HL.wider H.fine Z3 Z5 Hc
 obtain⟨Φ,ku,kd,H⟩:=ko (K:=K) H Hc
 try replace hy:=hy.mono ku
 replace h103:=h103.mono kd
 clear Hc ku kd
 refine zM J J (zF J fc122 J (qe (ratMul_ok hI H.fine (kn1 hK H) hy hy U U U U Z) (fun s9 D9 n4 a4 m4 c4 n4d a4d m4d c4d Hc h104=>?_)))
 have Hc:=HL.wider H.fine Z3 Z7 Hc
 obtain⟨Φ,ku,kd,H⟩:=ko (K:=K) H Hc
 try replace h103:=h103.mono ku
 replace h104:=h104.mono kd
 clear Hc ku kd
 refine zM J J (yS (c:=[.bool _,.slice _ _ _,.bool _,.slice _ _ _,.bool _,.slice _ _ _,.bool _,.slice _ _ _]) H.fine.hl sl115 J J (H.rm (k:=1) O) (fun b22 s2 Hc=>?_))
 have H:=H.call X8
 clear Hc
 refine zM J J (zF J fc121 J (qe (sum_ok hI H.fine (kn2 hK H) H.own0 H.lt0 h103 h104 U U Z) (fun s9 D9 n5 a5 m5 c5 n5d a5d m5d c5d Hc h105=>?_)))
 have Hc:=HL.wider H.fine Z3 Z7 Hc
 obtain⟨Φ,ku,kd,H⟩:=k8 (K:=K) H Hc
 replace h105:=h105.mono kd
 clear Hc ku kd
 refine zM J J (zF J fc123 J (qe (ratOf_ok hI H.fine (p:=1) (q:=1) (N:=1) (M:=1) U U U U U (kn2 hK H) Z) (fun s9 D9 n6 a6 m6 c6 n6d a6d m6d c6d Hc h106=>?_)))
 have Hc:=HL.wider H.fine Z3 Z7 Hc
 obtain⟨Φ,ku,kd,H⟩:=k8 (K:=K) H Hc
 try replace h105:=h105.mono ku
 replace h106:=h106.mono kd
 clear Hc ku kd
 refine zM J J (zF J fc106 J (callE (ratSame_yes hI H.fine (kn2 hK H) h105 h106 (by rw[ht,jA];rfl) U U Z) (fun s9 Hc=>?_)))
 have Hc:=HL.wider H.fine Z3 Z7 Hc
 have H:=H.call0 Hc
 clear Hc
 refine zA J J (yD J J ⟨J,(zA J J (zK J ⟨J,(zU (yO (yB (yV ?_))))⟩))⟩)
 exact⟨J,(H.sub Z9).up O⟩
end Go.Proofs.YtocnbjjmmgolfaaGreat
