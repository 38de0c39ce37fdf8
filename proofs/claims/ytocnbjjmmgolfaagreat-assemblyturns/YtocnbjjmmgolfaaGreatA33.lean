/- The reference of polygons: that it answers, and with small numbers. -/
import Derived.Test.YtocnbjjmmgolfaaGreatA32
namespace Go.Proofs.YtocnbjjmmgolfaaGreat
open Go Go.M Go.Proofs.C14
theorem fb227:xK Tryz.f227 (Tryz.f227.body.getD .skip) 1=true:=by kernel_rfl
theorem fb228:xK Tryz.f228 (Tryz.f228.body.getD .skip) 5=true:=by kernel_rfl
theorem kS:xJ Tryz.prog 135=true:=by kernel_rfl
theorem fc265:xJ Tryz.prog 265=true:=by kernel_rfl
theorem fb164:xK Tryz.f164 (Tryz.f164.body.getD .skip) 3=true:=by kernel_rfl
theorem fc226:xJ Tryz.prog 226=true:=by kernel_rfl
theorem fc39:xJ Tryz.prog 39=true:=by kernel_rfl
theorem fc80:xJ Tryz.prog 80=true:=by kernel_rfl
theorem el139:elemF Tryz.prog 139=some (true,0,8):=by kernel_rfl
theorem fb165:xK Tryz.f165 (Tryz.f165.body.getD .skip) 2=true:=by kernel_rfl
theorem ju:Tryz.prog.underlying 139=some (.slice 38):=by kernel_rfl
variable{I:xP}{s:St}{K:Kw}{n1 n10 n11 n12 n2 n3 n4 n5 n6 n7 n8 n9:Bool}{a1 a10 a11 a12 a2 a3 a4 a5 a6 a7 a8 a9:Option Addr}{c1 c10 c11 c12 c2 c3 c4 c5 c6 c7 c8 c9 m1 m10 m11 m12 m2 m3 m4 m5 m6 m7 m8 m9:Nat}{p1 p5 p9 q1 q5 q9:Rat}{l:List (List Value)}
set_option maxHeartbeats 4000000 in
set_option maxRecDepth 10000 in
theorem turned06_ok(hI:xA I)(hf:Fine s)(hK:Kn s K)(aX:RatK K n1 a1 m1 c1 n2 a2 m2 c2 p1 32 1)(aY:RatK K n3 a3 m3 c3 n4 a4 m4 c4 q1 32 1)(hroom:s.next+100≤yC) :
  ∃v' s',xN Tryz.prog I 227 #[.agg ⟨[.bool n1,.slice a1 m1 c1,.bool n2,.slice a2 m2 c2,.bool n3,.slice a3 m3 c3,.bool n4,.slice a4 m4 c4]⟩] s v' s'∧PostV K s 100 (-q1) p1 32 1 v' s':=by
 have H:=hf.hl
 have aX:=aX.mono (zZ (D:=[]))
 have aY:=aY.mono (zZ (D:=[]))
 refine zX 1 (hI 227 U U) Tryz.func227 J fb227 J ?_
 refine zE (zY H J O (fun b1 s1 H=>?_))
 refine zS H zf38 O (fun b2 s2 H=>?_)
 refine zD (yT [⟨0,0,.light,[4]⟩,⟨1,1,.light,[4]⟩,⟨3,0,.light,[1]⟩,⟨4,8,.light,[1]⟩,⟨2,3,.whole,[4]⟩,⟨5,31,.light,[]⟩,⟨6,63,.whole,[]⟩] Z0 Z0 (zA J J (zB q7 J ⟨J,(zQ J J xC J H.own1 Y1 J (zA J J (zB q8 J ⟨J,(zQ J J xC J H.own1 Y1 J (zM J J (zF J fc38 J (qe (neg04_ok hI (Fine.pr H.fine (xW H.lt1 qO)) X2 aY U Z) (fun s9 D9 n1 a1 m1 c1 n1d a1d m1d c1d Hc h101=>?_)))))⟩)))⟩)))
 have Hc:=HL.wider H.fine Z3 Z5 Hc
 obtain⟨Φ,ku,kd,H⟩:=k8 (K:=K) H Hc
 try replace aX:=aX.mono ku
 replace h101:=h101.mono kd
 clear Hc ku kd
 refine zA J J (xE (c:=[.bool _,.slice _ _ _,.bool _,.slice _ _ _,.bool _,.slice _ _ _,.bool _,.slice _ _ _]) bf38 J ⟨J,(xM (vs:=[.bool _,.slice _ _ _,.bool _,.slice _ _ _,.bool _,.slice _ _ _,.bool _,.slice _ _ _]) (fr:=[]) H J J sz38 J J J J J J Z2 O (fun s3 H=>?_))⟩)
 refine zU (yO (yB (yP qN J H.own0 J ?_)))
 exact⟨Φ,_,_,_,_,_,_,_,_,_,_,_,_,_,_,_,_,J,(frz2 H).up O,h101,aX⟩
set_option maxHeartbeats 4000000 in
set_option maxRecDepth 10000 in
theorem jG(hI:xA I)(hf:Fine s)(hK:Kn s K)(aX:RatK K n1 a1 m1 c1 n2 a2 m2 c2 p1 32 1)(aY:RatK K n3 a3 m3 c3 n4 a4 m4 c4 q1 32 1)(bX:RatK K n5 a5 m5 c5 n6 a6 m6 c6 p5 16 1)(bY:RatK K n7 a7 m7 c7 n8 a8 m8 c8 q5 16 1)(cX:RatK K n9 a9 m9 c9 n10 a10 m10 c10 p9 16 1)(cY:RatK K n11 a11 m11 c11 n12 a12 m12 c12 q9 16 1){n13:Bool}{a13:Option Addr}{m13 c13:Nat}{n14:Bool}{a14:Option Addr}{m14 c14:Nat}{n15:Bool}{a15:Option Addr}{m15 c15:Nat}{n16:Bool}{a16:Option Addr}{m16 c16:Nat}{p13 q13:Rat}(dX:RatK K n13 a13 m13 c13 n14 a14 m14 c14 p13 16 1)(dY:RatK K n15 a15 m15 c15 n16 a16 m16 c16 q13 16 1){n17:Bool}{a17:Option Addr}{m17 c17:Nat}{n18:Bool}{a18:Option Addr}{m18 c18:Nat}{n19:Bool}{a19:Option Addr}{m19 c19:Nat}{n20:Bool}{a20:Option Addr}{m20 c20:Nat}{p17 q17:Rat}(eX:RatK K n17 a17 m17 c17 n18 a18 m18 c18 p17 16 1)(eY:RatK K n19 a19 m19 c19 n20 a20 m20 c20 q17 16 1)(hroom:s.next+200000≤yC) :
  ∃v' s',xN Tryz.prog I 228 #[.agg ⟨[.bool n1,.slice a1 m1 c1,.bool n2,.slice a2 m2 c2,.bool n3,.slice a3 m3 c3,.bool n4,.slice a4 m4 c4]⟩,.agg ⟨[.bool n5,.slice a5 m5 c5,.bool n6,.slice a6 m6 c6,.bool n7,.slice a7 m7 c7,.bool n8,.slice a8 m8 c8]⟩,.agg ⟨[.bool n9,.slice a9 m9 c9,.bool n10,.slice a10 m10 c10,.bool n11,.slice a11 m11 c11,.bool n12,.slice a12 m12 c12]⟩,.agg ⟨[.bool n13,.slice a13 m13 c13,.bool n14,.slice a14 m14 c14,.bool n15,.slice a15 m15 c15,.bool n16,.slice a16 m16 c16]⟩,.agg ⟨[.bool n17,.slice a17 m17 c17,.bool n18,.slice a18 m18 c18,.bool n19,.slice a19 m19 c19,.bool n20,.slice a20 m20 c20]⟩] s v' s'∧(∃b,qQ s 200000 (.bool b) v' s'):=by
 have H:=hf.hl
 have aX:=aX.mono (zZ (D:=[]))
 have aY:=aY.mono (zZ (D:=[]))
 have bX:=bX.mono (zZ (D:=[]))
 have bY:=bY.mono (zZ (D:=[]))
 have cX:=cX.mono (zZ (D:=[]))
 have cY:=cY.mono (zZ (D:=[]))
 have dX:=dX.mono (zZ (D:=[]))
 have dY:=dY.mono (zZ (D:=[]))
 have eX:=eX.mono (zZ (D:=[]))
 have eY:=eY.mono (zZ (D:=[]))
 refine zX 5 (hI 228 U U) Tryz.func228 J fb228 J ?_
 refine zE (zY H J O (fun b5 s1 H=>?_))
 refine zY H J O (fun b6 s2 H=>?_)
 refine zY H J O (fun b7 s3 H=>?_)
 refine zY H J O (fun b8 s4 H=>?_)
 refine zY H J O (fun b9 s5 H=>?_)
 refine zG (zD (zE (zN qN J H.own4 J (zN qN J H.own3 J (zF J fc265 J (qe (dot05_ok hI H.fine (kn5 hK H) aX aY bX bY U U U U U U Z) (fun s9 D9 n1 a1 m1 c1 n1d a1d m1d c1d Hc h101=>?_)))))))
 obtain⟨Φ,ku,kd,H⟩:=ka (K:=K) H Hc
 try replace aX:=aX.mono ku
 try replace aY:=aY.mono ku
 try replace cX:=cX.mono ku
 try replace cY:=cY.mono ku
 try replace dX:=dX.mono ku
 try replace dY:=dY.mono ku
 try replace eX:=eX.mono ku
 try replace eY:=eY.mono ku
 replace h101:=h101.mono kd
 clear Hc ku kd
 refine zS H wB O (fun b11 s6 H=>?_)
 refine zT (vs:=[.bool _,.slice _ _ _,.bool _,.slice _ _ _]) H kb J J J J J O (fun s7 H=>?_)
 refine zD (zE (zN qN J H.own5 J (zN qN J H.own3 J (zF J fc265 J (qe (dot05_ok hI H.fine (kn6 hK H) aX aY cX cY U U U U U U Z) (fun s9 D9 n2 a2 m2 c2 n2d a2d m2d c2d Hc h102=>?_))))))
 obtain⟨Φ,ku,kd,H⟩:=merge6 (K:=K) H Hc
 try replace aX:=aX.mono ku
 try replace aY:=aY.mono ku
 try replace dX:=dX.mono ku
 try replace dY:=dY.mono ku
 try replace eX:=eX.mono ku
 try replace eY:=eY.mono ku
 try replace h101:=h101.mono ku
 replace h102:=h102.mono kd
 clear Hc ku kd
 refine zS H wB O (fun b12 s8 H=>?_)
 refine zT (vs:=[.bool _,.slice _ _ _,.bool _,.slice _ _ _]) H kb J J J J J O (fun s9 H=>?_)
 refine zD (zE (zN qN J H.own6 J (zN qN J H.own3 J (zF J fc265 J (qe (dot05_ok hI H.fine (kn7 hK H) aX aY dX dY U U U U U U Z) (fun s9 D9 n3 a3 m3 c3 n3d a3d m3d c3d Hc h103=>?_))))))
 obtain⟨Φ,ku,kd,H⟩:=merge7 (K:=K) H Hc
 try replace aX:=aX.mono ku
 try replace aY:=aY.mono ku
 try replace eX:=eX.mono ku
 try replace eY:=eY.mono ku
 try replace h101:=h101.mono ku
 try replace h102:=h102.mono ku
 replace h103:=h103.mono kd
 clear Hc ku kd
 refine zS H wB O (fun b13 s10 H=>?_)
 refine zT (vs:=[.bool _,.slice _ _ _,.bool _,.slice _ _ _]) H kb J J J J J O (fun s11 H=>?_)
 refine zD (zE (zN qN J H.own7 J (zN qN J H.own3 J (zF J fc265 J (qe (dot05_ok hI H.fine (kn8 hK H) aX aY eX eY U U U U U U Z) (fun s9 D9 n4 a4 m4 c4 n4d a4d m4d c4d Hc h104=>?_))))))
 obtain⟨Φ,ku,kd,H⟩:=merge8 (K:=K) H Hc
 try replace h101:=h101.mono ku
 try replace h102:=h102.mono ku
 try replace h103:=h103.mono ku
 replace h104:=h104.mono kd
 clear Hc ku kd
 refine zS H wB O (fun b14 s12 H=>?_)
 refine zT (vs:=[.bool _,.slice _ _ _,.bool _,.slice _ _ _]) H kb J J J J J O (fun s13 H=>?_)
 refine zD (zE (zN xC J H.own3 J (zN xC J H.own1 J (zF J kS J (callE (qH hI H.fine (kn9 hK H) h101 h103 U U U Z) (fun s9 Hc=>?_))))))
 have H:=H.call0 Hc
 clear Hc
 refine xB J J (fun h=>?_) (fun h=>?_)
 ·refine zI J (zN xC J H.own3 J (zN xC J H.own0 J (zF J kS J (callE (qH hI H.fine (kn9 hK H) h101 h104 U U U Z) (fun s9 Hc=>?_)))))
  have H:=H.call0 Hc
  clear Hc
  refine xB J J (fun h=>?_) (fun h=>?_)
  ·refine yD J J (zI J (zN xC J H.own2 J (zN xC J H.own1 J (zF J kS J (callE (qH hI H.fine (kn9 hK H) h102 h103 U U U Z) (fun s9 Hc=>?_))))))
   have H:=H.call0 Hc
   clear Hc
   refine xB J J (fun h=>?_) (fun h=>?_)
   ·refine yD J J (zI J (zN xC J H.own2 J (zN xC J H.own0 J (zF J kS J (callE (qH hI H.fine (kn9 hK H) h102 h104 U U U Z) (fun s9 Hc=>?_))))))
    have H:=H.call0 Hc
    clear Hc
    refine xB J J (fun h=>?_) (fun h=>?_)
    ·refine yD J J (zK J (zD (zE (zN xC J H.own3 J (zN xC J H.own1 J (zF J kS J (callE (qH hI H.fine (kn9 hK H) h101 h103 U U U Z) (fun s9 Hc=>?_))))))))
     have H:=H.call0 Hc
     clear Hc
     refine qv J J (fun h=>?_) (fun h=>?_)
     ·refine zI J (zN xC J H.own3 J (zN xC J H.own0 J (zF J kS J (callE (qH hI H.fine (kn9 hK H) h101 h104 U U U Z) (fun s9 Hc=>?_)))))
      have H:=H.call0 Hc
      clear Hc
      refine qv J J (fun h=>?_) (fun h=>?_)
      ·refine yD J J (zI J (zN xC J H.own2 J (zN xC J H.own1 J (zF J kS J (callE (qH hI H.fine (kn9 hK H) h102 h103 U U U Z) (fun s9 Hc=>?_))))))
       have H:=H.call0 Hc
       clear Hc
       refine qv J J (fun h=>?_) (fun h=>?_)
       ·refine yD J J (zI J (zN xC J H.own2 J (zN xC J H.own0 J (zF J kS J (callE (qH hI H.fine (kn9 hK H) h102 h104 U U U Z) (fun s9 Hc=>?_))))))
        have H:=H.call0 Hc
        clear Hc
        refine qv J J (fun h=>?_) (fun h=>?_)
        ·refine yD J J (zK J (zD (zE (zI J (zI J (zO J (xS J (zK J (zD (yO (yB ?_)))))))))))
         refine yV ?_
         exact⟨_,J,(H.sub Z9).up O⟩
        refine yD J J (zK J (zD (zE (zI J (zI J (zO J (xS J (zK J (zD (yO (yB ?_)))))))))))
        refine yV ?_
        exact⟨_,J,(H.sub Z9).up O⟩
       refine yD J J (zI J (zO J (zO J (zO J (zO J (yY J (zK J (zD (zE (zI J (zI J ?_)))))))))))
       refine zO J (xS J (zK J (zD (yO (yB (yV ?_))))))
       exact⟨_,J,(H.sub Z9).up O⟩
      refine yD J J (zI J (zO J (zO J (zO J (zO J (yY J (zI J (zO J (zO J (zO J (zO J ?_)))))))))))
      refine yY J (zK J (zD (zE (zI J (zI J (zO J (xS J (zK J (zD (yO (yB ?_)))))))))))
      refine yV ?_
      exact⟨_,J,(H.sub Z9).up O⟩
     refine zI J (zO J (zO J (zO J (zO J (yY J (zI J (zO J (zO J (zO J (zO J (yY J ?_)))))))))))
     refine zI J (zO J (zO J (zO J (zO J (yY J (zK J (zD (zE (zI J (zI J (zO J ?_)))))))))))
     refine xS J (zK J (zD (yO (yB (yV ?_)))))
     exact⟨_,J,(H.sub Z9).up O⟩
    refine yD J J (zK J (zD (zE (zN xC J H.own3 J (zN xC J H.own1 J (zF J kS J (callE (qH hI H.fine (kn9 hK H) h101 h103 U U U Z) (fun s9 Hc=>?_))))))))
    have H:=H.call0 Hc
    clear Hc
    refine qv J J (fun h=>?_) (fun h=>?_)
    ·refine zI J (zN xC J H.own3 J (zN xC J H.own0 J (zF J kS J (callE (qH hI H.fine (kn9 hK H) h101 h104 U U U Z) (fun s9 Hc=>?_)))))
     have H:=H.call0 Hc
     clear Hc
     refine qv J J (fun h=>?_) (fun h=>?_)
     ·refine yD J J (zI J (zN xC J H.own2 J (zN xC J H.own1 J (zF J kS J (callE (qH hI H.fine (kn9 hK H) h102 h103 U U U Z) (fun s9 Hc=>?_))))))
      have H:=H.call0 Hc
      clear Hc
      refine qv J J (fun h=>?_) (fun h=>?_)
      ·refine yD J J (zI J (zN xC J H.own2 J (zN xC J H.own0 J (zF J kS J (callE (qH hI H.fine (kn9 hK H) h102 h104 U U U Z) (fun s9 Hc=>?_))))))
       have H:=H.call0 Hc
       clear Hc
       refine qv J J (fun h=>?_) (fun h=>?_)
       ·refine yD J J (zK J (zD (zE (zI J (zI J (zI J (yG J J (zK J (zD (yO (yB ?_)))))))))))
        refine yV ?_
        exact⟨_,J,(H.sub Z9).up O⟩
       refine yD J J (zK J (zD (zE (zI J (zI J (zI J (yG J J (zK J (zD (yO (yB ?_)))))))))))
       refine yV ?_
       exact⟨_,J,(H.sub Z9).up O⟩
      refine yD J J (zI J (zO J (zO J (zO J (zO J (yY J (zK J (zD (zE (zI J (zI J ?_)))))))))))
      refine zI J (yG J J (zK J (zD (yO (yB (yV ?_))))))
      exact⟨_,J,(H.sub Z9).up O⟩
     refine yD J J (zI J (zO J (zO J (zO J (zO J (yY J (zI J (zO J (zO J (zO J (zO J ?_)))))))))))
     refine yY J (zK J (zD (zE (zI J (zI J (zI J (yG J J (zK J (zD (yO (yB ?_)))))))))))
     refine yV ?_
     exact⟨_,J,(H.sub Z9).up O⟩
    refine zI J (zO J (zO J (zO J (zO J (yY J (zI J (zO J (zO J (zO J (zO J (yY J ?_)))))))))))
    refine zI J (zO J (zO J (zO J (zO J (yY J (zK J (zD (zE (zI J (zI J (zI J ?_)))))))))))
    refine yG J J (zK J (zD (yO (yB (yV ?_)))))
    exact⟨_,J,(H.sub Z9).up O⟩
   refine yD J J (zI J (zO J (zO J (zO J (zO J (yY J (zK J (zD (zE (zN xC J H.own3 J (zN xC J H.own1 J ?_)))))))))))
   refine zF J kS J (callE (qH hI H.fine (kn9 hK H) h101 h103 U U U Z) (fun s9 Hc=>?_))
   have H:=H.call0 Hc
   clear Hc
   refine qv J J (fun h=>?_) (fun h=>?_)
   ·refine zI J (zN xC J H.own3 J (zN xC J H.own0 J (zF J kS J (callE (qH hI H.fine (kn9 hK H) h101 h104 U U U Z) (fun s9 Hc=>?_)))))
    have H:=H.call0 Hc
    clear Hc
    refine qv J J (fun h=>?_) (fun h=>?_)
    ·refine yD J J (zI J (zN xC J H.own2 J (zN xC J H.own1 J (zF J kS J (callE (qH hI H.fine (kn9 hK H) h102 h103 U U U Z) (fun s9 Hc=>?_))))))
     have H:=H.call0 Hc
     clear Hc
     refine qv J J (fun h=>?_) (fun h=>?_)
     ·refine yD J J (zI J (zN xC J H.own2 J (zN xC J H.own0 J (zF J kS J (callE (qH hI H.fine (kn9 hK H) h102 h104 U U U Z) (fun s9 Hc=>?_))))))
      have H:=H.call0 Hc
      clear Hc
      refine qv J J (fun h=>?_) (fun h=>?_)
      ·refine yD J J (zK J (zD (zE (zI J (zI J (zI J (yG J J (zK J (zD (yO (yB ?_)))))))))))
       refine yV ?_
       exact⟨_,J,(H.sub Z9).up O⟩
      refine yD J J (zK J (zD (zE (zI J (zI J (zI J (yG J J (zK J (zD (yO (yB ?_)))))))))))
      refine yV ?_
      exact⟨_,J,(H.sub Z9).up O⟩
     refine yD J J (zI J (zO J (zO J (zO J (zO J (yY J (zK J (zD (zE (zI J (zI J ?_)))))))))))
     refine zI J (yG J J (zK J (zD (yO (yB (yV ?_))))))
     exact⟨_,J,(H.sub Z9).up O⟩
    refine yD J J (zI J (zO J (zO J (zO J (zO J (yY J (zI J (zO J (zO J (zO J (zO J ?_)))))))))))
    refine yY J (zK J (zD (zE (zI J (zI J (zI J (yG J J (zK J (zD (yO (yB ?_)))))))))))
    refine yV ?_
    exact⟨_,J,(H.sub Z9).up O⟩
   refine zI J (zO J (zO J (zO J (zO J (yY J (zI J (zO J (zO J (zO J (zO J (yY J ?_)))))))))))
   refine zI J (zO J (zO J (zO J (zO J (yY J (zK J (zD (zE (zI J (zI J (zI J ?_)))))))))))
   refine yG J J (zK J (zD (yO (yB (yV ?_)))))
   exact⟨_,J,(H.sub Z9).up O⟩
  refine yD J J (zI J (zO J (zO J (zO J (zO J (yY J (zI J (zO J (zO J (zO J (zO J ?_)))))))))))
  refine yY J (zK J (zD (zE (zN xC J H.own3 J (zN xC J H.own1 J (zF J kS J (callE (qH hI H.fine (kn9 hK H) h101 h103 U U U Z) (fun s9 Hc=>?_))))))))
  have H:=H.call0 Hc
  clear Hc
  refine qv J J (fun h=>?_) (fun h=>?_)
  ·refine zI J (zN xC J H.own3 J (zN xC J H.own0 J (zF J kS J (callE (qH hI H.fine (kn9 hK H) h101 h104 U U U Z) (fun s9 Hc=>?_)))))
   have H:=H.call0 Hc
   clear Hc
   refine qv J J (fun h=>?_) (fun h=>?_)
   ·refine yD J J (zI J (zN xC J H.own2 J (zN xC J H.own1 J (zF J kS J (callE (qH hI H.fine (kn9 hK H) h102 h103 U U U Z) (fun s9 Hc=>?_))))))
    have H:=H.call0 Hc
    clear Hc
    refine qv J J (fun h=>?_) (fun h=>?_)
    ·refine yD J J (zI J (zN xC J H.own2 J (zN xC J H.own0 J (zF J kS J (callE (qH hI H.fine (kn9 hK H) h102 h104 U U U Z) (fun s9 Hc=>?_))))))
     have H:=H.call0 Hc
     clear Hc
     refine qv J J (fun h=>?_) (fun h=>?_)
     ·refine yD J J (zK J (zD (zE (zI J (zI J (zI J (yG J J (zK J (zD (yO (yB ?_)))))))))))
      refine yV ?_
      exact⟨_,J,(H.sub Z9).up O⟩
     refine yD J J (zK J (zD (zE (zI J (zI J (zI J (yG J J (zK J (zD (yO (yB ?_)))))))))))
     refine yV ?_
     exact⟨_,J,(H.sub Z9).up O⟩
    refine yD J J (zI J (zO J (zO J (zO J (zO J (yY J (zK J (zD (zE (zI J (zI J ?_)))))))))))
    refine zI J (yG J J (zK J (zD (yO (yB (yV ?_))))))
    exact⟨_,J,(H.sub Z9).up O⟩
   refine yD J J (zI J (zO J (zO J (zO J (zO J (yY J (zI J (zO J (zO J (zO J (zO J ?_)))))))))))
   refine yY J (zK J (zD (zE (zI J (zI J (zI J (yG J J (zK J (zD (yO (yB ?_)))))))))))
   refine yV ?_
   exact⟨_,J,(H.sub Z9).up O⟩
  refine zI J (zO J (zO J (zO J (zO J (yY J (zI J (zO J (zO J (zO J (zO J (yY J ?_)))))))))))
  refine zI J (zO J (zO J (zO J (zO J (yY J (zK J (zD (zE (zI J (zI J (zI J ?_)))))))))))
  refine yG J J (zK J (zD (yO (yB (yV ?_)))))
  exact⟨_,J,(H.sub Z9).up O⟩
 refine zI J (zO J (zO J (zO J (zO J (yY J (zI J (zO J (zO J (zO J (zO J (yY J ?_)))))))))))
 refine zI J (zO J (zO J (zO J (zO J (yY J (zK J (zD (zE (zN xC J H.own3 J (zN xC J H.own1 J (zF J kS J (callE (qH hI H.fine (kn9 hK H) h101 h103 U U U Z) (fun s9 Hc=>?_)))))))))))))
 have H:=H.call0 Hc
 clear Hc
 refine qv J J (fun h=>?_) (fun h=>?_)
 ·refine zI J (zN xC J H.own3 J (zN xC J H.own0 J (zF J kS J (callE (qH hI H.fine (kn9 hK H) h101 h104 U U U Z) (fun s9 Hc=>?_)))))
  have H:=H.call0 Hc
  clear Hc
  refine qv J J (fun h=>?_) (fun h=>?_)
  ·refine yD J J (zI J (zN xC J H.own2 J (zN xC J H.own1 J (zF J kS J (callE (qH hI H.fine (kn9 hK H) h102 h103 U U U Z) (fun s9 Hc=>?_))))))
   have H:=H.call0 Hc
   clear Hc
   refine qv J J (fun h=>?_) (fun h=>?_)
   ·refine yD J J (zI J (zN xC J H.own2 J (zN xC J H.own0 J (zF J kS J (callE (qH hI H.fine (kn9 hK H) h102 h104 U U U Z) (fun s9 Hc=>?_))))))
    have H:=H.call0 Hc
    clear Hc
    refine qv J J (fun h=>?_) (fun h=>?_)
    ·refine yD J J (zK J (zD (zE (zI J (zI J (zI J (yG J J (zK J (zD (yO (yB ?_)))))))))))
     refine yV ?_
     exact⟨_,J,(H.sub Z9).up O⟩
    refine yD J J (zK J (zD (zE (zI J (zI J (zI J (yG J J (zK J (zD (yO (yB ?_)))))))))))
    refine yV ?_
    exact⟨_,J,(H.sub Z9).up O⟩
   refine yD J J (zI J (zO J (zO J (zO J (zO J (yY J (zK J (zD (zE (zI J (zI J ?_)))))))))))
   refine zI J (yG J J (zK J (zD (yO (yB (yV ?_))))))
   exact⟨_,J,(H.sub Z9).up O⟩
  refine yD J J (zI J (zO J (zO J (zO J (zO J (yY J (zI J (zO J (zO J (zO J (zO J ?_)))))))))))
  refine yY J (zK J (zD (zE (zI J (zI J (zI J (yG J J (zK J (zD (yO (yB ?_)))))))))))
  refine yV ?_
  exact⟨_,J,(H.sub Z9).up O⟩
 refine zI J (zO J (zO J (zO J (zO J (yY J (zI J (zO J (zO J (zO J (zO J (yY J ?_)))))))))))
 refine zI J (zO J (zO J (zO J (zO J (yY J (zK J (zD (zE (zI J (zI J (zI J ?_)))))))))))
 refine yG J J (zK J (zD (yO (yB (yV ?_)))))
 exact⟨_,J,(H.sub Z9).up O⟩
set_option maxHeartbeats 4000000 in
set_option maxRecDepth 10000 in
theorem side05_ok(hI:xA I)(hf:Fine s)(hK:Kn s K)(aX:RatK K n1 a1 m1 c1 n2 a2 m2 c2 p1 16 1)(aY:RatK K n3 a3 m3 c3 n4 a4 m4 c4 q1 16 1)(bX:RatK K n5 a5 m5 c5 n6 a6 m6 c6 p5 16 1)(bY:RatK K n7 a7 m7 c7 n8 a8 m8 c8 q5 16 1)(cX:RatK K n9 a9 m9 c9 n10 a10 m10 c10 p9 16 1)(cY:RatK K n11 a11 m11 c11 n12 a12 m12 c12 q9 16 1)(hroom:s.next+130000≤yC) :
  ∃v' s',xN Tryz.prog I 164 #[.agg ⟨[.bool n1,.slice a1 m1 c1,.bool n2,.slice a2 m2 c2,.bool n3,.slice a3 m3 c3,.bool n4,.slice a4 m4 c4]⟩,.agg ⟨[.bool n5,.slice a5 m5 c5,.bool n6,.slice a6 m6 c6,.bool n7,.slice a7 m7 c7,.bool n8,.slice a8 m8 c8]⟩,.agg ⟨[.bool n9,.slice a9 m9 c9,.bool n10,.slice a10 m10 c10,.bool n11,.slice a11 m11 c11,.bool n12,.slice a12 m12 c12]⟩] s v' s'∧(∃z,qQ s 130000 (.int .i64 z) v' s'):=by
 have H:=hf.hl
 have aX:=aX.mono (zZ (D:=[]))
 have aY:=aY.mono (zZ (D:=[]))
 have bX:=bX.mono (zZ (D:=[]))
 have bY:=bY.mono (zZ (D:=[]))
 have cX:=cX.mono (zZ (D:=[]))
 have cY:=cY.mono (zZ (D:=[]))
 refine zX 3 (hI 164 U U) Tryz.func164 J fb164 J ?_
 refine zE (zY H J O (fun b3 s1 H=>?_))
 refine zY H J O (fun b4 s2 H=>?_)
 refine zY H J O (fun b5 s3 H=>?_)
 refine zG (zD (yT [⟨0,0,.light,[1,3,4]⟩,⟨1,0,.light,[0,3,4]⟩,⟨3,0,.light,[0,1,4]⟩,⟨4,0,.light,[0,1,3]⟩,⟨2,3,.whole,[3,4]⟩,⟨5,31,.whole,[]⟩,⟨6,63,.whole,[]⟩,⟨7,127,.whole,[]⟩,⟨8,255,.light,[]⟩] Z0 Z0 (zQ J J qN J H.own1 Y1 J (zQ J J qN J H.own2 Y2 J (zQ J J qN J H.own0 Y0 J (zQ J J qN J H.own2 Y2 J (zM J J (zF J fc39 J (kn (js hI (Fine.pr H.fine (xW H.lt0 (xW H.lt2 qO))) X3 bX bY aX aY U U Z) (fun s9 D9 n1 a1 m1 c1 n1d a1d m1d c1d n1y a1y m1y c1y n1yd a1yd m1yd c1yd Hc h101a h101b=>?_))))))))))
 have Hc:=HL.wider H.fine Z3 Z5 Hc
 obtain⟨Φ,ku,kd,H⟩:=qk (K:=K) H Hc
 try replace aX:=aX.mono ku
 try replace aY:=aY.mono ku
 try replace cX:=cX.mono ku
 try replace cY:=cY.mono ku
 replace h101a:=h101a.mono kd
 replace h101b:=h101b.mono kd
 clear Hc ku kd
 refine zM J J (zF J fc39 J (kn (js hI H.fine (kn3 hK H) cX cY aX aY U U Z) (fun s9 D9 n2 a2 m2 c2 n2d a2d m2d c2d n2y a2y m2y c2y n2yd a2yd m2yd c2yd Hc h102a h102b=>?_)))
 have Hc:=HL.wider H.fine Z3 Z7 Hc
 obtain⟨Φ,ku,kd,H⟩:=qk (K:=K) H Hc
 try replace h101a:=h101a.mono ku
 try replace h101b:=h101b.mono ku
 replace h102a:=h102a.mono kd
 replace h102b:=h102b.mono kd
 clear Hc ku kd
 refine zM J J (zF J fc226 J (qe (cross05_ok hI H.fine (kn3 hK H) h101a h101b h102a h102b U U U U U U Z) (fun s9 D9 n3 a3 m3 c3 n3d a3d m3d c3d Hc h103=>?_)))
 have Hc:=HL.wider H.fine Z3 Z7 Hc
 obtain⟨Φ,ku,kd,H⟩:=qk (K:=K) H Hc
 replace h103:=h103.mono kd
 clear Hc ku kd
 refine zM J J (zF J fc80 J (callE (sign04_ok hI H.fine (kn3 hK H) h103 U Z) (fun s9 Hc=>?_)))
 have Hc:=HL.wider H.fine Z3 Z7 Hc
 have H:=H.call0 Hc
 clear Hc
 refine zA J J (zL J ⟨J,(zU (yO (yB (yV ?_))))⟩)
 exact⟨_,J,(H.sub Z9).up O⟩
set_option maxHeartbeats 4000000 in
set_option maxRecDepth 10000 in
theorem corner06_ok(hI:xA I)(hf:Fine s){v:Value}(hl:Sl s 38 8 v l)(h0:0<l.length)(h12:l.length≤12){x:Int}(hx:0≤x)(hroom:s.next+2≤yC)(hz:∀k,k<l.length→(l.getD k []).length=8∧(l.getD k []).all Go.M.plainCell=true) :
  ∃v' s',xN Tryz.prog I 165 #[v,.int .i64 x] s v' s'∧(∃j,j<l.length∧qQ s 2 (.agg ⟨l.getD j []⟩) v' s'):=by
 have H:=hf.hl
 obtain⟨a,len,cap,rfl,hn⟩:=hl.isSlice
 subst hn
 have ht0:=Int.tmod_nonneg (l.length:Int) hx
 have ht1:=Int.tmod_lt_of_pos x (show(0:Int)<(l.length:Int)by omega)
 obtain⟨j,hj⟩:∃j:Nat,x.tmod (l.length:Int)=j:=⟨(x.tmod (l.length:Int)).toNat,by omega⟩
 obtain⟨b1,off1,c1_,rfl,hg1,hb1,hc1⟩:=hl.at (i:=x.tmod (l.length:Int)) (k:=j) hj O
 obtain⟨hz1,hz2⟩:=hz j O
 generalize hc9:l.getD j []=cs at *
 obtain⟨x0,x1,x2,x3,x4,x5,x6,x7,rfl⟩:∃x0 x1 x2 x3 x4 x5 x6 x7,cs=[x0,x1,x2,x3,x4,x5,x6,x7]:=by
  match cs,hz1 with
  | [x0,x1,x2,x3,x4,x5,x6,x7],_=>exact⟨_,_,_,_,_,_,_,_,rfl⟩
 refine zX 2 (hI 165 U U) Tryz.func165 J fb165 J ?_
 refine zE (zS H zf38 O (fun b4 s1 H=>?_))
 refine zD (zE (zH J (zC J (zH J (yF ju J J J (kE J J O (zP el139 J J O O (zN qN J W8 hc1 (zT (vs:=[x0,x1,x2,x3,x4,x5,x6,x7]) H sz38 J J J hz2 J O (fun s9 H=>?_))))))))))
 refine zD (yO (yB (yP qN J H.own0 J ?_)))
 exact⟨j,by omega,by rw[hc9],H.drop0.up O⟩
theorem VecsK.len{N M:Nat}(h:VecsK K l N M):∀k,k<l.length→(l.getD k []).length=8∧(l.getD k []).all Go.M.plainCell=true:=fun k hk=>by
 obtain⟨q,r,h1⟩:=h.vec k hk
 exact⟨h1.len,h1.plain⟩
end Go.Proofs.YtocnbjjmmgolfaaGreat
