/- The integers of the program: sums, products. -/
/- The integers of the program: quotients and divisors of numbers of at most two digits. -/
import Derived.Test.YtocnbjjmmgolfaaGreatA28
namespace Go.Proofs.YtocnbjjmmgolfaaGreat
open Go Go.M Go.Proofs.C14
theorem fb81:xK Tryz.f81 (Tryz.f81.body.getD .skip) 2=true:=by kernel_rfl
theorem fc141:xJ Tryz.prog 141=true:=by kernel_rfl
theorem fc142:xJ Tryz.prog 142=true:=by kernel_rfl
theorem fc143:xJ Tryz.prog 143=true:=by kernel_rfl
theorem fc144:xJ Tryz.prog 144=true:=by kernel_rfl
theorem fb214:xK Tryz.f214 (Tryz.f214.body.getD .skip) 1=true:=by kernel_rfl
theorem sz4:kD Tryz.prog 4=some 1:=by kernel_rfl
theorem fb84:xK Tryz.f84 (Tryz.f84.body.getD .skip) 2=true:=by kernel_rfl
variable{I:xP}{s:St}{K:Kw}{n1 n2:Bool}{a1 a2:Option Addr}{c1 c2 m1 m2:Nat}{x y:Int}
set_option maxHeartbeats 4000000 in
set_option maxRecDepth 10000 in
theorem addP_ok(hI:xA I)(hf:Fine s)(hK:Kn s K)(hx:NumK K n1 a1 m1 c1 x)(hy:NumK K n2 a2 m2 c2 y)(hlx:(dg x.natAbs).length≤1000)(hly:(dg y.natAbs).length≤1000)(hroom:s.next+4000≤yC) :
  ∃v' s',xN Tryz.prog I 81 #[.agg ⟨[.bool n1,.slice a1 m1 c1]⟩,.agg ⟨[.bool n2,.slice a2 m2 c2]⟩] s v' s'∧wR K s 4000 (x+y) v' s':=by
 have H:=hf.hl
 obtain⟨hn1,rfl,hk1⟩:=hx
 obtain⟨hn2,rfl,hk2⟩:=hy
 have ha:=hK _ _ hk1
 have hb:=hK _ _ hk2
 have hda:=kq x.natAbs
 have hdb:=kq y.natAbs
 have hva:=dv_dg x.natAbs
 have hvb:=dv_dg y.natAbs
 cases n1
 ·cases n2
  ·refine zX 2 (hI 81 U U) Tryz.func81 J fb81 J ?_
   refine zY H J O (fun b2 s1 H=>?_)
   refine zY H J O (fun b3 s2 H=>?_)
   refine zS H qU O (fun b4 s3 H=>?_)
   refine zB xD J (zJ sh4 J H.own2 J (zB xD J (zJ sh4 J H.own1 J (op_eqb un4 J J (zK J (yT [⟨0,0,.light,[3,5]⟩,⟨1,1,.light,[3,5]⟩,⟨2,0,.light,[1,5]⟩,⟨3,4,.light,[1,5]⟩,⟨4,0,.light,[1,3]⟩,⟨5,16,.light,[1,3]⟩,⟨6,60,.whole,[1]⟩,⟨7,127,.whole,[]⟩,⟨8,255,.whole,[]⟩] Z0 Z0 (zA J J (zB xD J ⟨J,(zV J J sh4 J H.own2 Y2 J (zA J J (zB yM J ⟨J,(zV J J xQ J H.own2 Y2 J (zA J J (zB yM J ⟨J,?_⟩)))⟩)))⟩))))))))
   refine zV J J xQ J H.own1 Y1 J (zM J J (zF J fc142 J ?_))
   obtain⟨_,s9,hr,Dp,out,Hc,hsl,hdo,hvo,hlo⟩:=plusP_ok hI (Fine.pr H.fine (xW H.lt2 qO)) ((ha.kept H).prot (X:=[b2])) ((hb.kept H).prot (X:=[b2])) hda hdb hlx hly Z
   refine⟨_,_,hr,?_⟩
   clear hr
   have Hc:=HL.wider H.fine Z3 Z5 Hc
   have H:=H.callE Hc
   clear Hc
   simp only[List.cons_append,List.nil_append,List.append_assoc]at H
   refine zM J J (zF J fc141 J ?_)
   obtain⟨ap,mp,cp,rfl,hmp⟩:=hsl.isSlice
   subst hmp
   obtain⟨_,s9,hr,Dn,n9,a9,m9,c9,rfl,Hc,hz9⟩:=of_n (K:=KX K Dp) (neg:=false) (z:=x+y) (l:=out) hI H.fine W4 hdo W5 (fun m h0 hm=>.inr ((hsl.cut h0 hm).cap O)) O Z
   refine⟨_,_,hr,?_⟩
   clear hr
   have Hc:=HL.wider H.fine Z3 Z7 Hc
   have H:=H.callE Hc
   clear Hc
   simp only[List.cons_append,List.nil_append,List.append_assoc]at H
   refine xM (vs:=[.bool _,.slice _ _ _]) (fr:=[]) H J J qI J J J J J J Z2 O (fun s4 H=>?_)
   refine zU (en ?_)
   refine yP xO J H.own0 J ?_
   exact⟨Dp++Dn,_,_,_,_,J,H.drop0.drop0.drop0.up O,hz9.mono X0⟩
  ·refine zX 2 (hI 81 U U) Tryz.func81 J fb81 J ?_
   refine zY H J O (fun b2 s1 H=>?_)
   refine zY H J O (fun b3 s2 H=>?_)
   refine zS H qU O (fun b4 s3 H=>?_)
   refine zB xD J (zJ sh4 J H.own2 J (zB xD J (zJ sh4 J H.own1 J (op_eqb un4 J J (zK J (zB yM J (zJ xQ J H.own2 J (zB yM J (zJ xQ J H.own1 J (zF J fc143 J ?_))))))))))
   obtain⟨_,_,hr,rfl,rfl⟩:=compareP_n hI (ha.kept H) (hb.kept H) O Y7
   refine⟨_,_,hr,?_⟩
   clear hr
   refine xB J J (fun h=>?_) (fun h=>?_)
   ·refine zK J (yT [⟨0,0,.light,[3,5]⟩,⟨1,1,.light,[3,5]⟩,⟨2,0,.light,[1,5]⟩,⟨3,4,.light,[1,5]⟩,⟨4,0,.light,[1,3]⟩,⟨5,16,.light,[1,3]⟩,⟨6,60,.whole,[1]⟩,⟨7,127,.whole,[]⟩,⟨8,255,.whole,[]⟩] Z0 Z0 (zA J J (zB xD J ⟨J,(zV J J sh4 J H.own1 Y1 J (zA J J (zB yM J ⟨J,(zV J J xQ J H.own1 Y1 J (zA J J (zB yM J ⟨J,(zV J J xQ J H.own2 Y2 J (zM J J (zF J fc144 J ?_)))⟩)))⟩)))⟩)))
    have hlt:=cmpN_lt.mp h
    obtain⟨_,s9,hr,Dp,out,Hc,hsl,hdo,hvo,hlo⟩:=minusP_ok hI (Fine.pr H.fine (xW H.lt1 qO)) ((hb.kept H).prot (X:=[b3])) ((ha.kept H).prot (X:=[b3])) hdb hda hly (jB O) O Z
    refine⟨_,_,hr,?_⟩
    clear hr
    have Hc:=HL.wider H.fine Z3 Z5 Hc
    have H:=H.callE Hc
    clear Hc
    simp only[List.cons_append,List.nil_append,List.append_assoc]at H
    refine zM J J (zF J fc141 J ?_)
    obtain⟨ap,mp,cp,rfl,hmp⟩:=hsl.isSlice
    subst hmp
    obtain⟨_,s9,hr,Dn,n9,a9,m9,c9,rfl,Hc,hz9⟩:=of_n (K:=KX K Dp) (neg:=true) (z:=x+y) (l:=out) hI H.fine W4 hdo W5 (fun m h0 hm=>.inr ((hsl.cut h0 hm).cap O)) O Z
    refine⟨_,_,hr,?_⟩
    clear hr
    have Hc:=HL.wider H.fine Z3 Z7 Hc
    have H:=H.callE Hc
    clear Hc
    simp only[List.cons_append,List.nil_append,List.append_assoc]at H
    refine xM (vs:=[.bool _,.slice _ _ _]) (fr:=[]) H J J qI J J J J J J Z2 O (fun s4 H=>?_)
    refine zU (en ?_)
    refine yP xO J H.own0 J ?_
    exact⟨Dp++Dn,_,_,_,_,J,H.drop0.drop0.drop0.up O,hz9.mono X0⟩
   refine zK J (yT [⟨0,0,.light,[3,5]⟩,⟨1,1,.light,[3,5]⟩,⟨2,0,.light,[1,5]⟩,⟨3,4,.light,[1,5]⟩,⟨4,0,.light,[1,3]⟩,⟨5,16,.light,[1,3]⟩,⟨6,60,.whole,[1]⟩,⟨7,127,.whole,[]⟩,⟨8,255,.whole,[]⟩] Z0 Z0 (zA J J (zB xD J ⟨J,(zV J J sh4 J H.own2 Y2 J (zA J J (zB yM J ⟨J,(zV J J xQ J H.own2 Y2 J (zA J J (zB yM J ⟨J,(zV J J xQ J H.own1 Y1 J (zM J J (zF J fc144 J ?_)))⟩)))⟩)))⟩)))
   have hlt:¬x.natAbs<y.natAbs:=fun hh=>h (cmpN_lt.mpr hh)
   obtain⟨_,s9,hr,Dp,out,Hc,hsl,hdo,hvo,hlo⟩:=minusP_ok hI (Fine.pr H.fine (xW H.lt2 qO)) ((ha.kept H).prot (X:=[b2])) ((hb.kept H).prot (X:=[b2])) hda hdb hlx (jB O) O Z
   refine⟨_,_,hr,?_⟩
   clear hr
   have Hc:=HL.wider H.fine Z3 Z5 Hc
   have H:=H.callE Hc
   clear Hc
   simp only[List.cons_append,List.nil_append,List.append_assoc]at H
   refine zM J J (zF J fc141 J ?_)
   obtain⟨ap,mp,cp,rfl,hmp⟩:=hsl.isSlice
   subst hmp
   obtain⟨_,s9,hr,Dn,n9,a9,m9,c9,rfl,Hc,hz9⟩:=of_n (K:=KX K Dp) (neg:=false) (z:=x+y) (l:=out) hI H.fine W4 hdo W5 (fun m h0 hm=>.inr ((hsl.cut h0 hm).cap O)) O Z
   refine⟨_,_,hr,?_⟩
   clear hr
   have Hc:=HL.wider H.fine Z3 Z7 Hc
   have H:=H.callE Hc
   clear Hc
   simp only[List.cons_append,List.nil_append,List.append_assoc]at H
   refine xM (vs:=[.bool _,.slice _ _ _]) (fr:=[]) H J J qI J J J J J J Z2 O (fun s5 H=>?_)
   refine zU (en ?_)
   refine yP xO J H.own0 J ?_
   exact⟨Dp++Dn,_,_,_,_,J,H.drop0.drop0.drop0.up O,hz9.mono X0⟩
 ·cases n2
  ·refine zX 2 (hI 81 U U) Tryz.func81 J fb81 J ?_
   refine zY H J O (fun b2 s1 H=>?_)
   refine zY H J O (fun b3 s2 H=>?_)
   refine zS H qU O (fun b4 s3 H=>?_)
   refine zB xD J (zJ sh4 J H.own2 J (zB xD J (zJ sh4 J H.own1 J (op_eqb un4 J J (zK J (zB yM J (zJ xQ J H.own2 J (zB yM J (zJ xQ J H.own1 J (zF J fc143 J ?_))))))))))
   obtain⟨_,_,hr,rfl,rfl⟩:=compareP_n hI (ha.kept H) (hb.kept H) O Y7
   refine⟨_,_,hr,?_⟩
   clear hr
   refine xB J J (fun h=>?_) (fun h=>?_)
   ·refine zK J (yT [⟨0,0,.light,[3,5]⟩,⟨1,1,.light,[3,5]⟩,⟨2,0,.light,[1,5]⟩,⟨3,4,.light,[1,5]⟩,⟨4,0,.light,[1,3]⟩,⟨5,16,.light,[1,3]⟩,⟨6,60,.whole,[1]⟩,⟨7,127,.whole,[]⟩,⟨8,255,.whole,[]⟩] Z0 Z0 (zA J J (zB xD J ⟨J,(zV J J sh4 J H.own1 Y1 J (zA J J (zB yM J ⟨J,(zV J J xQ J H.own1 Y1 J (zA J J (zB yM J ⟨J,(zV J J xQ J H.own2 Y2 J (zM J J (zF J fc144 J ?_)))⟩)))⟩)))⟩)))
    have hlt:=cmpN_lt.mp h
    obtain⟨_,s9,hr,Dp,out,Hc,hsl,hdo,hvo,hlo⟩:=minusP_ok hI (Fine.pr H.fine (xW H.lt1 qO)) ((hb.kept H).prot (X:=[b3])) ((ha.kept H).prot (X:=[b3])) hdb hda hly (jB O) O Z
    refine⟨_,_,hr,?_⟩
    clear hr
    have Hc:=HL.wider H.fine Z3 Z5 Hc
    have H:=H.callE Hc
    clear Hc
    simp only[List.cons_append,List.nil_append,List.append_assoc]at H
    refine zM J J (zF J fc141 J ?_)
    obtain⟨ap,mp,cp,rfl,hmp⟩:=hsl.isSlice
    subst hmp
    obtain⟨_,s9,hr,Dn,n9,a9,m9,c9,rfl,Hc,hz9⟩:=of_n (K:=KX K Dp) (neg:=false) (z:=x+y) (l:=out) hI H.fine W4 hdo W5 (fun m h0 hm=>.inr ((hsl.cut h0 hm).cap O)) O Z
    refine⟨_,_,hr,?_⟩
    clear hr
    have Hc:=HL.wider H.fine Z3 Z7 Hc
    have H:=H.callE Hc
    clear Hc
    simp only[List.cons_append,List.nil_append,List.append_assoc]at H
    refine xM (vs:=[.bool _,.slice _ _ _]) (fr:=[]) H J J qI J J J J J J Z2 O (fun s4 H=>?_)
    refine zU (en ?_)
    refine yP xO J H.own0 J ?_
    exact⟨Dp++Dn,_,_,_,_,J,H.drop0.drop0.drop0.up O,hz9.mono X0⟩
   refine zK J (yT [⟨0,0,.light,[3,5]⟩,⟨1,1,.light,[3,5]⟩,⟨2,0,.light,[1,5]⟩,⟨3,4,.light,[1,5]⟩,⟨4,0,.light,[1,3]⟩,⟨5,16,.light,[1,3]⟩,⟨6,60,.whole,[1]⟩,⟨7,127,.whole,[]⟩,⟨8,255,.whole,[]⟩] Z0 Z0 (zA J J (zB xD J ⟨J,(zV J J sh4 J H.own2 Y2 J (zA J J (zB yM J ⟨J,(zV J J xQ J H.own2 Y2 J (zA J J (zB yM J ⟨J,(zV J J xQ J H.own1 Y1 J (zM J J (zF J fc144 J ?_)))⟩)))⟩)))⟩)))
   have hlt:¬x.natAbs<y.natAbs:=fun hh=>h (cmpN_lt.mpr hh)
   obtain⟨_,s9,hr,Dp,out,Hc,hsl,hdo,hvo,hlo⟩:=minusP_ok hI (Fine.pr H.fine (xW H.lt2 qO)) ((ha.kept H).prot (X:=[b2])) ((hb.kept H).prot (X:=[b2])) hda hdb hlx (jB O) O Z
   refine⟨_,_,hr,?_⟩
   clear hr
   have Hc:=HL.wider H.fine Z3 Z5 Hc
   have H:=H.callE Hc
   clear Hc
   simp only[List.cons_append,List.nil_append,List.append_assoc]at H
   refine zM J J (zF J fc141 J ?_)
   obtain⟨ap,mp,cp,rfl,hmp⟩:=hsl.isSlice
   subst hmp
   obtain⟨_,s9,hr,Dn,n9,a9,m9,c9,rfl,Hc,hz9⟩:=of_n (K:=KX K Dp) (neg:=true) (z:=x+y) (l:=out) hI H.fine W4 hdo W5 (fun m h0 hm=>.inr ((hsl.cut h0 hm).cap O)) O Z
   refine⟨_,_,hr,?_⟩
   clear hr
   have Hc:=HL.wider H.fine Z3 Z7 Hc
   have H:=H.callE Hc
   clear Hc
   simp only[List.cons_append,List.nil_append,List.append_assoc]at H
   refine xM (vs:=[.bool _,.slice _ _ _]) (fr:=[]) H J J qI J J J J J J Z2 O (fun s5 H=>?_)
   refine zU (en ?_)
   refine yP xO J H.own0 J ?_
   exact⟨Dp++Dn,_,_,_,_,J,H.drop0.drop0.drop0.up O,hz9.mono X0⟩
  ·refine zX 2 (hI 81 U U) Tryz.func81 J fb81 J ?_
   refine zY H J O (fun b2 s1 H=>?_)
   refine zY H J O (fun b3 s2 H=>?_)
   refine zS H qU O (fun b4 s3 H=>?_)
   refine zB xD J (zJ sh4 J H.own2 J (zB xD J (zJ sh4 J H.own1 J (op_eqb un4 J J (zK J (yT [⟨0,0,.light,[3,5]⟩,⟨1,1,.light,[3,5]⟩,⟨2,0,.light,[1,5]⟩,⟨3,4,.light,[1,5]⟩,⟨4,0,.light,[1,3]⟩,⟨5,16,.light,[1,3]⟩,⟨6,60,.whole,[1]⟩,⟨7,127,.whole,[]⟩,⟨8,255,.whole,[]⟩] Z0 Z0 (zA J J (zB xD J ⟨J,(zV J J sh4 J H.own2 Y2 J (zA J J (zB yM J ⟨J,(zV J J xQ J H.own2 Y2 J (zA J J (zB yM J ⟨J,?_⟩)))⟩)))⟩))))))))
   refine zV J J xQ J H.own1 Y1 J (zM J J (zF J fc142 J ?_))
   obtain⟨_,s9,hr,Dp,out,Hc,hsl,hdo,hvo,hlo⟩:=plusP_ok hI (Fine.pr H.fine (xW H.lt2 qO)) ((ha.kept H).prot (X:=[b2])) ((hb.kept H).prot (X:=[b2])) hda hdb hlx hly Z
   refine⟨_,_,hr,?_⟩
   clear hr
   have Hc:=HL.wider H.fine Z3 Z5 Hc
   have H:=H.callE Hc
   clear Hc
   simp only[List.cons_append,List.nil_append,List.append_assoc]at H
   refine zM J J (zF J fc141 J ?_)
   obtain⟨ap,mp,cp,rfl,hmp⟩:=hsl.isSlice
   subst hmp
   obtain⟨_,s9,hr,Dn,n9,a9,m9,c9,rfl,Hc,hz9⟩:=of_n (K:=KX K Dp) (neg:=true) (z:=x+y) (l:=out) hI H.fine W4 hdo W5 (fun m h0 hm=>.inr ((hsl.cut h0 hm).cap O)) O Z
   refine⟨_,_,hr,?_⟩
   clear hr
   have Hc:=HL.wider H.fine Z3 Z7 Hc
   have H:=H.callE Hc
   clear Hc
   simp only[List.cons_append,List.nil_append,List.append_assoc]at H
   refine xM (vs:=[.bool _,.slice _ _ _]) (fr:=[]) H J J qI J J J J J J Z2 O (fun s4 H=>?_)
   refine zU (en ?_)
   refine yP xO J H.own0 J ?_
   exact⟨Dp++Dn,_,_,_,_,J,H.drop0.drop0.drop0.up O,hz9.mono X0⟩
set_option maxHeartbeats 4000000 in
set_option maxRecDepth 10000 in
theorem negP_ok(hI:xA I)(hf:Fine s)(hK:Kn s K)(hx:NumK K n1 a1 m1 c1 x)(hroom:s.next+10≤yC) :
  ∃v' s',xN Tryz.prog I 214 #[.agg ⟨[.bool n1,.slice a1 m1 c1]⟩] s v' s'∧wR K s 10 (-x) v' s':=by
 have H:=hf.hl
 have hz:=hx.zero
 obtain⟨hn1,hm1,hk1⟩:=hx
 cases n1
 ·refine zX 1 (hI 214 U U) Tryz.func214 J fb214 J ?_
  refine zY H J O (fun b1 s1 H=>?_)
  refine zS H qU O (fun b2 s2 H=>?_)
  refine zB xD J (zJ sh4 J H.own1 J (qt J (zI J (zB yM J (zJ xQ J H.own1 J (yF xV J J J (qv J J (fun h=>?_) (fun h=>?_))))))))
  ·refine yD J J (zB xD J (qu (vs:=[.bool _]) H sz4 J J J J J O (fun s3 H=>?_)))
   refine zN xO J H.own1 J (zT (vs:=[.bool _,.slice _ _ _]) H qI J J J J J O (fun s4 H=>?_))
   refine en ?_
   refine yP xO J H.own0 J (⟨[],_,_,_,_,J,H.drop0.drop0.up O,?_,by rw[Int.natAbs_neg];exact hm1,by rw[Int.natAbs_neg];exact .inl hk1⟩)
   simp only[Bool.true_eq,Bool.false_eq,decide_eq_true_eq,decide_eq_false_iff_not]at hn1 ⊢
   omega
  refine yD J J (zB xD J (qu (vs:=[.bool _]) H sz4 J J J J J O (fun s5 H=>?_)))
  refine zN xO J H.own1 J (zT (vs:=[.bool _,.slice _ _ _]) H qI J J J J J O (fun s6 H=>?_))
  refine en ?_
  refine yP xO J H.own0 J (⟨[],_,_,_,_,J,H.drop0.drop0.up O,?_,by rw[Int.natAbs_neg];exact hm1,by rw[Int.natAbs_neg];exact .inl hk1⟩)
  simp only[Bool.true_eq,Bool.false_eq,decide_eq_true_eq,decide_eq_false_iff_not]at hn1 ⊢
  omega
 ·refine zX 1 (hI 214 U U) Tryz.func214 J fb214 J ?_
  refine zY H J O (fun b1 s1 H=>?_)
  refine zS H qU O (fun b2 s2 H=>?_)
  refine zB xD J (zJ sh4 J H.own1 J (qt J (zI J (yY J (zB xD J (qu (vs:=[.bool _]) H sz4 J J J J J O (fun s3 H=>?_)))))))
  refine zN xO J H.own1 J (zT (vs:=[.bool _,.slice _ _ _]) H qI J J J J J O (fun s4 H=>?_))
  refine en ?_
  refine yP xO J H.own0 J (⟨[],_,_,_,_,J,H.drop0.drop0.up O,?_,by rw[Int.natAbs_neg];exact hm1,by rw[Int.natAbs_neg];exact .inl hk1⟩)
  simp only[Bool.true_eq,Bool.false_eq,decide_eq_true_eq,decide_eq_false_iff_not]at hn1 ⊢
  omega
set_option maxHeartbeats 4000000 in
set_option maxRecDepth 10000 in
theorem jD(hI:xA I)(hf:Fine s)(hK:Kn s K)(hx:NumK K n1 a1 m1 c1 x)(hy:NumK K n2 a2 m2 c2 y)(hlx:(dg x.natAbs).length≤1000)(hly:(dg y.natAbs).length≤1000)(hroom:s.next+20≤yC) :
  ∃v' s',xN Tryz.prog I 84 #[.agg ⟨[.bool n1,.slice a1 m1 c1]⟩,.agg ⟨[.bool n2,.slice a2 m2 c2]⟩] s v' s'∧wR K s 20 (x*y) v' s':=by
 have H:=hf.hl
 obtain⟨hn1,rfl,hk1⟩:=hx
 obtain⟨hn2,rfl,hk2⟩:=hy
 have ha:=hK _ _ hk1
 have hb:=hK _ _ hk2
 have hda:=kq x.natAbs
 have hdb:=kq y.natAbs
 have hva:=dv_dg x.natAbs
 have hvb:=dv_dg y.natAbs
 have ho1:∀{n:Nat},(dg n).length=1→dg n=[(n:Int)]:=dg_one
 have hox:= @dg_one x.natAbs
 have hoy:= @dg_one y.natAbs
 generalize dg x.natAbs=la at *
 generalize dg y.natAbs=lb at *
 refine zX 2 (hI 84 U U) Tryz.func84 J fb84 J ?_
 refine zY H J O (fun b2 s1 H=>?_)
 refine zY H J O (fun b3 s2 H=>?_)
 refine zS H qU O (fun b4 s3 H=>?_)
 refine yT [⟨0,0,.light,[3]⟩,⟨1,1,.light,[3]⟩,⟨2,0,.light,[1]⟩,⟨3,4,.light,[1]⟩,⟨4,3,.light,[3]⟩,⟨5,31,.light,[]⟩] Z0 Z0 (zA J J (zB yM J ⟨J,(zV J J xQ J H.own2 Y2 J (zA J J (zB yM J ⟨J,(zV J J xQ J H.own1 Y1 J (zA J J (yU J ⟨J,(zA J J (yU J ⟨J,(zU (zH J (yF xV J J J (qh J J (fun h=>?_) (fun h=>?_)))))⟩))⟩)))⟩)))⟩))
 ·refine zI J (zH J (yF xV J J J (qh J J (fun h=>?_) (fun h=>?_))))
  ·refine yD J J ?_
   have hl1:la.length=1:=by omega
   have hl2:lb.length=1:=by omega
   have hxe:=hox hl1
   have hye:=hoy hl2
   subst hxe
   subst hye
   have hx9:=hda.at 0
   have hy9:=hdb.at 0
   simp only[List.getD_cons_zero]at hx9 hy9
   have hbd:=mul_bound hx9 hy9 (o:=0) (c:=0) U U
   obtain⟨b1,off1,c1_,rfl,hg1,hb1,hc1⟩:=(ha.kept H).atD (i:=0) (k:=0) rfl Y8
   have hl1_:b1<yC:=by have:=H.most;omega
   obtain⟨b22,off2,c2_,rfl,hg2,hb2,hc2⟩:=(hb.kept H).atD (i:=0) (k:=0) rfl Y8
   have hl2_:b22<yC:=by have:=H.most;omega
   simp only[List.getD_cons_zero]at hc1 hc2
   refine yT [⟨0,0,.light,[3,7,11]⟩,⟨1,1,.light,[3,7,11]⟩,⟨2,0,.light,[1,7,11]⟩,⟨3,4,.light,[1,7,11]⟩,⟨4,15,.light,[7,11]⟩,⟨5,0,.light,[1,3,11]⟩,⟨6,32,.light,[1,3,11]⟩,⟨7,96,.light,[1,3,11]⟩,⟨9,0,.light,[1,3,7]⟩,⟨10,512,.light,[1,3,7]⟩,⟨11,1536,.light,[1,3,7]⟩,⟨8,224,.fresh,[1,3,11]⟩,⟨12,3584,.fresh,[1,3,7]⟩,⟨13,8160,.light,[1,3]⟩,⟨14,16383,.whole,[]⟩,⟨15,32767,.whole,[]⟩] Z0 Z0 (zA J J (zB xD J ⟨J,(zV J J sh4 J H.own2 Y2 J (zA J J (zB xD J ⟨J,(zV J J sh4 J H.own1 Y1 J (zA J J (kR un4 J J ⟨J,(zA J J (zH J ⟨J,(zA J J (zP qn J J O O ⟨J,(zV J J sh3 J hg1 hl1_ hc1 (zA J J (zH J ⟨J,(zA J J (zP qn J J O O ⟨J,(zV J J sh3 J hg2 hl2_ hc2 ?_)⟩))⟩)))⟩))⟩))⟩)))⟩)))⟩))
   refine yK J J (wI un3 un183 J (by unfold InU;omega) (yK J J (wI un3 un183 J (by unfold InU;omega) (zA J J (op_mulU J J (by unfold InU;omega) ⟨J,(zM J J (zF J fc150 J ?_))⟩)))))
   rw[show((x.natAbs:Int)*(y.natAbs:Int))=((x.natAbs*y.natAbs:Nat):Int)by rw[Int.natCast_mul]]
   obtain⟨_,s9,hr,Dn,n9,a9,m9,c9,rfl,Hc,hz9⟩:=jt (K:=K) (z:=x*y) (neg:= !(n1==n2)) (u:=x.natAbs*y.natAbs) hI H.fine (by have:=hbd.2.1;have e:((x.natAbs*y.natAbs:Nat):Int)=(x.natAbs:Int)*(y.natAbs:Int):=Int.natCast_mul _ _;omega) (by rw[hn1,hn2,Int.natCast_mul];exact mul_sign x y) Z
   refine⟨_,_,hr,?_⟩
   clear hr
   have Hc:=HL.wider H.fine Z3 Z7 Hc
   have H:=H.callE Hc
   clear Hc
   simp only[List.cons_append,List.nil_append,List.append_assoc]at H
   refine xM (vs:=[.bool _,.slice _ _ _]) (fr:=[]) H J J qI J J J J J J Z2 O (fun s4 H=>?_)
   refine zU (en ?_)
   refine yP xO J H.own0 J ?_
   exact⟨Dn,_,_,_,_,J,H.drop0.drop0.drop0.up O,hz9⟩
  refine yD J J (zH J (yF xV J J J (zH J (yF xV J J J (yH J J Y (kW (a:=la.length+lb.length) (b:=la.length+lb.length) H kg J J Z3 O O (fun b46 s46 H=>?_)))))))
  refine yU J ?_
  rw[repL_ints]at H
  refine zH J (yF xV J J J (kB (xR (fun k F s1=>∃(G:FF) (i:Nat) (o:List Int),F=lay G [(2,.pointer (some ⟨b2,0,none⟩)),(3,.pointer (some ⟨b3,0,none⟩)),(4,.pointer (some ⟨b4,0,none⟩)),(6,.slice a2 lb.length c2),(7,.slice (some ⟨b46,0,none⟩) (la.length+lb.length) (2*(la.length+lb.length))),(47,.slice a1 la.length c1),(48,.int .i64 (la.length:Int)),(49,.int .i64 (i:Int))]∧HL [] s s1 [(b46,.cells (qm o) 3),(b4,.cells [.bool false,.slice none 0 0] 32),(b3,.cells [.bool n2,.slice a2 lb.length c2] 32),(b2,.cells [.bool n1,.slice a1 la.length c1] 32)] 4∧i≤la.length∧k=la.length-i∧o.length=la.length+lb.length∧Dig o∧dv o=dv (la.take i)*dv lb∧∀j,i+lb.length≤j→o.getD j 0=0) ?_ la.length _ _ ?_)))
  rotate_left
  ·exact⟨_,0,List.replicate (la.length+lb.length) 0,yZ ⟨J,J,J,J,J,J,J,J,trivial⟩,H,by omega,by omega,by simp,dig_zeros _,by rw[dv_zeros,List.take_zero];simp[dv],fun j _=>zeros_getD⟩
  rintro k F s1 ⟨G,i,o,rfl,H,hi,rfl,ho1,hd1,hv1,hz1⟩
  refine xB J J (fun h=>?_) (fun h=>?_)
  ·have hdi:=hda.at i
   obtain⟨b1,off1,c1_,rfl,hg1,hb1,hc1⟩:=(ha.kept H).atD (i:=(i:Int)) (k:=i) rfl O
   refine zC J (zP qn J J O O (zJ sh3 J hg1 hc1 (zL J (zL J (zG (zH J (yF xV J J J (kB (xR (fun k F s1=>∃(G:FF) (q:Nat) (o2:List Int) (c:Int),F=lay G [(2,.pointer (some ⟨b2,0,none⟩)),(3,.pointer (some ⟨b3,0,none⟩)),(4,.pointer (some ⟨b4,0,none⟩)),(6,.slice a2 lb.length c2),(7,.slice (some ⟨b46,0,none⟩) (la.length+lb.length) (2*(la.length+lb.length))),(47,.slice (some ⟨b1,off1,none⟩) la.length c1),(48,.int .i64 (la.length:Int)),(49,.int .i64 (i:Int)),(8,.int .i64 (i:Int)),(9,.int .i64 (la.getD i 0)),(10,.int .i64 c),(54,.slice a2 lb.length c2),(55,.int .i64 (lb.length:Int)),(56,.int .i64 (q:Int))]∧HL [] s s1 [(b46,.cells (qm o2) 3),(b4,.cells [.bool false,.slice none 0 0] 32),(b3,.cells [.bool n2,.slice a2 lb.length c2] 32),(b2,.cells [.bool n1,.slice (some ⟨b1,off1,none⟩) la.length c1] 32)] 4∧q≤lb.length∧k=lb.length-q∧o2.length=la.length+lb.length∧Dig o2∧0≤c∧c<1000000000∧dv o2+1000000000 ^ (i+q)*c=dv (la.take i)*dv lb+1000000000 ^ i*(la.getD i 0*dv (lb.take q))∧∀j,i+lb.length≤j→o2.getD j 0=0) ?_ lb.length _ _ ?_)))))))))
   rotate_left
   ·exact⟨_,0,o,0,yZ ⟨J,J,J,J,J,J,J,J,J,J,J,J,J,J,trivial⟩,H,by omega,by omega,ho1,hd1,by decide,by decide,by simp[dv,hv1],hz1⟩
   rintro k F s1 ⟨G,q,o2,c,rfl,H,hq,rfl,ho2,hd2,hc0,hc1',hv2,hz2⟩
   refine xB J J (fun h=>?_) (fun h=>?_)
   ·have hdi:=hda.at i
    have hdq:=hdb.at q
    have hdo:=hd2.at (i+q)
    have hbd:=mul_bound hdi hdq hdo ⟨hc0,hc1'⟩
    have hout:qG (qm o2) (0+((i:Int)+(q:Int)).toNat*1)=some (.int .i64 (o2.getD (i+q) 0)):=wK O O
    obtain⟨b22,off2,c2_,rfl,hg2,hb2,hc2⟩:=(hb.kept H).atD (i:=(q:Int)) (k:=q) rfl O
    refine zC J (zP qn J J O O (zJ sh3 J hg2 hc2 (zL J (zL J (zH J (zC J (zC J (yH J J Y (zP qn J J O O (zJ sh3 J H.own0 hout (zC J ?_)))))))))))
    refine zC J (op_mul J J (by show qp (la.getD i 0*lb.getD q 0);unfold qp;omega) (yH J J (by show qp (o2.getD (i+q) 0+la.getD i 0*lb.getD q 0);unfold qp;omega) (zC J (yH J J (by show qp (o2.getD (i+q) 0+la.getD i 0*lb.getD q 0+c);unfold qp;omega) (zL J (zC J (wY J J U (by rw[(tdm (w:=(o2.getD (i+q) 0+la.getD i 0*lb.getD q 0+c)) O).1];unfold qp;omega) (zL J (zH J (zC J (zC J ?_)))))))))))
    refine yH J J Y (zC J (zC J (op_mul J J (by rw[(tdm (w:=(o2.getD (i+q) 0+la.getD i 0*lb.getD q 0+c)) O).1];unfold qp;omega) (qC J J (by rw[(tdm (w:=(o2.getD (i+q) 0+la.getD i 0*lb.getD q 0+c)) O).1];unfold qp;omega) (zP qn J J O O (zT H sz3 J J J J (qE (o:=o2) (k:=i+q) O O) O (fun s58 H=>?_)))))))
    refine yH J J Y (zC J (en ?_))
    have htd:=tdm (w:=(o2.getD (i+q) 0+la.getD i 0*lb.getD q 0+c)) O
    have hrem:(o2.getD (i+q) 0+la.getD i 0*lb.getD q 0+c)-(o2.getD (i+q) 0+la.getD i 0*lb.getD q 0+c).tdiv 1000000000*1000000000=(o2.getD (i+q) 0+la.getD i 0*lb.getD q 0+c) % 1000000000:=by rw[htd.1];omega
    rw[hrem]at H
    refine⟨lb.length-(q+1),by omega,_,q+1,o2.set (i+q) ((o2.getD (i+q) 0+la.getD i 0*lb.getD q 0+c) % 1000000000),(o2.getD (i+q) 0+la.getD i 0*lb.getD q 0+c) / 1000000000,yZ ⟨J,J,J,J,J,J,J,J,J,J,by show Value.int .i64 ((o2.getD (i+q) 0+la.getD i 0*lb.getD q 0+c).tdiv 1000000000)=_;rw[htd.1],J,J,J,trivial⟩,H,by omega,J,by rw[List.length_set];exact ho2,hd2.set O O,by omega,by omega,?_,fun j hj=>by rw[qD O];exact hz2 j hj⟩
    rw[qg lb q]
    exact mul_step O hv2 J
   have hq2:q=lb.length:=by omega
   subst hq2
   rw[List.take_length]at hv2
   refine zH J (zC J (zH J (yF xV J J J (yH J J Y (zC J (zP qn J J O O (zT H sz3 J J J J (qE (o:=o2) (k:=i+lb.length) O O) O (fun s68 H=>?_))))))))
   refine yH J J Y (zC J (en ?_))
   refine⟨la.length-(i+1),by omega,_,i+1,o2.set (i+lb.length) c,yZ ⟨J,J,J,J,J,J,J,J,trivial⟩,H,by omega,J,by rw[List.length_set];exact ho2,hd2.set hc0 hc1',?_,fun j hj=>by rw[qD O];exact hz2 j O⟩
   rw[mul_end O (hz2 _ O) hv2,qg]
  have hi2:i=la.length:=by omega
  subst hi2
  rw[List.take_length]at hv1
  have hsl:SlIn [(b46,.cells (qm o) 3)] (.slice (some ⟨b46,0,none⟩) o.length (2*(la.length+lb.length))) o:=wD O
  have hdval:(kK o:Int)=(x.natAbs:Int)*(y.natAbs:Int):=by rw[←dv_dval hd1,hv1,hva,hvb]
  refine zB xD J (zJ sh4 J H.own3 J (zB xD J (zJ sh4 J H.own2 J (kR un4 J J (zH J (zF J fc141 J ?_))))))
  obtain⟨_,s9,hr,Dn,n9,a9,m9,c9,rfl,Hc,hz9⟩:=of_n (K:=KX K [(b46,.cells (qm o) 3)]) (neg:= !(n1==n2)) (z:=x*y) (l:=o) (a:=some ⟨b46,0,none⟩) (cap:=2*(la.length+lb.length)) hI H.fine (hsl.sl H Y8) hd1 (by rw[hdval,hn1,hn2];exact mul_sign x y) (fun m h0 hm=>.inr ((hsl.cut h0 hm).cap O)) O Y7
  rw[ho1]at hr
  refine⟨_,_,hr,?_⟩
  clear hr
  have H:=H.callE Hc
  clear Hc
  simp only[List.cons_append,List.nil_append,List.append_assoc]at H
  refine qu (vs:=[.bool _,.slice _ _ _]) H qI J J J J J O (fun s5 H=>?_)
  refine en ?_
  refine yP xO J H.own1 J (⟨(b46,.cells (qm o) 3)::Dn,_,_,_,_,J,(H.sub (.cons_cons _ (.cons _ (.cons _ (.cons _ (.refl _)))))).up O,hz9.mono (kx_in Y8 Y8)⟩)
 refine zI J (yY J (zH J (yF xV J J J (zH J (yF xV J J J (yH J J Y (kW (a:=la.length+lb.length) (b:=la.length+lb.length) H kg J J Z3 O O (fun b46 s46 H=>?_))))))))
 refine yU J ?_
 rw[repL_ints]at H
 refine zH J (yF xV J J J (kB (xR (fun k F s1=>∃(G:FF) (i:Nat) (o:List Int),F=lay G [(2,.pointer (some ⟨b2,0,none⟩)),(3,.pointer (some ⟨b3,0,none⟩)),(4,.pointer (some ⟨b4,0,none⟩)),(6,.slice a2 lb.length c2),(7,.slice (some ⟨b46,0,none⟩) (la.length+lb.length) (2*(la.length+lb.length))),(47,.slice a1 la.length c1),(48,.int .i64 (la.length:Int)),(49,.int .i64 (i:Int))]∧HL [] s s1 [(b46,.cells (qm o) 3),(b4,.cells [.bool false,.slice none 0 0] 32),(b3,.cells [.bool n2,.slice a2 lb.length c2] 32),(b2,.cells [.bool n1,.slice a1 la.length c1] 32)] 4∧i≤la.length∧k=la.length-i∧o.length=la.length+lb.length∧Dig o∧dv o=dv (la.take i)*dv lb∧∀j,i+lb.length≤j→o.getD j 0=0) ?_ la.length _ _ ?_)))
 rotate_left
 ·exact⟨_,0,List.replicate (la.length+lb.length) 0,yZ ⟨J,J,J,J,J,J,J,J,trivial⟩,H,by omega,by omega,by simp,dig_zeros _,by rw[dv_zeros,List.take_zero];simp[dv],fun j _=>zeros_getD⟩
 rintro k F s1 ⟨G,i,o,rfl,H,hi,rfl,ho1,hd1,hv1,hz1⟩
 refine xB J J (fun h=>?_) (fun h=>?_)
 ·have hdi:=hda.at i
  obtain⟨b1,off1,c1_,rfl,hg1,hb1,hc1⟩:=(ha.kept H).atD (i:=(i:Int)) (k:=i) rfl O
  refine zC J (zP qn J J O O (zJ sh3 J hg1 hc1 (zL J (zL J (zG (zH J (yF xV J J J (kB (xR (fun k F s1=>∃(G:FF) (q:Nat) (o2:List Int) (c:Int),F=lay G [(2,.pointer (some ⟨b2,0,none⟩)),(3,.pointer (some ⟨b3,0,none⟩)),(4,.pointer (some ⟨b4,0,none⟩)),(6,.slice a2 lb.length c2),(7,.slice (some ⟨b46,0,none⟩) (la.length+lb.length) (2*(la.length+lb.length))),(47,.slice (some ⟨b1,off1,none⟩) la.length c1),(48,.int .i64 (la.length:Int)),(49,.int .i64 (i:Int)),(8,.int .i64 (i:Int)),(9,.int .i64 (la.getD i 0)),(10,.int .i64 c),(54,.slice a2 lb.length c2),(55,.int .i64 (lb.length:Int)),(56,.int .i64 (q:Int))]∧HL [] s s1 [(b46,.cells (qm o2) 3),(b4,.cells [.bool false,.slice none 0 0] 32),(b3,.cells [.bool n2,.slice a2 lb.length c2] 32),(b2,.cells [.bool n1,.slice (some ⟨b1,off1,none⟩) la.length c1] 32)] 4∧q≤lb.length∧k=lb.length-q∧o2.length=la.length+lb.length∧Dig o2∧0≤c∧c<1000000000∧dv o2+1000000000 ^ (i+q)*c=dv (la.take i)*dv lb+1000000000 ^ i*(la.getD i 0*dv (lb.take q))∧∀j,i+lb.length≤j→o2.getD j 0=0) ?_ lb.length _ _ ?_)))))))))
  rotate_left
  ·exact⟨_,0,o,0,yZ ⟨J,J,J,J,J,J,J,J,J,J,J,J,J,J,trivial⟩,H,by omega,by omega,ho1,hd1,by decide,by decide,by simp[dv,hv1],hz1⟩
  rintro k F s1 ⟨G,q,o2,c,rfl,H,hq,rfl,ho2,hd2,hc0,hc1',hv2,hz2⟩
  refine xB J J (fun h=>?_) (fun h=>?_)
  ·have hdi:=hda.at i
   have hdq:=hdb.at q
   have hdo:=hd2.at (i+q)
   have hbd:=mul_bound hdi hdq hdo ⟨hc0,hc1'⟩
   have hout:qG (qm o2) (0+((i:Int)+(q:Int)).toNat*1)=some (.int .i64 (o2.getD (i+q) 0)):=wK O O
   obtain⟨b22,off2,c2_,rfl,hg2,hb2,hc2⟩:=(hb.kept H).atD (i:=(q:Int)) (k:=q) rfl O
   refine zC J (zP qn J J O O (zJ sh3 J hg2 hc2 (zL J (zL J (zH J (zC J (zC J (yH J J Y (zP qn J J O O (zJ sh3 J H.own0 hout (zC J ?_)))))))))))
   refine zC J (op_mul J J (by show qp (la.getD i 0*lb.getD q 0);unfold qp;omega) (yH J J (by show qp (o2.getD (i+q) 0+la.getD i 0*lb.getD q 0);unfold qp;omega) (zC J (yH J J (by show qp (o2.getD (i+q) 0+la.getD i 0*lb.getD q 0+c);unfold qp;omega) (zL J (zC J (wY J J U (by rw[(tdm (w:=(o2.getD (i+q) 0+la.getD i 0*lb.getD q 0+c)) O).1];unfold qp;omega) (zL J (zH J (zC J (zC J ?_)))))))))))
   refine yH J J Y (zC J (zC J (op_mul J J (by rw[(tdm (w:=(o2.getD (i+q) 0+la.getD i 0*lb.getD q 0+c)) O).1];unfold qp;omega) (qC J J (by rw[(tdm (w:=(o2.getD (i+q) 0+la.getD i 0*lb.getD q 0+c)) O).1];unfold qp;omega) (zP qn J J O O (zT H sz3 J J J J (qE (o:=o2) (k:=i+q) O O) O (fun s58 H=>?_)))))))
   refine yH J J Y (zC J (en ?_))
   have htd:=tdm (w:=(o2.getD (i+q) 0+la.getD i 0*lb.getD q 0+c)) O
   have hrem:(o2.getD (i+q) 0+la.getD i 0*lb.getD q 0+c)-(o2.getD (i+q) 0+la.getD i 0*lb.getD q 0+c).tdiv 1000000000*1000000000=(o2.getD (i+q) 0+la.getD i 0*lb.getD q 0+c) % 1000000000:=by rw[htd.1];omega
   rw[hrem]at H
   refine⟨lb.length-(q+1),by omega,_,q+1,o2.set (i+q) ((o2.getD (i+q) 0+la.getD i 0*lb.getD q 0+c) % 1000000000),(o2.getD (i+q) 0+la.getD i 0*lb.getD q 0+c) / 1000000000,yZ ⟨J,J,J,J,J,J,J,J,J,J,by show Value.int .i64 ((o2.getD (i+q) 0+la.getD i 0*lb.getD q 0+c).tdiv 1000000000)=_;rw[htd.1],J,J,J,trivial⟩,H,by omega,J,by rw[List.length_set];exact ho2,hd2.set O O,by omega,by omega,?_,fun j hj=>by rw[qD O];exact hz2 j hj⟩
   rw[qg lb q]
   exact mul_step O hv2 J
  have hq2:q=lb.length:=by omega
  subst hq2
  rw[List.take_length]at hv2
  refine zH J (zC J (zH J (yF xV J J J (yH J J Y (zC J (zP qn J J O O (zT H sz3 J J J J (qE (o:=o2) (k:=i+lb.length) O O) O (fun s68 H=>?_))))))))
  refine yH J J Y (zC J (en ?_))
  refine⟨la.length-(i+1),by omega,_,i+1,o2.set (i+lb.length) c,yZ ⟨J,J,J,J,J,J,J,J,trivial⟩,H,by omega,J,by rw[List.length_set];exact ho2,hd2.set hc0 hc1',?_,fun j hj=>by rw[qD O];exact hz2 j O⟩
  rw[mul_end O (hz2 _ O) hv2,qg]
 have hi2:i=la.length:=by omega
 subst hi2
 rw[List.take_length]at hv1
 have hsl:SlIn [(b46,.cells (qm o) 3)] (.slice (some ⟨b46,0,none⟩) o.length (2*(la.length+lb.length))) o:=wD O
 have hdval:(kK o:Int)=(x.natAbs:Int)*(y.natAbs:Int):=by rw[←dv_dval hd1,hv1,hva,hvb]
 refine zB xD J (zJ sh4 J H.own3 J (zB xD J (zJ sh4 J H.own2 J (kR un4 J J (zH J (zF J fc141 J ?_))))))
 obtain⟨_,s9,hr,Dn,n9,a9,m9,c9,rfl,Hc,hz9⟩:=of_n (K:=KX K [(b46,.cells (qm o) 3)]) (neg:= !(n1==n2)) (z:=x*y) (l:=o) (a:=some ⟨b46,0,none⟩) (cap:=2*(la.length+lb.length)) hI H.fine (hsl.sl H Y8) hd1 (by rw[hdval,hn1,hn2];exact mul_sign x y) (fun m h0 hm=>.inr ((hsl.cut h0 hm).cap O)) O Y7
 rw[ho1]at hr
 refine⟨_,_,hr,?_⟩
 clear hr
 have H:=H.callE Hc
 clear Hc
 simp only[List.cons_append,List.nil_append,List.append_assoc]at H
 refine qu (vs:=[.bool _,.slice _ _ _]) H qI J J J J J O (fun s6 H=>?_)
 refine en ?_
 refine yP xO J H.own1 J (⟨(b46,.cells (qm o) 3)::Dn,_,_,_,_,J,(H.sub (.cons_cons _ (.cons _ (.cons _ (.cons _ (.refl _)))))).up O,hz9.mono (kx_in Y8 Y8)⟩)
end Go.Proofs.YtocnbjjmmgolfaaGreat
namespace Go.Proofs.YtocnbjjmmgolfaaGreat
open Go Go.M Go.Proofs.C14
theorem fb216:xK Tryz.f216 (Tryz.f216.body.getD .skip) 1=true:=by kernel_rfl
theorem fb217:xK Tryz.f217 (Tryz.f217.body.getD .skip) 2=true:=by kernel_rfl
theorem fc216:xJ Tryz.prog 216=true:=by kernel_rfl
theorem fb148:xK Tryz.f148 (Tryz.f148.body.getD .skip) 2=true:=by kernel_rfl
theorem fc217:xJ Tryz.prog 217=true:=by kernel_rfl
theorem fb146:xK Tryz.f146 (Tryz.f146.body.getD .skip) 2=true:=by kernel_rfl
variable{s:St}{I:xP}{K:Kw}{a1 a2:Option Addr}{c1 c2 m1 m2:Nat}{x y:Int}{n1 n2:Bool}
theorem Sl.allD{a:Option Addr}{len cap:Nat}{l:List Int}(h:SlD s (.slice a len cap) l)(hl:0<l.length):∃b off c,a=some ⟨b,off,none⟩∧s.get b=some (.cells c tI)∧b<s.next∧∀k:Nat,k<l.length→qG c (off+((k:Int)).toNat*1)=some (.int .i64 (l.getD k 0)):=by
 obtain⟨b,off,c,rfl,hg,hb,_⟩:=h.atD (i:=0) (k:=0) rfl hl
 refine⟨b,off,c,J,hg,hb,fun k hk=>?_⟩
 obtain⟨b',off',c',e,hg',_,hc'⟩:=h.atD (i:=(k:Int)) (k:=k) rfl hk
 cases e
 rw[hg]at hg'
 cases hg'
 exact hc'
set_option maxHeartbeats 4000000 in
set_option maxRecDepth 10000 in
theorem two_ok(hI:xA I){v:Value}{n:Nat}(hl:SlD s v (dg n))(hn:n<1000000000000000000)(hs:s.next≤yC):∃v' s',xN Tryz.prog I 216 #[v] s v' s'∧(v'=.tuple ⟨[.int .i64 (n:Int),.bool true]⟩∧s'=s):=by
 have h0:=(kq n).at 0
 have h1:=(kq n).at 1
 have hlen:=jl hn
 have hl0:= @dg_len0 n
 have hv:(dg n).getD 1 0*1000000000+(dg n).getD 0 0=(n:Int):=by
  have h2:=qg (dg n) 0
  have h3:=qg (dg n) 1
  rw[jz (jl hn),dv_dg]at h3
  simp only[List.take_zero,dv,Int.pow_zero,Int.pow_one,Nat.zero_add]at h2 h3
  omega
 obtain⟨a,len,cap,rfl,hn2⟩:=hl.isSlice
 rw[List.length_map]at hn2
 subst hn2
 refine zX 1 (hI 216 U U) Tryz.func216 J fb216 J ?_
 refine zG (zG (zH J (yF xV J J J (qh J J (fun h=>?_) (fun h=>?_)))))
 ·refine zK J (zG (zG (en ?_)))
  refine end_tt J J (⟨?_,J⟩)
  have hn0:n=0:=hl0.mp O
  rw[hn0]
  rfl
 refine zK J (qh J J (fun h=>?_) (fun h=>?_))
 ·refine zK J ?_
  have hz1:(dg n).getD 1 0=0:=vZ O
  obtain⟨b0_,off0,c0_,rfl,hg0,hb0,hc0⟩:=hl.atD (i:=0) (k:=0) rfl O
  refine zH J (zP qn J J O O (zJ sh3 J hg0 hc0 (zL J (zG (en ?_)))))
  refine end_tt J J (⟨?_,J⟩)
  have e:(dg n).getD 0 0=(n:Int):=by omega
  show Value.tuple ⟨[.int .i64 ((dg n).getD 0 0),.bool true]⟩=_
  rw[e]
 refine zK J (qh J J (fun h=>?_) (fun h=>?_))
 ·refine zK J ?_
  obtain⟨b0_,off0,c0_,rfl,hg0,hb0,hall⟩:=hl.allD O
  have hl0_:b0_<yC:=by omega
  have hc0:=hall 0 O
  have hc1:=hall 1 O
  refine yT [⟨0,0,.light,[6]⟩,⟨1,1,.light,[6]⟩,⟨2,3,.light,[6]⟩,⟨3,7,.light,[6]⟩,⟨4,0,.light,[2]⟩,⟨5,16,.light,[2]⟩,⟨6,48,.light,[2]⟩,⟨7,127,.light,[]⟩,⟨8,255,.light,[]⟩,⟨9,511,.light,[]⟩] Z0 Z0 (zA J J (zH J ⟨J,(zA J J (zP qn J J O O ⟨J,(zV J J sh3 J hg0 hl0_ hc1 (zA J J (op_mul J J (by show qp ((dg n).getD 1 0*1000000000);unfold qp;omega) ⟨J,(zA J J (zH J ⟨J,(zA J J (zP qn J J O O ⟨J,(zV J J sh3 J hg0 hl0_ hc0 (zA J J (yH J J (by show qp ((dg n).getD 1 0*1000000000+(dg n).getD 0 0);unfold qp;omega) ⟨J,(zA J J (zL J ⟨J,(zA J J (zG ⟨J,(zU ?_)⟩))⟩))⟩)))⟩))⟩))⟩)))⟩))⟩))
  refine en ?_
  refine end_tt J J (⟨?_,J⟩)
  show Value.tuple ⟨[.int .i64 ((dg n).getD 1 0*1000000000+(dg n).getD 0 0),.bool true]⟩=_
  rw[hv]
 refine zK J ?_
 exfalso
 omega
set_option maxHeartbeats 4000000 in
set_option maxRecDepth 10000 in
theorem divide_ok(hI:xA I)(hf:Fine s)(hK:Kn s K){x y:Nat}(hm1:m1=(dg x).length)(hm2:m2=(dg y).length)(hx:K (.slice a1 m1 c1) (dg x))(hy:K (.slice a2 m2 c2) (dg y))(hx18:x<1000000000000000000)(hy18:y<1000000000000000000)(hy0:y≠0)(hroom:s.next+40≤yC) :
  ∃v' s',xN Tryz.prog I 217 #[.slice a1 m1 c1,.slice a2 m2 c2] s v' s'∧PostNN K s 40 ((x / y:Nat):Int) ((x % y:Nat):Int) v' s':=by
 have H:=hf.hl
 subst hm1
 subst hm2
 have ha:=hK _ _ hx
 have hb:=hK _ _ hy
 have hq:=Nat.div_le_self x y
 have hr9:=Nat.mod_le x y
 generalize hQ:x / y=Q at *
 generalize hR:x % y=R at *
 refine zX 2 (hI 217 U U) Tryz.func217 J fb217 J ?_
 refine zS H qU O (fun b4 s1 H=>?_)
 refine zS H qU O (fun b5 s2 H=>?_)
 refine zH J (zF J fc216 J (callS (two_ok hI ((ha).kept H) hx18 Y7) (qo J (yI J J (yI J J (zL J (zK J (zI J (zH J (zF J fc216 J (callS (two_ok hI ((hb).kept H) hy18 Y7) (qo J (yI J J ?_)))))))))))))
 refine yI J J (zL J (zK J (zI J (yT [⟨0,0,.light,[]⟩,⟨1,0,.light,[]⟩,⟨2,3,.light,[]⟩,⟨5,0,.light,[]⟩,⟨6,0,.light,[]⟩,⟨7,96,.light,[]⟩,⟨3,7,.fresh,[]⟩,⟨4,15,.fresh,[]⟩,⟨8,224,.fresh,[]⟩,⟨9,511,.whole,[]⟩,⟨10,1023,.whole,[]⟩,⟨11,2047,.whole,[]⟩] Z0 Z0 (zA J J (zC J ⟨J,(zA J J (zC J ⟨J,(zA J J (wY J J O (by rw[tdv,hQ];unfold qp;omega) ⟨J,(zA J J (zC J ⟨J,(zA J J (zC J ⟨J,(zA J J (kE J J O ⟨J,(yK J J (wI un3 un183 J (by rw[tdv,hQ];unfold InU;omega) ?_))⟩))⟩))⟩))⟩))⟩))⟩))))))
 rw[tdv,hQ]
 refine yK J J (zF J fc150 J (qy (jt hI Y9 (K:=KX K []) (neg:=false) (z:=((Q:Nat):Int)) O Y8 Z) (fun s9 D9 n3 a3 m3 c3 Hc h103=>?_)))
 have Hc:=HL.wider H.fine H.fine.wfb Z7 Hc
 obtain⟨Φ,ku,kd,H⟩:=k8 (K:=K) H Hc
 replace h103:=h103.mono kd
 clear Hc ku kd
 refine yK J J (wI un3 un183 J (by rw[tmv,hR];unfold InU;omega) ?_)
 rw[tmv,hR]
 refine zM J J (zF J fc150 J (qy (jt hI H.fine (K:=KX K Φ) (neg:=false) (z:=((R:Nat):Int)) O Y8 Z) (fun s9 D9 n4 a4 m4 c4 Hc h104=>?_)))
 have Hc:=HL.wider H.fine Z3 Z7 Hc
 obtain⟨Φ,ku,kd,H⟩:=k8 (K:=K) H Hc
 try replace h103:=h103.mono ku
 replace h104:=h104.mono kd
 clear Hc ku kd
 refine kT (vs:=[.bool _,.slice _ _ _]) (fr:=[]) H J J qI J J J J J J Z2 O (fun s3 H=>?_)
 refine xM (vs:=[.bool _,.slice _ _ _]) (fr:=[]) H J J qI J J J J J J Z2 O (fun s4 H=>?_)
 refine zU (en ?_)
 refine end_cc xO J H.own1 J xO J H.own0 J ?_
 exact⟨Φ,_,_,_,_,_,_,_,_,J,(frz2 H).up O,h103,h104⟩
set_option maxHeartbeats 4000000 in
set_option maxRecDepth 10000 in
theorem divP_ok(hI:xA I)(hf:Fine s)(hK:Kn s K)(hx:NumK K n1 a1 m1 c1 x)(hy:NumK K n2 a2 m2 c2 y)(hx18:x.natAbs<1000000000000000000)(hy18:y.natAbs<1000000000000000000)(hy0:y≠0)(hd:y∣x)(hroom:s.next+100≤yC) :
  ∃v' s',xN Tryz.prog I 148 #[.agg ⟨[.bool n1,.slice a1 m1 c1]⟩,.agg ⟨[.bool n2,.slice a2 m2 c2]⟩] s v' s'∧PostNN K s 100 (x / y) 0 v' s':=by
 have H:=hf.hl
 have hne:m2≠0:=fun h=>hy0 (hy.zero.mp h)
 have hsgn:=quo_sign hd
 have hmod:=mod_dvd hd
 obtain⟨Qn,hQn⟩:∃Qn,x.natAbs / y.natAbs=Qn:=⟨_,rfl⟩
 rw[hQn]at hsgn
 obtain⟨hn1,hm1,hk1⟩:=hx
 obtain⟨hn2,hm2,hk2⟩:=hy
 rw[←hn1,←hn2]at hsgn
 cases n1
 ·cases n2
  ·refine zX 2 (hI 148 U U) Tryz.func148 J fb148 J ?_
   refine zY H J O (fun b2 s1 H=>?_)
   refine zY H J O (fun b3 s2 H=>?_)
   refine zS H qU O (fun b4 s3 H=>?_)
   refine zS H qU O (fun b5 s4 H=>?_)
   refine zB yM J (zJ xQ J H.own2 J (yF xV J J J (qh J J Y6 (fun h=>?_))))
   refine zB yM J (zJ xQ J H.own3 J (zB yM J (zJ xQ J H.own2 J (zF J fc217 J ?_))))
   obtain⟨_,s9,hr,D1,nq,aq,mq,cq,nr,ar,mr,cr,rfl,Hc,h101a,h101b⟩:=divide_ok (K:=KX K []) hI H.fine (kn4 hK H) hm1 hm2 (.inl hk1) (.inl hk2) hx18 hy18 O Y7
   refine⟨_,_,hr,?_⟩
   clear hr
   obtain⟨Φ,ku,kd,H⟩:=kj (K:=K) H Hc
   replace h101a:=h101a.mono kd
   replace h101b:=h101b.mono kd
   clear ku kd Hc
   rw[hmod]at h101b
   rw[hQn]at h101a
   have hq0:=h101a.zero
   obtain⟨hq1,hq2,hq3⟩:=h101a
   rw[Int.natAbs_natCast]at hq2 hq3
   have hq1:nq=false:=by rw[hq1];exact decide_eq_false O
   subst hq1
   refine qo J (yI J J (yI J J (zS H qU O (fun b6 s5 H=>?_))))
   refine zS H qU O (fun b7 s6 H=>?_)
   refine qu (vs:=[.bool _,.slice _ _ _]) H qI J J J J J O (fun s7 H=>?_)
   refine zT (vs:=[.bool _,.slice _ _ _]) H qI J J J J J O (fun s8 H=>?_)
   refine zB xD J (zJ sh4 J H.own5 J (zI J (yY J (zB xD J (zJ sh4 J H.own5 J (zB xD J (zJ sh4 J H.own4 J (kR un4 J J (zI J (yY J (zB xD J ?_)))))))))))
   refine qu (vs:=[.bool _]) H sz4 J J J J J O (fun s9 H=>?_)
   refine yT [⟨0,0,.light,[1]⟩,⟨1,0,.light,[0]⟩,⟨2,1,.whole,[1]⟩,⟨3,7,.whole,[]⟩] Z0 Z0 (zQ J J xO J H.own1 Y1 J (zQ J J xO J H.own0 Y0 J (vU (vs:=[.bool _,.slice _ _ _]) (fr:=[_]) H J J qI J J J J J J Z2 O (fun s10 H=>?_))))
   refine ke (vs:=[.bool _,.slice _ _ _]) (fr:=[]) H J J qI J J J J J J Z2 O (fun s11 H=>?_)
   refine zU (en ?_)
   refine end_cc xO J H.own3 J xO J H.own2 J ?_
   replace hsgn:x / y=(Qn:Int):=by simpa using hsgn
   have hab:(x / y).natAbs=Qn:=by rw[hsgn];omega
   refine⟨Φ,_,_,_,_,_,_,_,_,J,(frz6 H).up O,⟨?_,by rw[hab];exact hq2,by rw[hab];exact hq3⟩,h101b⟩
   rw[hsgn]
   exact(decide_eq_false O).symm
  ·refine zX 2 (hI 148 U U) Tryz.func148 J fb148 J ?_
   refine zY H J O (fun b2 s1 H=>?_)
   refine zY H J O (fun b3 s2 H=>?_)
   refine zS H qU O (fun b4 s3 H=>?_)
   refine zS H qU O (fun b5 s4 H=>?_)
   refine zB yM J (zJ xQ J H.own2 J (yF xV J J J (qh J J Y6 (fun h=>?_))))
   refine zB yM J (zJ xQ J H.own3 J (zB yM J (zJ xQ J H.own2 J (zF J fc217 J ?_))))
   obtain⟨_,s9,hr,D1,nq,aq,mq,cq,nr,ar,mr,cr,rfl,Hc,h101a,h101b⟩:=divide_ok (K:=KX K []) hI H.fine (kn4 hK H) hm1 hm2 (.inl hk1) (.inl hk2) hx18 hy18 O Y7
   refine⟨_,_,hr,?_⟩
   clear hr
   obtain⟨Φ,ku,kd,H⟩:=kj (K:=K) H Hc
   replace h101a:=h101a.mono kd
   replace h101b:=h101b.mono kd
   clear ku kd Hc
   rw[hmod]at h101b
   rw[hQn]at h101a
   have hq0:=h101a.zero
   obtain⟨hq1,hq2,hq3⟩:=h101a
   rw[Int.natAbs_natCast]at hq2 hq3
   have hq1:nq=false:=by rw[hq1];exact decide_eq_false O
   subst hq1
   refine qo J (yI J J (yI J J (zS H qU O (fun b6 s5 H=>?_))))
   refine zS H qU O (fun b7 s6 H=>?_)
   refine qu (vs:=[.bool _,.slice _ _ _]) H qI J J J J J O (fun s7 H=>?_)
   refine zT (vs:=[.bool _,.slice _ _ _]) H qI J J J J J O (fun s8 H=>?_)
   refine zB xD J (zJ sh4 J H.own5 J (zI J (yY J (zB xD J (zJ sh4 J H.own5 J (zB xD J (zJ sh4 J H.own4 J (kR un4 J J (zI J (zB yM J (zJ xQ J H.own1 J ?_)))))))))))
   refine yF xV J J J (qv J J (fun h=>?_) (fun h=>?_))
   ·refine yD J J (zB xD J (qu (vs:=[.bool _]) H sz4 J J J J J O (fun s9 H=>?_)))
    refine yT [⟨0,0,.light,[1]⟩,⟨1,0,.light,[0]⟩,⟨2,1,.whole,[1]⟩,⟨3,7,.whole,[]⟩] Z0 Z0 (zQ J J xO J H.own1 Y1 J (zQ J J xO J H.own0 Y0 J (vU (vs:=[.bool _,.slice _ _ _]) (fr:=[_]) H J J qI J J J J J J Z2 O (fun s10 H=>?_))))
    refine ke (vs:=[.bool _,.slice _ _ _]) (fr:=[]) H J J qI J J J J J J Z2 O (fun s11 H=>?_)
    refine zU (en ?_)
    refine end_cc xO J H.own3 J xO J H.own2 J ?_
    replace hsgn:x / y = -(Qn:Int):=by simpa using hsgn
    have hab:(x / y).natAbs=Qn:=by rw[hsgn];omega
    refine⟨Φ,_,_,_,_,_,_,_,_,J,(frz6 H).up O,⟨?_,by rw[hab];exact hq2,by rw[hab];exact hq3⟩,h101b⟩
    rw[hsgn]
    exact(decide_eq_true O).symm
   refine yD J J (zB xD J (qu (vs:=[.bool _]) H sz4 J J J J J O (fun s12 H=>?_)))
   refine yT [⟨0,0,.light,[1]⟩,⟨1,0,.light,[0]⟩,⟨2,1,.whole,[1]⟩,⟨3,7,.whole,[]⟩] Z0 Z0 (zQ J J xO J H.own1 Y1 J (zQ J J xO J H.own0 Y0 J (vU (vs:=[.bool _,.slice _ _ _]) (fr:=[_]) H J J qI J J J J J J Z2 O (fun s13 H=>?_))))
   refine ke (vs:=[.bool _,.slice _ _ _]) (fr:=[]) H J J qI J J J J J J Z2 O (fun s14 H=>?_)
   refine zU (en ?_)
   refine end_cc xO J H.own3 J xO J H.own2 J ?_
   replace hsgn:x / y = -(Qn:Int):=by simpa using hsgn
   have hab:(x / y).natAbs=Qn:=by rw[hsgn];omega
   refine⟨Φ,_,_,_,_,_,_,_,_,J,(frz6 H).up O,⟨?_,by rw[hab];exact hq2,by rw[hab];exact hq3⟩,h101b⟩
   rw[hsgn]
   exact(decide_eq_false O).symm
 ·cases n2
  ·refine zX 2 (hI 148 U U) Tryz.func148 J fb148 J ?_
   refine zY H J O (fun b2 s1 H=>?_)
   refine zY H J O (fun b3 s2 H=>?_)
   refine zS H qU O (fun b4 s3 H=>?_)
   refine zS H qU O (fun b5 s4 H=>?_)
   refine zB yM J (zJ xQ J H.own2 J (yF xV J J J (qh J J Y6 (fun h=>?_))))
   refine zB yM J (zJ xQ J H.own3 J (zB yM J (zJ xQ J H.own2 J (zF J fc217 J ?_))))
   obtain⟨_,s9,hr,D1,nq,aq,mq,cq,nr,ar,mr,cr,rfl,Hc,h101a,h101b⟩:=divide_ok (K:=KX K []) hI H.fine (kn4 hK H) hm1 hm2 (.inl hk1) (.inl hk2) hx18 hy18 O Y7
   refine⟨_,_,hr,?_⟩
   clear hr
   obtain⟨Φ,ku,kd,H⟩:=kj (K:=K) H Hc
   replace h101a:=h101a.mono kd
   replace h101b:=h101b.mono kd
   clear ku kd Hc
   rw[hmod]at h101b
   rw[hQn]at h101a
   have hq0:=h101a.zero
   obtain⟨hq1,hq2,hq3⟩:=h101a
   rw[Int.natAbs_natCast]at hq2 hq3
   have hq1:nq=false:=by rw[hq1];exact decide_eq_false O
   subst hq1
   refine qo J (yI J J (yI J J (zS H qU O (fun b6 s5 H=>?_))))
   refine zS H qU O (fun b7 s6 H=>?_)
   refine qu (vs:=[.bool _,.slice _ _ _]) H qI J J J J J O (fun s7 H=>?_)
   refine zT (vs:=[.bool _,.slice _ _ _]) H qI J J J J J O (fun s8 H=>?_)
   refine zB xD J (zJ sh4 J H.own5 J (zI J (zB yM J (zJ xQ J H.own0 J (yF xV J J J (qv J J (fun h=>False.elim (by have:=h101b.zero;omega)) (fun h=>?_)))))))
   refine yD J J (zB xD J (zJ sh4 J H.own5 J (zB xD J (zJ sh4 J H.own4 J (kR un4 J J (zI J (zB yM J (zJ xQ J H.own1 J (yF xV J J J (qv J J (fun h=>?_) (fun h=>?_)))))))))))
   ·refine yD J J (zB xD J (qu (vs:=[.bool _]) H sz4 J J J J J O (fun s9 H=>?_)))
    refine yT [⟨0,0,.light,[1]⟩,⟨1,0,.light,[0]⟩,⟨2,1,.whole,[1]⟩,⟨3,7,.whole,[]⟩] Z0 Z0 (zQ J J xO J H.own1 Y1 J (zQ J J xO J H.own0 Y0 J (vU (vs:=[.bool _,.slice _ _ _]) (fr:=[_]) H J J qI J J J J J J Z2 O (fun s10 H=>?_))))
    refine ke (vs:=[.bool _,.slice _ _ _]) (fr:=[]) H J J qI J J J J J J Z2 O (fun s11 H=>?_)
    refine zU (en ?_)
    refine end_cc xO J H.own3 J xO J H.own2 J ?_
    replace hsgn:x / y = -(Qn:Int):=by simpa using hsgn
    have hab:(x / y).natAbs=Qn:=by rw[hsgn];omega
    refine⟨Φ,_,_,_,_,_,_,_,_,J,(frz6 H).up O,⟨?_,by rw[hab];exact hq2,by rw[hab];exact hq3⟩,h101b⟩
    rw[hsgn]
    exact(decide_eq_true O).symm
   refine yD J J (zB xD J (qu (vs:=[.bool _]) H sz4 J J J J J O (fun s12 H=>?_)))
   refine yT [⟨0,0,.light,[1]⟩,⟨1,0,.light,[0]⟩,⟨2,1,.whole,[1]⟩,⟨3,7,.whole,[]⟩] Z0 Z0 (zQ J J xO J H.own1 Y1 J (zQ J J xO J H.own0 Y0 J (vU (vs:=[.bool _,.slice _ _ _]) (fr:=[_]) H J J qI J J J J J J Z2 O (fun s13 H=>?_))))
   refine ke (vs:=[.bool _,.slice _ _ _]) (fr:=[]) H J J qI J J J J J J Z2 O (fun s14 H=>?_)
   refine zU (en ?_)
   refine end_cc xO J H.own3 J xO J H.own2 J ?_
   replace hsgn:x / y = -(Qn:Int):=by simpa using hsgn
   have hab:(x / y).natAbs=Qn:=by rw[hsgn];omega
   refine⟨Φ,_,_,_,_,_,_,_,_,J,(frz6 H).up O,⟨?_,by rw[hab];exact hq2,by rw[hab];exact hq3⟩,h101b⟩
   rw[hsgn]
   exact(decide_eq_false O).symm
  ·refine zX 2 (hI 148 U U) Tryz.func148 J fb148 J ?_
   refine zY H J O (fun b2 s1 H=>?_)
   refine zY H J O (fun b3 s2 H=>?_)
   refine zS H qU O (fun b4 s3 H=>?_)
   refine zS H qU O (fun b5 s4 H=>?_)
   refine zB yM J (zJ xQ J H.own2 J (yF xV J J J (qh J J Y6 (fun h=>?_))))
   refine zB yM J (zJ xQ J H.own3 J (zB yM J (zJ xQ J H.own2 J (zF J fc217 J ?_))))
   obtain⟨_,s9,hr,D1,nq,aq,mq,cq,nr,ar,mr,cr,rfl,Hc,h101a,h101b⟩:=divide_ok (K:=KX K []) hI H.fine (kn4 hK H) hm1 hm2 (.inl hk1) (.inl hk2) hx18 hy18 O Y7
   refine⟨_,_,hr,?_⟩
   clear hr
   obtain⟨Φ,ku,kd,H⟩:=kj (K:=K) H Hc
   replace h101a:=h101a.mono kd
   replace h101b:=h101b.mono kd
   clear ku kd Hc
   rw[hmod]at h101b
   rw[hQn]at h101a
   have hq0:=h101a.zero
   obtain⟨hq1,hq2,hq3⟩:=h101a
   rw[Int.natAbs_natCast]at hq2 hq3
   have hq1:nq=false:=by rw[hq1];exact decide_eq_false O
   subst hq1
   refine qo J (yI J J (yI J J (zS H qU O (fun b6 s5 H=>?_))))
   refine zS H qU O (fun b7 s6 H=>?_)
   refine qu (vs:=[.bool _,.slice _ _ _]) H qI J J J J J O (fun s7 H=>?_)
   refine zT (vs:=[.bool _,.slice _ _ _]) H qI J J J J J O (fun s8 H=>?_)
   refine zB xD J (zJ sh4 J H.own5 J (zI J (zB yM J (zJ xQ J H.own0 J (yF xV J J J (qv J J (fun h=>False.elim (by have:=h101b.zero;omega)) (fun h=>?_)))))))
   refine yD J J (zB xD J (zJ sh4 J H.own5 J (zB xD J (zJ sh4 J H.own4 J (kR un4 J J (zI J (yY J (zB xD J (qu (vs:=[.bool _]) H sz4 J J J J J O (fun s9 H=>?_))))))))))
   refine yT [⟨0,0,.light,[1]⟩,⟨1,0,.light,[0]⟩,⟨2,1,.whole,[1]⟩,⟨3,7,.whole,[]⟩] Z0 Z0 (zQ J J xO J H.own1 Y1 J (zQ J J xO J H.own0 Y0 J (vU (vs:=[.bool _,.slice _ _ _]) (fr:=[_]) H J J qI J J J J J J Z2 O (fun s10 H=>?_))))
   refine ke (vs:=[.bool _,.slice _ _ _]) (fr:=[]) H J J qI J J J J J J Z2 O (fun s11 H=>?_)
   refine zU (en ?_)
   refine end_cc xO J H.own3 J xO J H.own2 J ?_
   replace hsgn:x / y=(Qn:Int):=by simpa using hsgn
   have hab:(x / y).natAbs=Qn:=by rw[hsgn];omega
   refine⟨Φ,_,_,_,_,_,_,_,_,J,(frz6 H).up O,⟨?_,by rw[hab];exact hq2,by rw[hab];exact hq3⟩,h101b⟩
   rw[hsgn]
   exact(decide_eq_false O).symm
set_option maxHeartbeats 4000000 in
set_option maxRecDepth 10000 in
theorem gcdP_ok(hI:xA I)(hf:Fine s)(hK:Kn s K)(hx:NumK K n1 a1 m1 c1 x)(hy:NumK K n2 a2 m2 c2 y)(hx18:x.natAbs<1000000000000000000)(hy18:y.natAbs<1000000000000000000)(hroom:s.next+100≤yC) :
  ∃v' s',xN Tryz.prog I 146 #[.agg ⟨[.bool n1,.slice a1 m1 c1]⟩,.agg ⟨[.bool n2,.slice a2 m2 c2]⟩] s v' s'∧wR K s 100 ((Nat.gcd x.natAbs y.natAbs:Nat):Int) v' s':=by
 have H:=hf.hl
 have hl1:=jl hx18
 have hl2:=jl hy18
 have hx:=hx.mono (zZ (D:=[]))
 have hy:=hy.mono (zZ (D:=[]))
 refine zX 2 (hI 146 U U) Tryz.func146 J fb146 J ?_
 refine zY H J O (fun b2 s1 H=>?_)
 refine zY H J O (fun b3 s2 H=>?_)
 refine zS H qU O (fun b4 s3 H=>?_)
 refine yT [⟨0,0,.light,[4]⟩,⟨1,1,.light,[4]⟩,⟨3,0,.light,[1]⟩,⟨4,8,.light,[1]⟩,⟨2,3,.fresh,[4]⟩,⟨5,31,.fresh,[]⟩,⟨6,0,.fresh,[1,4]⟩,⟨7,0,.fresh,[1,4]⟩,⟨8,255,.whole,[]⟩,⟨9,511,.whole,[]⟩] Z0 Z0 (zA J J (zB yM J ⟨J,(zV J J xQ J H.own2 Y2 J (zA J J (zB yM J ⟨J,(zV J J xQ J H.own1 Y1 J (yK J J (zF J fc141 J (qy (absP_ok hI Y9 X3 hx O Z) (fun s9 D9 n1 a1 m1 c1 Hc h101=>?_)))))⟩)))⟩))
 have Hc:=HL.wider H.fine H.fine.wfb Z7 Hc
 obtain⟨Φ,ku,kd,H⟩:=qk (K:=K) H Hc
 try replace hy:=hy.mono ku
 replace h101:=h101.mono kd
 clear Hc ku kd
 refine yK J J (zF J fc141 J (qy (absP_ok hI Y9 X3 hy O Z) (fun s9 D9 n2 a2 m2 c2 Hc h102=>?_)))
 have Hc:=HL.wider H.fine H.fine.wfb Z7 Hc
 obtain⟨Φ,ku,kd,H⟩:=qk (K:=K) H Hc
 try replace h101:=h101.mono ku
 replace h102:=h102.mono kd
 clear Hc ku kd
 refine yK J J (zS (Fine.fresh H.fine).hl qU (H.rm (k:=1) O) (fun b5 s4 Hc=>?_))
 have H:=H.call X6
 clear Hc
 refine yK J J (zS (Fine.fresh H.fine).hl qU (H.rm (k:=1) O) (fun b6 s5 Hc=>?_))
 have H:=H.call X6
 clear Hc
 refine kT (vs:=[.bool _,.slice _ _ _]) (fr:=[]) H J J qI J J J J J J Z2 O (fun s6 H=>?_)
 refine xM (vs:=[.bool _,.slice _ _ _]) (fr:=[]) H J J qI J J J J J J Z2 O (fun s7 H=>?_)
 refine zU (kf (zB yM J (zJ xQ J H.own0 J (yF xV J J J (qv J J (fun h=>?_) (fun h=>?_))))))
 ·have hg1:=(kn5 hK H) _ _ h101.2.2
  have hg2:=(kn5 hK H) _ _ h102.2.2
  rw[Int.natAbs_natCast]at hg1 hg2
  refine zB yM J (zJ xQ J H.own1 J (zF J fc216 J (callS (two_ok hI hg1 O Y7) (qo J (yI J J (yI J J (zL J (zK J (zB yM J (zJ xQ J H.own0 J (zF J fc216 J (callS (two_ok hI hg2 O Y7) (qo J ?_)))))))))))))
  refine yI J J (yI J J (zL J (zK J (zI J (zI J (zI J (yD J J (xR (fun k F s1=>∃(G:FF) (m n:Nat),F=lay G [(4,.pointer (some ⟨b4,0,none⟩)),(7,.int .i64 (m:Int)),(9,.int .i64 (n:Int))]∧HL [] s s1 ((b4,.cells [.bool false,.slice none 0 0] 32)::Φ) 20∧k=n∧Nat.gcd m n=Nat.gcd x.natAbs y.natAbs∧m<1000000000000000000∧n<1000000000000000000) ?_ y.natAbs _ _ ?_))))))))
  rotate_left
  ·exact⟨_,x.natAbs,y.natAbs,yZ ⟨J,J,J,trivial⟩,H.drop0.drop0.drop1.drop1.up O,J,J,hx18,hy18⟩
  rintro k F s1 ⟨G,m,n,rfl,H,rfl,hgcd,hm18,hn18⟩
  refine zC J (qv J J (fun h=>?_) (fun h=>?_))
  ·refine wT [⟨0,0,.light,[]⟩,⟨1,0,.light,[]⟩,⟨2,0,.light,[]⟩,⟨3,6,.light,[]⟩,⟨4,3,.light,[]⟩,⟨5,31,.light,[]⟩] Z0 Z0 (zA J J (zC J ⟨J,(zA J J (zC J ⟨J,(zA J J (zC J ⟨J,(zA J J (kE J J O ⟨J,(zA J J (zL J ⟨J,(zA J J (zL J ⟨J,(zU (en ?_))⟩))⟩))⟩))⟩))⟩))⟩))
   refine⟨m % k,Nat.mod_lt _ O,_,k,m % k,yZ ⟨J,J,by show Value.int .i64 ((m:Int).tmod (k:Int))=_;rw[tmv],trivial⟩,H,J,by rw[←hgcd,Nat.gcd_comm k,←Nat.gcd_rec,Nat.gcd_comm],hn18,by have:=Nat.mod_lt m (by omega:0<k);omega⟩
  refine zC J ?_
  have hn0:k=0:=by omega
  subst hn0
  rw[Nat.gcd_zero_right]at hgcd
  subst hgcd
  refine wI un3 un183 J (by unfold InU;omega) (zF J fc150 J (qy (jt hI H.fine (K:=KX K Φ) (z:=((x.natAbs.gcd y.natAbs:Nat):Int)) O Y8 Z) (fun s9 D9 n5 a5 m5 c5 Hc h105=>?_)))
  obtain⟨Φ,ku,kd,H⟩:=ko (K:=K) H Hc
  replace h105:=h105.mono kd
  clear Hc ku kd
  refine zT (vs:=[.bool _,.slice _ _ _]) H qI J J J J J O (fun s8 H=>?_)
  refine en ?_
  refine yP xO J H.own0 J ?_
  exact⟨Φ,_,_,_,_,J,(frz1 H).up O,h105⟩
 refine zN xO J H.own1 J (vQ (vs:=[.bool _,.slice _ _ _]) H qI J J J J J O (fun s9 H=>?_))
 refine en ?_
 refine yP xO J H.own2 J ?_
 have hy0:y.natAbs=0:=by have:=h102.zero;omega
 rw[hy0,Nat.gcd_zero_right]
 exact⟨Φ,_,_,_,_,J,(frz5 H).up O,h101⟩
end Go.Proofs.YtocnbjjmmgolfaaGreat
