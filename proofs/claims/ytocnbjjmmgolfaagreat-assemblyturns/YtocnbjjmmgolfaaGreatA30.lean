/- The fractions of the program: made, negated, compared. -/
import Derived.Test.YtocnbjjmmgolfaaGreatA29
namespace Go.Proofs.YtocnbjjmmgolfaaGreat
open Go Go.M Go.Proofs.C14
theorem fb145:xK Tryz.f145 (Tryz.f145.body.getD .skip) 0=true:=by kernel_rfl
theorem fc197:xJ Tryz.prog 197=true:=by kernel_rfl
theorem fb147:xK Tryz.f147 (Tryz.f147.body.getD .skip) 1=true:=by kernel_rfl
theorem fb82:xK Tryz.f82 (Tryz.f82.body.getD .skip) 1=true:=by kernel_rfl
theorem fc145:xJ Tryz.prog 145=true:=by kernel_rfl
theorem fb149:xK Tryz.f149 (Tryz.f149.body.getD .skip) 2=true:=by kernel_rfl
theorem fc147:xJ Tryz.prog 147=true:=by kernel_rfl
theorem fb83:xK Tryz.f83 (Tryz.f83.body.getD .skip) 2=true:=by kernel_rfl
theorem fc146:xJ Tryz.prog 146=true:=by kernel_rfl
theorem fc148:xJ Tryz.prog 148=true:=by kernel_rfl
theorem fc149:xJ Tryz.prog 149=true:=by kernel_rfl
theorem fb123:xK Tryz.f123 (Tryz.f123.body.getD .skip) 2=true:=by kernel_rfl
theorem fc83:xJ Tryz.prog 83=true:=by kernel_rfl
theorem fb139:xK Tryz.f139 (Tryz.f139.body.getD .skip) 1=true:=by kernel_rfl
theorem fc214:xJ Tryz.prog 214=true:=by kernel_rfl
variable{I:xP}{s:St}{K:Kw}{n1 n2:Bool}{a1 a2:Option Addr}{M N c1 c2 m1 m2:Nat}{p q:Int}
set_option maxHeartbeats 4000000 in
set_option maxRecDepth 10000 in
theorem oneP_ok(hI:xA I)(hf:Fine s)(hK:Kn s K)(hroom:s.next+30≤yC):∃v' s',xN Tryz.prog I 145 #[] s v' s'∧wR K s 30 1 v' s':=by
 have H:=hf.hl
 refine zX 0 (hI 145 U U) Tryz.func145 J fb145 J ?_
 refine zS H qU O (fun b0 s1 H=>?_)
 refine zF J fc197 J (qy (ofP_ok hI H.fine (K:=KX K []) Y Z) (fun s9 D9 n1 a1 m1 c1 Hc h101=>?_))
 obtain⟨Φ,ku,kd,H⟩:=ko (K:=K) H Hc
 replace h101:=h101.mono kd
 clear Hc ku kd
 refine zT (vs:=[.bool _,.slice _ _ _]) H qI J J J J J O (fun s2 H=>?_)
 refine en ?_
 refine yP xO J H.own0 J ?_
 exact⟨Φ,_,_,_,_,J,(frz1 H).up O,h101⟩
set_option maxHeartbeats 4000000 in
set_option maxRecDepth 10000 in
theorem unit_ok(hI:xA I)(hf:Fine s)(hK:Kn s K){x:Int}(hx:NumK K n1 a1 m1 c1 x)(hroom:s.next+10≤yC) :
  ∃v' s',xN Tryz.prog I 147 #[.agg ⟨[.bool n1,.slice a1 m1 c1]⟩] s v' s'∧qQ s 10 (.bool (decide (x=1))) v' s':=by
 have H:=hf.hl
 obtain⟨hn1,hm1,hk1⟩:=hx
 have ha:=hK _ _ hk1
 cases n1
 ·refine zX 1 (hI 147 U U) Tryz.func147 J fb147 J ?_
  refine zY H J O (fun b1 s1 H=>?_)
  refine zG (zB xD J (zJ sh4 J H.own0 J (qt J (zI J (zB yM J (zJ xQ J H.own0 J (yF xV J J J (qh J J (fun h=>?_) (fun h=>?_)))))))))
  ·refine yD J J (zI J (zB yM J (zJ xQ J H.own0 J ?_)))
   have hlen1:(dg x.natAbs).length=1:=by omega
   have hdx:=dg_one hlen1
   subst hm1
   obtain⟨b1_,off1,c1_,rfl,hg1,hb1,hc1⟩:=(ha.kept H).atD (i:=0) (k:=0) rfl O
   rw[hdx]at hc1
   refine zP qn J J O O (zJ sh3 J hg1 hc1 (qh J J (fun h=>?_) (fun h=>?_)))
   ·refine yD J J (zK J (en ?_))
    refine yV (⟨congrArg Value.bool ?_,H.drop0.up O⟩)
    simp only[Bool.true_eq,Bool.false_eq,decide_eq_true_eq,decide_eq_false_iff_not]at hn1 ⊢
    (have h2:(x.natAbs:Int)=1:=h;omega)
   refine yD J J (zK J (en ?_))
   refine yV (⟨congrArg Value.bool ?_,H.drop0.up O⟩)
   simp only[Bool.true_eq,Bool.false_eq,decide_eq_true_eq,decide_eq_false_iff_not]at hn1 ⊢
   (have h2:¬(x.natAbs:Int)=1:=h;omega)
  refine yD J J (zI J (yY J (zK J (en ?_))))
  refine yV (⟨congrArg Value.bool ?_,H.drop0.up O⟩)
  simp only[Bool.true_eq,Bool.false_eq,decide_eq_true_eq,decide_eq_false_iff_not]at hn1 ⊢
  (intro hx1;subst hx1;first|omega|(rw[Int.natAbs_one,dg1]at hm1;simp at hm1;omega))
 ·refine zX 1 (hI 147 U U) Tryz.func147 J fb147 J ?_
  refine zY H J O (fun b1 s1 H=>?_)
  refine zG (zB xD J (zJ sh4 J H.own0 J (qt J (zI J (yY J (zI J (yY J (zK J (en ?_)))))))))
  refine yV (⟨congrArg Value.bool ?_,H.drop0.up O⟩)
  simp only[Bool.true_eq,Bool.false_eq,decide_eq_true_eq,decide_eq_false_iff_not]at hn1 ⊢
  (intro hx1;subst hx1;first|omega|(rw[Int.natAbs_one,dg1]at hm1;simp at hm1;omega))
set_option maxHeartbeats 4000000 in
set_option maxRecDepth 10000 in
theorem jm(hI:xA I)(hf:Fine s)(hK:Kn s K){q:Rat}(hx:RatK K n1 a1 m1 c1 n2 a2 m2 c2 q N M)(hroom:s.next+40≤yC) :
  ∃v' s',xN Tryz.prog I 82 #[.agg ⟨[.bool n1,.slice a1 m1 c1,.bool n2,.slice a2 m2 c2]⟩] s v' s'∧wR K s 40 (q.den:Int) v' s':=by
 have H:=hf.hl
 obtain⟨_,⟨hn2,hm2,hk2⟩,_⟩:=hx
 have hdl:=dd_len q
 subst hn2
 refine zX 1 (hI 82 U U) Tryz.func82 J fb82 J ?_
 refine zY H J O (fun b1 s1 H=>?_)
 refine zS H qU O (fun b2 s2 H=>?_)
 refine zB kI J (zB yM J (zJ xQ J H.own1 J (yF xV J J J (qh J J (fun h=>?_) (fun h=>?_)))))
 ·refine zF J fc145 J (qy (oneP_ok hI H.fine (kn2 hK H) Z) (fun s9 D9 n1 a1 m1 c1 Hc h101=>?_))
  obtain⟨Φ,ku,kd,H⟩:=k8 (K:=K) H Hc
  replace h101:=h101.mono kd
  clear Hc ku kd
  refine zT (vs:=[.bool _,.slice _ _ _]) H qI J J J J J O (fun s3 H=>?_)
  refine en ?_
  refine yP xO J H.own0 J ?_
  have hd:q.den=1:=hdl.mp O
  rw[hd]
  exact⟨Φ,_,_,_,_,J,(frz2 H).up O,h101⟩
 refine zB kI J (zN xO J H.own1 J (zT (vs:=[.bool _,.slice _ _ _]) H qI J J J J J O (fun s4 H=>?_)))
 refine en ?_
 refine yP xO J H.own0 J ?_
 have hd:q.den≠1:=fun h=>by have:=hdl.mpr h;omega
 rw[dd,if_neg hd]at hm2 hk2
 exact⟨[],_,_,_,_,J,H.drop0.drop0.up O,by simp,by rw[Int.natAbs_natCast];exact hm2,by rw[Int.natAbs_natCast];exact .inl hk2⟩
set_option maxHeartbeats 4000000 in
set_option maxRecDepth 10000 in
theorem lowest_ok(hI:xA I)(hf:Fine s)(hK:Kn s K){r:Rat}(hx:NumK K n1 a1 m1 c1 r.num)(hy:NumK K n2 a2 m2 c2 (r.den:Int))(hb:Bd r N M)(hroom:s.next+30≤yC) :
  ∃v' s',xN Tryz.prog I 149 #[.agg ⟨[.bool n1,.slice a1 m1 c1]⟩,.agg ⟨[.bool n2,.slice a2 m2 c2]⟩] s v' s'∧PostQ K s 30 r N M v' s':=by
 have H:=hf.hl
 have hnf:n2=false:=by rw[hy.1];exact decide_eq_false O
 subst hnf
 have hx:=hx.mono (zZ (D:=[]))
 have hy:=hy.mono (zZ (D:=[]))
 refine zX 2 (hI 149 U U) Tryz.func149 J fb149 J ?_
 refine zY H J O (fun b2 s1 H=>?_)
 refine zY H J O (fun b3 s2 H=>?_)
 refine zS H wB O (fun b4 s3 H=>?_)
 refine zB xD J (zJ sh4 J H.own1 J (zN xO J H.own1 J (zF J fc147 J (callB (unit_ok hI H.fine (kn3 hK H) hy Z) (fun hb1 s9 Hc=>?_) (fun hb1 s9 Hc=>?_)))))
 ·have H:=H.call0 Hc
  clear Hc
  refine zN xO J H.own2 J (zN xO J H.own1 J (xE (c:=[.bool _,.slice _ _ _,.bool _,.slice _ _ _]) bf34 J (zT (vs:=[.bool _,.slice _ _ _,.bool _,.slice _ _ _]) H kb J J J J J O (fun s4 H=>?_))))
  refine en ?_
  refine yP xC J H.own0 J ?_
  have hd:r.den≠1:=by have:=of_decide_eq_false hb1;omega
  obtain⟨g1,g2,g3⟩:=hy
  rw[Int.natAbs_natCast]at g2 g3
  refine⟨[],_,_,_,_,_,_,_,_,J,H.drop0.drop0.drop0.up O,hx,⟨J,?_,?_⟩,hb⟩
  ·rw[dd,if_neg hd];exact g2
  ·rw[dd,if_neg hd];exact g3
 have H:=H.call0 Hc
 clear Hc
 refine zN xO J H.own2 J (xE (c:=[.bool _,.slice _ _ _,.bool _,.slice _ _ _]) bf34 J (zT (vs:=[.bool _,.slice _ _ _,.bool _,.slice _ _ _]) H kb J J J J J O (fun s5 H=>?_)))
 refine en ?_
 refine yP xC J H.own0 J ?_
 have hd:r.den=1:=by have:=of_decide_eq_true hb1;omega
 refine⟨[],_,_,_,_,_,_,_,_,J,H.drop0.drop0.drop0.up O,hx,⟨J,?_,?_⟩,hb⟩
 ·rw[dd,if_pos hd];rfl
 ·rw[dd,if_pos hd];exact .inr (.nil _ rfl rfl)
set_option maxHeartbeats 4000000 in
set_option maxRecDepth 10000 in
theorem makeP_ok(hI:xA I)(hf:Fine s)(hK:Kn s K)(hx:NumK K n1 a1 m1 c1 p)(hy:NumK K n2 a2 m2 c2 q)(hpN:p.natAbs≤N)(hqM:q.natAbs≤M)(hN:N<1000000000000000000)(hM:M<1000000000000000000)(hq0:0<q)(hroom:s.next+1000≤yC) :
  ∃v' s',xN Tryz.prog I 83 #[.agg ⟨[.bool n1,.slice a1 m1 c1]⟩,.agg ⟨[.bool n2,.slice a2 m2 c2]⟩] s v' s'∧PostQ K s 1000 (Rat.divInt p q) N M v' s':=by
 have H:=hf.hl
 have hne:m2≠0:=fun h=>by have:=hy.zero.mp h;omega
 have hp0:=hx.zero
 have hx:=hx.mono (zZ (D:=[]))
 have hy:=hy.mono (zZ (D:=[]))
 have hg0:=gcd_pos (p:=p) (q:=q) O
 have hgp:((Nat.gcd p.natAbs q.natAbs:Nat):Int)∣p:=Int.ofNat_dvd_left.mpr (Nat.gcd_dvd_left _ _)
 have hgq:((Nat.gcd p.natAbs q.natAbs:Nat):Int)∣q:=Int.ofNat_dvd_left.mpr (Nat.gcd_dvd_right _ _)
 have hgM:Nat.gcd p.natAbs q.natAbs≤M:=Nat.le_trans (Nat.gcd_le_right _ O) hqM
 obtain⟨e1,e2⟩:=divInt_pos (p:=p) hq0
 have hbd:=divInt_bd hq0 hpN hqM
 refine zX 2 (hI 83 U U) Tryz.func83 J fb83 J ?_
 refine zY H J O (fun b2 s1 H=>?_)
 refine zY H J O (fun b3 s2 H=>?_)
 refine zS H wB O (fun b4 s3 H=>?_)
 refine zB yM J (zJ xQ J H.own1 J (yF xV J J J (qh J J Y6 (fun h=>?_))))
 refine zI J (zB yM J (zJ xQ J H.own2 J (yF xV J J J (qh J J (fun h=>?_) (fun h=>?_)))))
 ·refine yG J J (xE (c:=[.bool _,.slice _ _ _,.bool _,.slice _ _ _]) bf34 J (zT (vs:=[.bool _,.slice _ _ _,.bool _,.slice _ _ _]) H kb J J J J J O (fun s4 H=>?_)))
  refine en ?_
  refine yP xC J H.own0 J ?_
  have hz:p=0:=hp0.mp O
  subst hz
  rw[Rat.zero_divInt]
  exact⟨[],_,_,_,_,_,_,_,_,J,(frz3 H).up O,RatK.nil.le O O⟩
 refine yG J J (zN xO J H.own2 J (zN xO J H.own1 J (zF J fc146 J (qy (gcdP_ok hI H.fine (kn3 hK H) hx hy O O Z) (fun s9 D9 n1 a1 m1 c1 Hc h101=>?_)))))
 obtain⟨Φ,ku,kd,H⟩:=qk (K:=K) H Hc
 try replace hx:=hx.mono ku
 try replace hy:=hy.mono ku
 replace h101:=h101.mono kd
 clear Hc ku kd
 refine zS H qU O (fun b5 s5 H=>?_)
 refine zT (vs:=[.bool _,.slice _ _ _]) H qI J J J J J O (fun s6 H=>?_)
 refine zN xO J H.own0 J (zF J fc147 J (callB (unit_ok hI H.fine (kn4 hK H) h101 Z) (fun hb2 s9 Hc=>?_) (fun hb2 s9 Hc=>?_)))
 ·have H:=H.call0 Hc
  clear Hc
  refine qt J (zN xO J H.own3 J (zN xO J H.own0 J (zF J fc148 J (callNN (divP_ok hI H.fine (kn4 hK H) hx h101 O (by rw[Int.natAbs_natCast];omega) O Z1 Z) (fun s9 D9 n3 a3 m3 c3 n3r a3r m3r c3r Hc h103a h103b=>?_)))))
  obtain⟨Φ,ku,kd,H⟩:=kj (K:=K) H Hc
  try replace hx:=hx.mono ku
  try replace hy:=hy.mono ku
  try replace h101:=h101.mono ku
  replace h103a:=h103a.mono kd
  clear Hc ku kd
  refine qo J (yI J J (yI J J (vP (vs:=[.bool _,.slice _ _ _]) H qI J J J J J O (fun s7 H=>?_))))
  refine zN xO J H.own2 J (zN xO J H.own0 J (zF J fc148 J (callNN (divP_ok hI H.fine (kn4 hK H) hy h101 O (by rw[Int.natAbs_natCast];omega) O Z1 Z) (fun s9 D9 n4 a4 m4 c4 n4r a4r m4r c4r Hc h104a h104b=>?_))))
  obtain⟨Φ,ku,kd,H⟩:=kj (K:=K) H Hc
  try replace hx:=hx.mono ku
  try replace hy:=hy.mono ku
  try replace h103a:=h103a.mono ku
  replace h104a:=h104a.mono kd
  clear Hc ku kd
  refine qo J (yI J J (yI J J (vQ (vs:=[.bool _,.slice _ _ _]) H qI J J J J J O (fun s8 H=>?_))))
  rw[←e1]at h103a
  rw[←e2]at h104a
  refine zN xO J H.own3 J (zN xO J H.own2 J (zF J fc149 J (qe (lowest_ok hI H.fine (kn4 hK H) h103a h104a hbd Z) (fun s9 D9 n5 a5 m5 c5 n5d a5d m5d c5d Hc h105=>?_))))
  obtain⟨Φ,ku,kd,H⟩:=kj (K:=K) H Hc
  try replace hx:=hx.mono ku
  try replace hy:=hy.mono ku
  replace h105:=h105.mono kd
  clear Hc ku kd
  refine qu (vs:=[.bool _,.slice _ _ _,.bool _,.slice _ _ _]) H kb J J J J J O (fun s9 H=>?_)
  refine en ?_
  refine yP xC J H.own1 J ?_
  exact⟨Φ,_,_,_,_,_,_,_,_,J,(frz4 H).up O,h105⟩
 have H:=H.call0 Hc
 clear Hc
 refine qt J ?_
 have hg1:=of_decide_eq_true hb2
 rw[hg1,Int.ediv_one]at e1 e2
 have hx:=e1.symm▸hx
 have hy:=e2.symm▸hy
 refine zN xO J H.own3 J (zN xO J H.own2 J (zF J fc149 J (qe (lowest_ok hI H.fine (kn4 hK H) hx hy hbd Z) (fun s9 D9 n6 a6 m6 c6 n6d a6d m6d c6d Hc h106=>?_))))
 obtain⟨Φ,ku,kd,H⟩:=kj (K:=K) H Hc
 replace h106:=h106.mono kd
 clear Hc ku kd
 refine qu (vs:=[.bool _,.slice _ _ _,.bool _,.slice _ _ _]) H kb J J J J J O (fun s10 H=>?_)
 refine en ?_
 refine yP xC J H.own1 J ?_
 exact⟨Φ,_,_,_,_,_,_,_,_,J,(frz4 H).up O,h106⟩
set_option maxHeartbeats 4000000 in
set_option maxRecDepth 10000 in
theorem ratOf_ok(hI:xA I)(hf:Fine s)(hpN:p.natAbs≤N)(hqM:q.natAbs≤M)(hN:N<1000000000000000000)(hM:M<1000000000000000000)(hq0:0<q)(hK:Kn s K)(hroom:s.next+1100≤yC) :
  ∃v' s',xN Tryz.prog I 123 #[.int .i64 p,.int .i64 q] s v' s'∧PostQ K s 1100 (Rat.divInt p q) N M v' s':=by
 have H:=hf.hl
 refine zX 2 (hI 123 U U) Tryz.func123 J fb123 J ?_
 refine zS H wB O (fun b4 s1 H=>?_)
 refine zC J (zF J fc197 J (qy (ofP_ok hI H.fine (K:=KX K []) Y Z) (fun s9 D9 n1 a1 m1 c1 Hc h101=>?_)))
 obtain⟨Φ,ku,kd,H⟩:=ko (K:=K) H Hc
 replace h101:=h101.mono kd
 clear Hc ku kd
 refine zC J (zF J fc197 J (qy (ofP_ok hI H.fine (K:=KX K Φ) Y Z) (fun s9 D9 n2 a2 m2 c2 Hc h102=>?_)))
 obtain⟨Φ,ku,kd,H⟩:=ko (K:=K) H Hc
 try replace h101:=h101.mono ku
 replace h102:=h102.mono kd
 clear Hc ku kd
 refine zF J fc83 J (qe (makeP_ok hI H.fine (kn1 hK H) h101 h102 hpN hqM hN hM hq0 Z) (fun s9 D9 n3 a3 m3 c3 n3d a3d m3d c3d Hc h103=>?_))
 obtain⟨Φ,ku,kd,H⟩:=ko (K:=K) H Hc
 replace h103:=h103.mono kd
 clear Hc ku kd
 refine zT (vs:=[.bool _,.slice _ _ _,.bool _,.slice _ _ _]) H kb J J J J J O (fun s2 H=>?_)
 refine en ?_
 refine yP xC J H.own0 J ?_
 exact⟨Φ,_,_,_,_,_,_,_,_,J,(frz1 H).up O,h103⟩
set_option maxHeartbeats 4000000 in
set_option maxRecDepth 10000 in
theorem ratNeg_ok(hI:xA I)(hf:Fine s)(hK:Kn s K){a:Rat}{N1 M1:Nat}(hx:RatK K n1 a1 m1 c1 n2 a2 m2 c2 a N1 M1)(hroom:s.next+30≤yC) :
  ∃v' s',xN Tryz.prog I 139 #[.agg ⟨[.bool n1,.slice a1 m1 c1,.bool n2,.slice a2 m2 c2]⟩] s v' s'∧PostQ K s 30 (-a) N1 M1 v' s':=by
 have H:=hf.hl
 have hb:=hx.2.2.neg
 have hx:=hx.mono (zZ (D:=[]))
 have hx1:=hx.pp
 have hx2:=hx.qq
 refine zX 1 (hI 139 U U) Tryz.func139 J fb139 J ?_
 refine zY H J O (fun b1 s1 H=>?_)
 refine zS H wB O (fun b2 s2 H=>?_)
 refine yT [⟨0,0,.light,[4]⟩,⟨1,1,.light,[4]⟩,⟨3,0,.light,[1]⟩,⟨4,8,.light,[1]⟩,⟨2,3,.whole,[4]⟩,⟨5,31,.light,[]⟩,⟨6,63,.whole,[]⟩] Z0 Z0 (zA J J (zB qL J ⟨J,(zQ J J xO J H.own1 Y1 J (zA J J (zB kI J ⟨J,(zQ J J xO J H.own1 Y1 J (zM J J (zF J fc214 J (qy (negP_ok hI (Fine.pr H.fine (xW H.lt1 qO)) X2 hx1 Z) (fun s9 D9 n1 a1 m1 c1 Hc h101=>?_)))))⟩)))⟩))
 have Hc:=HL.wider H.fine Z3 Z5 Hc
 obtain⟨Φ,ku,kd,H⟩:=k8 (K:=K) H Hc
 try replace hx2:=hx2.mono ku
 replace h101:=h101.mono kd
 clear Hc ku kd
 refine zA J J (xE (c:=[.bool _,.slice _ _ _,.bool _,.slice _ _ _]) bf34 J ⟨J,(xM (vs:=[.bool _,.slice _ _ _,.bool _,.slice _ _ _]) (fr:=[]) H J J kb J J J J J J Z2 O (fun s3 H=>?_))⟩)
 refine zU (en ?_)
 refine yP xC J H.own0 J ?_
 exact⟨Φ,_,_,_,_,_,_,_,_,J,(frz2 H).up O,RatK.mk h101 hx2 hb⟩
end Go.Proofs.YtocnbjjmmgolfaaGreat
