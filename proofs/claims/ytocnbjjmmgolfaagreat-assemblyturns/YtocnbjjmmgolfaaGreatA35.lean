/- The reference: whether corners are polygons; turns made of numbers. -/
/- The reference: plain pieces; where two pieces agree. -/
/- The reference: where two pieces agree in a fit. -/
import Derived.Test.YtocnbjjmmgolfaaGreatA34
namespace Go.Proofs.YtocnbjjmmgolfaaGreat
open Go Go.M Go.Proofs.C14
theorem bf72:buildF Tryz.prog 72=some ([.int .i64 0,.int .i64 0,.slice none 0 0,.slice none 0 0,.slice none 0 0,.bool false,.slice none 0 0,.bool false,.slice none 0 0,.bool false,.slice none 0 0,.bool false,.slice none 0 0,.bool false,.slice none 0 0,.bool false,.slice none 0 0,.bool false,.slice none 0 0,.bool false,.slice none 0 0,.bool false,.slice none 0 0,.bool false,.slice none 0 0],[(0,1),(1,1),(2,1),(3,1),(4,1),(5,4),(9,4),(13,4),(17,4),(21,4)]):=by kernel_rfl
theorem el78:elemF Tryz.prog 78=some (true,0,1):=by kernel_rfl
theorem fb33:xK Tryz.f33 (Tryz.f33.body.getD .skip) 1=true:=by kernel_rfl
theorem fc92:xJ Tryz.prog 92=true:=by kernel_rfl
theorem fc93:xJ Tryz.prog 93=true:=by kernel_rfl
theorem un78:Tryz.prog.underlying 78=some (.slice 69):=by kernel_rfl
theorem fb43:xK Tryz.f43 (Tryz.f43.body.getD .skip) 1=true:=by kernel_rfl
variable{I:xP}{s:St}{K:Kw}
set_option maxHeartbeats 4000000 in
set_option maxRecDepth 10000 in
theorem valid14_ok(hI:xA I)(hf:Fine s)(hK:Kn s K){P0:List (Int×Int)}{b0:Nat}(hp0:SlP s (.slice (some ⟨b0,0,none⟩) 4 8) P0)(hs0:Sml 16 P0)(hl0:P0.length=4){P1:List (Int×Int)}{b1:Nat}(hp1:SlP s (.slice (some ⟨b1,0,none⟩) 4 8) P1)(hs1:Sml 16 P1)(hl1:P1.length=4){P2:List (Int×Int)}{b2:Nat}(hp2:SlP s (.slice (some ⟨b2,0,none⟩) 4 8) P2)(hs2:Sml 16 P2)(hl2:P2.length=4){P3:List (Int×Int)}{b3:Nat}(hp3:SlP s (.slice (some ⟨b3,0,none⟩) 4 8) P3)(hs3:Sml 16 P3)(hl3:P3.length=4){bl:Nat}{e:TypeId}(hg:s.get bl=some (.cells [.slice (some ⟨b0,0,none⟩) 4 8,.slice (some ⟨b1,0,none⟩) 4 8,.slice (some ⟨b2,0,none⟩) 4 8,.slice (some ⟨b3,0,none⟩) 4 8] e))(hb:bl<s.next)(hroom:s.next+810000000≤yC) :
  ∃v' s',xN Tryz.prog I 33 #[.slice (some ⟨bl,0,none⟩) 4 8] s v' s'∧(∃b,qQ s 810000000 (.bool b) v' s'):=by
 rw[Nat.add_comm]at hroom
 have H:=hf.hl
 refine zX 1 (hI 33 U U) Tryz.func33 J fb33 J ?_
 refine zE (zG (zD (yE (zE (zG (zD (yR (kf (yE (zE (zC J ?_)))))))))))
 refine zH J (yF un78 J J J ?_)
 refine xB J J (fun h=>?_) Y6
 refine zD (yJ rfl (yN (zR (yE (yR (zE (zH J (zC J (zP el78 J J O O (zJ sh69 J ((H.old hb hg)) J (xE (c:=[.int _ _,.int _ _,.slice _ _ _,.slice _ _ _,.slice _ _ _,.bool _,.slice _ _ _,.bool _,.slice _ _ _,.bool _,.slice _ _ _,.bool _,.slice _ _ _,.bool _,.slice _ _ _,.bool _,.slice _ _ _,.bool _,.slice _ _ _,.bool _,.slice _ _ _,.bool _,.slice _ _ _,.bool _,.slice _ _ _]) bf72 J ?_)))))))))))
 refine zF J fc93 J ?_
 have H0_:=H
 obtain⟨v9,s9,hr,D9,vs9,Hc,hsl9,hvs9,hvl9⟩:=rim12_ok hI H.fine (hK.x H (D:=[]) V1) (hp0.kept H) hs0 O Y7
 refine⟨_,_,hr,?_⟩
 clear hr
 have H:=H.callE Hc
 refine zF J fc92 J ?_
 obtain⟨_,s8,hr,bb,rfl,Hd⟩:=valid06_ok hI H.fine (K:=KX (KX K []) D9) ((hK.x H0_ (D:=[]) V1).x Hc (D:=D9) (by intro p hp;exact hp)) (hsl9.sl H Z8) hvs9 O O Y7
 refine⟨_,_,hr,?_⟩
 clear hr
 have H:=H.call0 Hd
 clear Hd Hc H0_
 cases bb
 ·refine qt J (zD (yJ rfl (zE (zG (zD (yO (qc (xI (xI (qc (xI ?_)))))))))))
  refine yB (yV ?_)
  exact⟨_,J,(H.sub Z9).up O⟩
 refine qt J (zD (yL rfl (yN (xF (zR (yA (zC J (yH J J Y (zL J (zD (zR ?_)))))))))))
 refine kf (yE (zE (zC J (zH J (yF un78 J J J ?_)))))
 refine xB J J (fun h=>?_) Y6
 refine zD (yJ rfl (yN (zR (yE (yR (zE (zH J (zC J (zP el78 J J O O (zJ sh69 J ((H.old hb hg)) J (xE (c:=[.int _ _,.int _ _,.slice _ _ _,.slice _ _ _,.slice _ _ _,.bool _,.slice _ _ _,.bool _,.slice _ _ _,.bool _,.slice _ _ _,.bool _,.slice _ _ _,.bool _,.slice _ _ _,.bool _,.slice _ _ _,.bool _,.slice _ _ _,.bool _,.slice _ _ _,.bool _,.slice _ _ _,.bool _,.slice _ _ _]) bf72 J ?_)))))))))))
 refine zF J fc93 J ?_
 have H0_:=H
 obtain⟨v9,s9,hr,D9,vs9,Hc,hsl9,hvs9,hvl9⟩:=rim12_ok hI H.fine (hK.x H (D:=[]) V1) (hp1.kept H) hs1 O Y7
 refine⟨_,_,hr,?_⟩
 clear hr
 have H:=H.callE Hc
 refine zF J fc92 J ?_
 obtain⟨_,s8,hr,bb,rfl,Hd⟩:=valid06_ok hI H.fine (K:=KX (KX K []) D9) ((hK.x H0_ (D:=[]) V1).x Hc (D:=D9) (by intro p hp;exact hp)) (hsl9.sl H Z8) hvs9 O O Y7
 refine⟨_,_,hr,?_⟩
 clear hr
 have H:=H.call0 Hd
 clear Hd Hc H0_
 cases bb
 ·refine qt J (zD (yJ rfl (zE (zG (zD (yO (qc (xI (xI (qc (xI ?_)))))))))))
  refine yB (yV ?_)
  exact⟨_,J,(H.sub Z9).up O⟩
 refine qt J (zD (yL rfl (yN (xF (zR (yA (zC J (yH J J Y (zL J (zD (zR ?_)))))))))))
 refine kf (yE (zE (zC J (zH J (yF un78 J J J ?_)))))
 refine xB J J (fun h=>?_) Y6
 refine zD (yJ rfl (yN (zR (yE (yR (zE (zH J (zC J (zP el78 J J O O (zJ sh69 J ((H.old hb hg)) J (xE (c:=[.int _ _,.int _ _,.slice _ _ _,.slice _ _ _,.slice _ _ _,.bool _,.slice _ _ _,.bool _,.slice _ _ _,.bool _,.slice _ _ _,.bool _,.slice _ _ _,.bool _,.slice _ _ _,.bool _,.slice _ _ _,.bool _,.slice _ _ _,.bool _,.slice _ _ _,.bool _,.slice _ _ _,.bool _,.slice _ _ _]) bf72 J ?_)))))))))))
 refine zF J fc93 J ?_
 have H0_:=H
 obtain⟨v9,s9,hr,D9,vs9,Hc,hsl9,hvs9,hvl9⟩:=rim12_ok hI H.fine (hK.x H (D:=[]) V1) (hp2.kept H) hs2 O Y7
 refine⟨_,_,hr,?_⟩
 clear hr
 have H:=H.callE Hc
 refine zF J fc92 J ?_
 obtain⟨_,s8,hr,bb,rfl,Hd⟩:=valid06_ok hI H.fine (K:=KX (KX K []) D9) ((hK.x H0_ (D:=[]) V1).x Hc (D:=D9) (by intro p hp;exact hp)) (hsl9.sl H Z8) hvs9 O O Y7
 refine⟨_,_,hr,?_⟩
 clear hr
 have H:=H.call0 Hd
 clear Hd Hc H0_
 cases bb
 ·refine qt J (zD (yJ rfl (zE (zG (zD (yO (qc (xI (xI (qc (xI ?_)))))))))))
  refine yB (yV ?_)
  exact⟨_,J,(H.sub Z9).up O⟩
 refine qt J (zD (yL rfl (yN (xF (zR (yA (zC J (yH J J Y (zL J (zD (zR ?_)))))))))))
 refine kf (yE (zE (zC J (zH J (yF un78 J J J ?_)))))
 refine xB J J (fun h=>?_) Y6
 refine zD (yJ rfl (yN (zR (yE (yR (zE (zH J (zC J (zP el78 J J O O (zJ sh69 J ((H.old hb hg)) J (xE (c:=[.int _ _,.int _ _,.slice _ _ _,.slice _ _ _,.slice _ _ _,.bool _,.slice _ _ _,.bool _,.slice _ _ _,.bool _,.slice _ _ _,.bool _,.slice _ _ _,.bool _,.slice _ _ _,.bool _,.slice _ _ _,.bool _,.slice _ _ _,.bool _,.slice _ _ _,.bool _,.slice _ _ _,.bool _,.slice _ _ _]) bf72 J ?_)))))))))))
 refine zF J fc93 J ?_
 have H0_:=H
 obtain⟨v9,s9,hr,D9,vs9,Hc,hsl9,hvs9,hvl9⟩:=rim12_ok hI H.fine (hK.x H (D:=[]) V1) (hp3.kept H) hs3 O Y7
 refine⟨_,_,hr,?_⟩
 clear hr
 have H:=H.callE Hc
 refine zF J fc92 J ?_
 obtain⟨_,s8,hr,bb,rfl,Hd⟩:=valid06_ok hI H.fine (K:=KX (KX K []) D9) ((hK.x H0_ (D:=[]) V1).x Hc (D:=D9) (by intro p hp;exact hp)) (hsl9.sl H Z8) hvs9 O O Y7
 refine⟨_,_,hr,?_⟩
 clear hr
 have H:=H.call0 Hd
 clear Hd Hc H0_
 cases bb
 ·refine qt J (zD (yJ rfl (zE (zG (zD (yO (qc (xI (xI (qc (xI ?_)))))))))))
  refine yB (yV ?_)
  exact⟨_,J,(H.sub Z9).up O⟩
 refine qt J (zD (yL rfl (yN (xF (zR (yA (zC J (yH J J Y (zL J (zD (zR ?_)))))))))))
 refine kf (yE (zE (zC J (zH J (yF un78 J J J (xB J J Y6 (fun h=>?_)))))))
 refine zD (yL rfl (ql (xU (xU (xX (zR (zE (zG (zD (yO (yB ?_)))))))))))
 refine yV ?_
 exact⟨_,J,(H.sub Z9).up O⟩
theorem tdm4{k:Int}(h0:0≤k)(h1:k<64):0≤(k.tdiv 4).tmod 4∧(k.tdiv 4).tmod 4≤3∧0≤k.tdiv 16∧k.tdiv 16≤3∧0≤k.tmod 4∧k.tmod 4≤3∧0≤k.tdiv 4∧k.tdiv 4≤15:=by
 rw[Int.tdiv_eq_ediv_of_nonneg h0,Int.tdiv_eq_ediv_of_nonneg h0,Int.tmod_eq_emod_of_nonneg h0,Int.tmod_eq_emod_of_nonneg O]
 omega
theorem tri{m w:Int}(hm:1≤m)(hm4:m≤4)(hw:0≤w)(hw3:w≤3):1≤m*m+w*w∧m*m+w*w≤25∧(m*m-w*w).natAbs≤25∧(2*m*w).natAbs≤25∧0≤m*m∧m*m≤16∧0≤w*w∧w*w≤9∧0≤2*m*w∧2*m*w≤24∧(m*m-w*w)*(m*m-w*w)+2*m*w*(2*m*w)=(m*m+w*w)*(m*m+w*w):=by
 have h1:m=1∨m=2∨m=3∨m=4:=by omega
 have h2:w=0∨w=1∨w=2∨w=3:=by omega
 rcases h1 with rfl|rfl|rfl|rfl<;>rcases h2 with rfl|rfl|rfl|rfl<;>decide
set_option maxHeartbeats 4000000 in
set_option maxRecDepth 10000 in
theorem turn05_ok(hI:xA I)(hf:Fine s)(hK:Kn s K){n:Int}(hn:qp n)(hroom:s.next+4000≤yC) :
  ∃v' s',xN Tryz.prog I 43 #[.int .i64 n] s v' s'∧(∃q:Q2,Tn 25 q∧PostV K s 4000 q.1 q.2 25 25 v' s'):=by
 have H:=hf.hl
 obtain⟨hr0,hr1⟩:=jh (a:=n) (n:=64) U
 generalize hkk:wU n 64=k0 at *
 obtain⟨e1,e2,e3,e4,e5,e6,e7,e8⟩:=tdm4 hr0 hr1
 obtain⟨t1,t2,t3,t4,t5,t6,t7,t8,t9,t10,t11⟩:=tri (m:=1+(k0.tdiv 4).tmod 4) (w:=k0.tdiv 16) O O e3 e4
 refine zX 1 (hI 43 U U) Tryz.func43 J fb43 J ?_
 refine zE (zS H zf36 O (fun b2 s1 H=>?_))
 refine zD (zE (zC J (zF J fc10 J (callS (around_ok hI hn U) (zL J (zD ?_))))))
 rw[hkk]
 refine zE (zC J (wY J J O Y (kE J J O (yH J J Y (zL J (zD (zE (zC J (wY J J O Y (zL J (zD ?_)))))))))))
 refine zE (zC J (zC J (op_mul J J Y (zC J (zC J (op_mul J J Y (yH J J Y (zL J (zD (zE (zC J ?_)))))))))))
 refine zC J (op_mul J J Y (zC J (zC J (op_mul J J Y (qC J J Y (zC J (zF J fc20 J (qe (wS hI H.fine (N:=25) (M:=25) O O U U O (kn1 hK H) Z) (fun s9 D9 n2 a2 m2 c2 n2d a2d m2d c2d Hc h102=>?_)))))))))
 obtain⟨Φ,ku,kd,H⟩:=ko (K:=K) H Hc
 replace h102:=h102.mono kd
 clear Hc ku kd
 refine zC J (op_mul J J Y (zC J (op_mul J J Y (zC J (zF J fc20 J (qe (wS hI H.fine (N:=25) (M:=25) O O U U O (kn1 hK H) Z) (fun s9 D9 n3 a3 m3 c3 n3d a3d m3d c3d Hc h103=>?_)))))))
 obtain⟨Φ,ku,kd,H⟩:=ko (K:=K) H Hc
 try replace h102:=h102.mono ku
 replace h103:=h103.mono kd
 clear Hc ku kd
 refine xE (c:=[.bool _,.slice _ _ _,.bool _,.slice _ _ _,.bool _,.slice _ _ _,.bool _,.slice _ _ _]) bf36 J (zS H zf36 O (fun b7 s2 H=>?_))
 refine zT (vs:=[.bool _,.slice _ _ _,.bool _,.slice _ _ _,.bool _,.slice _ _ _,.bool _,.slice _ _ _]) H jo J J J J J O (fun s3 H=>?_)
 refine zD (yE (zE (zG (zD (yR (xR (fun k F s1=>∃(G:FF) (i m:Nat) (q:Q2) (Φ:Hp') (n1:Bool) (a1:Option Addr) (m1 c1:Nat) (n2:Bool) (a2:Option Addr) (m2 c2:Nat) (n3:Bool) (a3:Option Addr) (m3 c3:Nat) (n4:Bool) (a4:Option Addr) (m4 c4:Nat),F=lay G [(2,.pointer (some ⟨b2,0,none⟩)),(3,.int .i64 k0),(7,.pointer (some ⟨b7,0,none⟩)),(8,.int .i64 (i:Int))]∧HL [] s s1 ((b7,.cells [.bool n1,.slice a1 m1 c1,.bool n2,.slice a2 m2 c2,.bool n3,.slice a3 m3 c3,.bool n4,.slice a4 m4 c4] 36)::(b2,.cells [.bool false,.slice none 0 0,.bool false,.slice none 0 0,.bool false,.slice none 0 0,.bool false,.slice none 0 0] 36)::Φ) m∧m≤2300+i*100∧(i:Int)≤k0.tmod 4∧k=4-i∧Tn 25 q∧RatK (KX K Φ) n1 a1 m1 c1 n2 a2 m2 c2 q.1 25 25∧RatK (KX K Φ) n3 a3 m3 c3 n4 a4 m4 c4 q.2 25 25) ?_ 4 _ _ ?_))))))
 rotate_left
 ·refine⟨_,0,_,(_,_),Φ,_,_,_,_,_,_,_,_,_,_,_,_,_,_,_,_,yZ ⟨J,J,J,J,trivial⟩,H,by omega,by omega,by omega,?_,h102,h103⟩
  obtain⟨d,hd⟩:∃d:Nat,(1+(k0.tdiv 4).tmod 4)*(1+(k0.tdiv 4).tmod 4)+k0.tdiv 16*k0.tdiv 16=d:=⟨((1+(k0.tdiv 4).tmod 4)*(1+(k0.tdiv 4).tmod 4)+k0.tdiv 16*k0.tdiv 16).toNat,by omega⟩
  rw[hd]
  exact tn_of O O (by rw[←hd];exact t11)
 rintro k F s1 ⟨G,i,m,q,Φ,n1,a1,m1,c1,n2,a2,m2,c2,n3,a3,m3,c3,n4,a4,m4,c4,rfl,H,hm,hi,rfl,ht,hX,hY⟩
 refine yE (zE (zC J (zC J (kE J J O (xB J J (fun h=>?_) (fun h=>?_))))))
 ·refine zD (yJ rfl (yN (zR (yE (yR (wT [⟨0,0,.light,[4]⟩,⟨1,1,.light,[4]⟩,⟨3,0,.light,[1]⟩,⟨4,8,.light,[1]⟩,⟨2,3,.whole,[4]⟩,⟨5,31,.light,[]⟩,⟨6,63,.whole,[]⟩] Z0 Z0 (zA J J (zB kM J ⟨J,(zQ J J xC J H.own0 Y0 J (zA J J (zB kN J ⟨J,(zQ J J xC J H.own0 Y0 J (zM J J (zF J fc38 J (qe (neg04_ok hI (Fine.pr H.fine (xW H.lt0 qO)) X2 hY U Z) (fun s9 D9 n4 a4 m4 c4 n4d a4d m4d c4d Hc h104=>?_)))))⟩)))⟩))))))))
  have Hc:=HL.wider H.fine Z3 Z5 Hc
  obtain⟨Φ,ku,kd,H⟩:=k8 (K:=K) H Hc
  try replace hX:=hX.mono ku
  try replace hY:=hY.mono ku
  replace h104:=h104.mono kd
  clear Hc ku kd
  refine zA J J (xE (c:=[.bool _,.slice _ _ _,.bool _,.slice _ _ _,.bool _,.slice _ _ _,.bool _,.slice _ _ _]) bf36 J ⟨J,(xM (vs:=[.bool _,.slice _ _ _,.bool _,.slice _ _ _,.bool _,.slice _ _ _,.bool _,.slice _ _ _]) (fr:=[]) H J J jo J J J J J J Z2 O (fun s4 H=>?_))⟩)
  refine zU (xF (zR (yA (zC J (yH J J Y (zL J (zD (xG (⟨4-(i+1),by omega,_,i+1,_,(-q.2,q.1),Φ,_,_,_,_,_,_,_,_,_,_,_,_,_,_,_,_,yZ ⟨J,J,J,J,trivial⟩,H,by omega,by omega,J,ht.quarter,h104,hX⟩)))))))))
 refine zD (yL rfl (ql (xU (xZ (xX (zR (zE (zN kU J H.own0 J (qu (vs:=[.bool _,.slice _ _ _,.bool _,.slice _ _ _,.bool _,.slice _ _ _,.bool _,.slice _ _ _]) H jo J J J J J O (fun s5 H=>?_))))))))))
 refine zD (yO (yB (yP kU J H.own1 J ?_)))
 exact⟨q,ht,Φ,_,_,_,_,_,_,_,_,_,_,_,_,_,_,_,_,J,(frz2 H).up O,hX,hY⟩
end Go.Proofs.YtocnbjjmmgolfaaGreat
namespace Go.Proofs.YtocnbjjmmgolfaaGreat
open Go Go.M Go.Proofs.C14
theorem fb35:xK Tryz.f35 (Tryz.f35.body.getD .skip) 2=true:=by kernel_rfl
theorem of72_3:wZ Tryz.prog 72 3=some 3:=by kernel_rfl
theorem of72_4:wZ Tryz.prog 72 4=some 4:=by kernel_rfl
theorem sh72:qw Tryz.prog 72=some (some 25):=by kernel_rfl
theorem sl70:q6 Tryz.prog 70=some (4,1,1,[.bool false]):=by kernel_rfl
theorem sz22:kD Tryz.prog 22=some 1:=by kernel_rfl
theorem sz70:kD Tryz.prog 70=some 1:=by kernel_rfl
theorem sz72:kD Tryz.prog 72=some 25:=by kernel_rfl
theorem zf72:zeroF Tryz.prog 72=some [.int .i64 0,.int .i64 0,.slice none 0 0,.slice none 0 0,.slice none 0 0,.bool false,.slice none 0 0,.bool false,.slice none 0 0,.bool false,.slice none 0 0,.bool false,.slice none 0 0,.bool false,.slice none 0 0,.bool false,.slice none 0 0,.bool false,.slice none 0 0,.bool false,.slice none 0 0,.bool false,.slice none 0 0,.bool false,.slice none 0 0]:=by kernel_rfl
variable{p0 p1 p2 p3 p4 p5 p6 p7 p8 p9:Nat×MObj}{b t t2 t3:Nat}{c l:List Value}{e e2:TypeId}{v:Value}
section
variable{W:List Nat}{s0 s s':St}{Φ D:Hp'}{K:Kw}{n k:Nat}
theorem mergeS(A:Hp')(H:HL W s0 s (A++Φ) n)(Hc:HL [] s s' D k):∃Φ',KLe (KX K Φ) (KX K Φ')∧KLe (KX (KX K Φ) D) (KX K Φ')∧Φ⊆Φ'∧HL W s0 s' (A++Φ') (n+k):=
 ⟨Φ++D,wW W1,kx_in W1 W2,List.subset_append_left _ _,by rw[←List.append_assoc];exact H.callE Hc⟩
theorem mergeS0(H:HL W s0 s (Φ) n)(Hc:HL [] s s' D k):∃Φ',KLe (KX K Φ) (KX K Φ')∧KLe (KX (KX K Φ) D) (KX K Φ')∧Φ⊆Φ'∧HL W s0 s' (Φ') (n+k):=mergeS [] H Hc
theorem mergeS5(H:HL W s0 s (p0::p1::p2::p3::p4::Φ) n)(Hc:HL [] s s' D k):∃Φ',KLe (KX K Φ) (KX K Φ')∧KLe (KX (KX K Φ) D) (KX K Φ')∧Φ⊆Φ'∧HL W s0 s' (p0::p1::p2::p3::p4::Φ') (n+k):=mergeS [p0,p1,p2,p3,p4] H Hc
theorem mergeS9(H:HL W s0 s (p0::p1::p2::p3::p4::p5::p6::p7::p8::Φ) n)(Hc:HL [] s s' D k):∃Φ',KLe (KX K Φ) (KX K Φ')∧KLe (KX (KX K Φ) D) (KX K Φ')∧Φ⊆Φ'∧HL W s0 s' (p0::p1::p2::p3::p4::p5::p6::p7::p8::Φ') (n+k):=mergeS [p0,p1,p2,p3,p4,p5,p6,p7,p8] H Hc
theorem mergeS10(H:HL W s0 s (p0::p1::p2::p3::p4::p5::p6::p7::p8::p9::Φ) n)(Hc:HL [] s s' D k):∃Φ',KLe (KX K Φ) (KX K Φ')∧KLe (KX (KX K Φ) D) (KX K Φ')∧Φ⊆Φ'∧HL W s0 s' (p0::p1::p2::p3::p4::p5::p6::p7::p8::p9::Φ') (n+k):=mergeS [p0,p1,p2,p3,p4,p5,p6,p7,p8,p9] H Hc
theorem mergeS11{p10:Nat×MObj}(H:HL W s0 s (p0::p1::p2::p3::p4::p5::p6::p7::p8::p9::p10::Φ) n)(Hc:HL [] s s' D k):∃Φ',KLe (KX K Φ) (KX K Φ')∧KLe (KX (KX K Φ) D) (KX K Φ')∧Φ⊆Φ'∧HL W s0 s' (p0::p1::p2::p3::p4::p5::p6::p7::p8::p9::p10::Φ') (n+k):=mergeS [p0,p1,p2,p3,p4,p5,p6,p7,p8,p9,p10] H Hc
end
section
variable{P:Program}{I:xP}{F:FF}{s:St}{Post:Value→St→Prop}
theorem end_cct{ty ty2:TypeId}{off n b2 off2 n2:Nat}{c2 l2:List Value}(hs:qw P ty=some (some n))(hx:F t=.pointer (some ⟨b,off,none⟩))(hg:s.get b=some (.cells c e))(hc:qX n (kw off c)=some l)
  (hs2:qw P ty2=some (some n2)) (hx2:F t2=.pointer (some ⟨b2,off2,none⟩)) (hg2:s.get b2=some (.cells c2 e2)) (hc2:qX n2 (kw off2 c2)=some l2) (h3:F t3=v) (h:Post (.tuple ⟨[.agg ⟨l⟩,.agg ⟨l2⟩,v]⟩) s) :
  endQ P [.cell t ty,.cell t2 ty2,.tmp t3] Post F s:=by
 constructor
 simp only[vD,loadN_of hs hx hg hc,loadN_of hs2 hx2 hg2 hc2,h3]
 exact h
theorem jk{w x:Value}(h1:F t=v)(h2:F t2=w)(h3:F t3=x)(h:Post (.tuple ⟨[v,w,x]⟩) s):endQ P [.tmp t,.tmp t2,.tmp t3] Post F s:=by
 constructor
 simp only[vD,h1,h2,h3]
 exact h
end
section
variable{P:Program}{I:xP}{F:FF}{s:St}{Q:FF→St→Prop}{d:Option Tmp}{ty:TypeId}{pos:String}{af:Array Edge}{g:Option (Nat×Bool)}
variable{W:List Nat}{s0:St}{L:Hp'}{n:Nat}
theorem op_appendEven{args:Array Operand}{ts:Array TypeId}{t t2:TypeId}{tr:List TypeId}{x y:Operand}{sz by_ m len cap:Nat}{z:List Value}(H:HL W s0 s L n)(hs:q6 P t=some (e,sz,by_,z))(hu2:P.underlying t2=some (.slice e2))
  (ht:ts.toList=t::t2::tr) (ha:args.toList=[x,y]) (hx:yQ F x=.slice (some ⟨b,0,none⟩) len cap) (he:jC s sz (yQ F y) m l) (hg:s.get b=some (.cells c e)) (hlen:len*sz=c.length) (hcap:cap / 2<len+m) (hev:cap % 2=0) (hp:l.all Go.M.plainCell=true) (hl:l.length=m*sz) (hb:(len+m)*(by_+1)≤1073741824) (hr:s0.next+n<yC)
  (k:∀b' s',HL W s0 s' ((b',.cells (c++l) e)::L) (n+1)→Q (upd F d (.slice (some ⟨b',0,none⟩) (len+m) (2*(len+m)+1))) s'):OpW P I ⟨d,.call ⟨.builtin .append,args,ts⟩,ty,pos,af,g⟩ F s Q:=by
 refine qf ?_ (k _ _ (H.new _ hr))
 simp only[yX,kO,ha,vJ,hx]
 obtain⟨hu,inf,z',hi,rfl,rfl,hz,hz1,hz2⟩:=kz hs
 have hf:Nat.ble (len+m) (cap / 2)=false:=by
  rw[Bool.eq_false_iff];intro h;have:=Nat.le_of_ble_eq_true h;omega
 have hgrow:growB inf (len+m) m l=true:=growB_ok (t:=t) (e:=e) hz1 hz2 hb hp hl
 have hfirst:vX inf.size len (.slice (some ⟨b,0,none⟩) len cap) s=some c:=(jy (cap:=cap) hg hlen).2
 have hrow:rowB e (some ⟨b,0,none⟩) cap s=true:=by
  simp only[rowB,hg,Nat.beq_refl]
  split<;>rfl
 rw[ht]
 simp only[wV,hu,hi,newL_ok hu2 he,jI,hf,hgrow,hrow,Bool.and_self,hfirst,growM,killM,hev,newS,H.room hr,if_true]
 rfl
end
section
variable{P:Program}{I:xP}{f:FuncId}{args:Array Value}{s:St}{Q:Value→St→Prop}{k:Nat}
theorem callJ{n:Int}(h:∃v s',xN P I f args s v s'∧∃j:Nat,(j:Int)<n∧v=.int .i64 (j:Int)∧s'=s)(c:∀j:Nat,(j:Int)<n→Q (.int .i64 (j:Int)) s):∃v s',xN P I f args s v s'∧Q v s':=by
 obtain⟨v,s',hr,j,hj,rfl,rfl⟩:=h
 exact⟨_,_,hr,c j hj⟩
end
theorem pts_all(P:List (Int×Int)):∀x∈P.map pt,x.length=2:=fun x hx=>by
 obtain⟨p,_,rfl⟩:=List.mem_map.mp hx
 rfl
theorem pts_plain:∀P:List (Int×Int),(P.map pt).flatten.all Go.M.plainCell=true
 | []=>rfl
 |p::P=>by rw[List.map_cons,List.flatten_cons,List.all_append,pts_plain P];rfl
theorem pts_len(P:List (Int×Int)):(P.map pt).flatten.length=P.length*2:=by rw[flat_len (pts_all P),List.length_map]
theorem SlG.blk{D:Hp'}{e:TypeId}{sz:Nat}{v:Value}{es:List (List Value)}(h:SlG D e sz v es)(h0:0<es.length):∃b off cap c,v=.slice (some ⟨b,off,none⟩) es.length cap∧(b,MObj.cells c e)∈D∧∀k:Nat,k<es.length→qX sz (kw (off+(k:Int).toNat*sz) c)=some (es.getD k []):=by
 cases h with
 |nil c hv hl=>rw[hl]at h0;simp at h0
 |block b off cap c hv hg hcap hc=>exact⟨b,off,cap,c,hv,hg,hc⟩
set_option maxHeartbeats 4000000 in
set_option maxRecDepth 10000 in
theorem plain12_ok{I:xP}(hI:xA I){s:St}(hf:Fine s){K:Kw}(hK:Kn s K){id:Int}{va:Value}{P:List (Int×Int)}(hp:SlP s va P)(h0:0<P.length)(h12:P.length≤12)(hroom:s.next+4000≤yC) :
  ∃v' s',xN Tryz.prog I 35 #[.int .i64 id,va] s v' s'∧(∃D bR bW bM n1 a1 m1 c1 n2 a2 m2 c2 n3 a3 m3 c3 n4 a4 m4 c4 n5 a5 m5 c5 n6 a6 m6 c6,v'=.agg ⟨[.int .i64 id,.int .i64 0,.slice (some ⟨bR,0,none⟩) P.length (2*P.length+1),.slice (some ⟨bW,0,none⟩) P.length (2*P.length),.slice (some ⟨bM,0,none⟩) P.length (2*P.length),.bool false,.slice none 0 0,.bool false,.slice none 0 0,.bool n1,.slice a1 m1 c1,.bool n2,.slice a2 m2 c2,.bool n1,.slice a1 m1 c1,.bool n2,.slice a2 m2 c2,.bool n3,.slice a3 m3 c3,.bool n4,.slice a4 m4 c4,.bool n5,.slice a5 m5 c5,.bool n6,.slice a6 m6 c6]⟩ ∧
   HL [] s s' D 4000∧(bR,MObj.cells (P.map pt).flatten 77)∈D∧RatK (KX K D) n1 a1 m1 c1 n2 a2 m2 c2 1 1 1):=by
 have H:=hf.hl
 obtain⟨a,len,cap,rfl,hn⟩:=hp.isSlice
 rw[List.length_map]at hn
 subst hn
 have hel:=hp.elems (pts_all P) U
 rw[List.length_map]at hel
 have hpl:=pts_len P
 refine zX 2 (hI 35 U U) Tryz.func35 J fb35 J ?_
 refine zE (zS H zf72 O (fun b4 s1 H=>?_))
 refine zD (zE (zF J fc20 J (qe (wS hI H.fine (p:=1) (q:=1) (N:=1) (M:=1) U U U U U (kn1 hK H) Z) (fun s9 D9 n1 a1 m1 c1 n1d a1d m1d c1d Hc h101=>?_))))
 obtain⟨Φ,ku,kd,H⟩:=ko (K:=K) H Hc
 replace h101:=h101.mono kd
 clear Hc ku kd
 refine zS H wB O (fun b5 s2 H=>?_)
 refine zT (vs:=[.bool _,.slice _ _ _,.bool _,.slice _ _ _]) H kb J J J J J O (fun s3 H=>?_)
 refine zD (yT [⟨0,0,.light,[4,5]⟩,⟨2,0,.light,[4,5]⟩,⟨4,0,.light,[5]⟩,⟨5,0,.light,[4]⟩,⟨1,0,.fresh,[4,5]⟩,⟨3,6,.fresh,[4,5]⟩,⟨6,14,.fresh,[4,5]⟩,⟨7,78,.fresh,[4,5]⟩,⟨8,255,.light,[]⟩,⟨9,0,.fresh,[4,5]⟩,⟨10,1023,.whole,[]⟩] Z0 Z0 (zA J J (zC J ⟨J,(zA J J (zH J ⟨J,(zQ J J xC J H.own0 Y0 J (zQ J J xC J H.own0 Y0 J (yK J J (yS (c:=[]) (Fine.fresh H.fine).hl sl69 J J (H.rm (k:=1) O) (fun b9 s4 Hc=>?_)))))⟩))⟩)))
 have H:=H.call X6
 clear Hc
 refine yK J J (op_appendEven (Fine.fresh H.fine).hl sl69 un69 J J J (Sl.elems ((hp.kept H).heap J Z3) (pts_all P) U) H.own0 J V4 J (pts_plain P) (by rw[List.length_map];exact hpl) V4 (H.rm (k:=1) O) (fun b11 s11 Hc=>?_))
 rw[List.length_map,Nat.zero_add,List.nil_append]at *
 have H:=H.call X6
 clear Hc
 refine yK J J (zF J fc20 J (qe (wS hI Y9 (N:=100) (M:=2) U U U U U X4 Z) (fun s9 D9 n2 a2 m2 c2 n2d a2d m2d c2d Hc h102=>?_)))
 have Hc:=HL.wider H.fine H.fine.wfb Z7 Hc
 obtain⟨Φ,ku,kd,H⟩:=kj (K:=K) H Hc
 try replace h101:=h101.mono ku
 clear Hc ku kd
 refine yK J J (zF J fc20 J (qe (wS hI Y9 (N:=100) (M:=2) U U U U U X4 Z) (fun s9 D9 n3 a3 m3 c3 n3d a3d m3d c3d Hc h103=>?_)))
 have Hc:=HL.wider H.fine H.fine.wfb Z7 Hc
 obtain⟨Φ,ku,kd,H⟩:=kj (K:=K) H Hc
 try replace h101:=h101.mono ku
 clear Hc ku kd
 refine zA J J (xE (c:=[.int _ _,.int _ _,.slice _ _ _,.slice _ _ _,.slice _ _ _,.bool _,.slice _ _ _,.bool _,.slice _ _ _,.bool _,.slice _ _ _,.bool _,.slice _ _ _,.bool _,.slice _ _ _,.bool _,.slice _ _ _,.bool _,.slice _ _ _,.bool _,.slice _ _ _,.bool _,.slice _ _ _,.bool _,.slice _ _ _]) bf72 J ⟨J,(yK J J (zS (Fine.fresh H.fine).hl zf72 (H.rm (k:=1) O) (fun b6 s5 Hc=>?_)))⟩)
 have H:=H.call X6
 clear Hc
 refine xM (vs:=[.int _ _,.int _ _,.slice _ _ _,.slice _ _ _,.slice _ _ _,.bool _,.slice _ _ _,.bool _,.slice _ _ _,.bool _,.slice _ _ _,.bool _,.slice _ _ _,.bool _,.slice _ _ _,.bool _,.slice _ _ _,.bool _,.slice _ _ _,.bool _,.slice _ _ _,.bool _,.slice _ _ _,.bool _,.slice _ _ _]) (fr:=[]) H J J sz72 J J J J J J Z2 O (fun s6 H=>?_)
 refine zU (zE (zH J (yF un69 J J J (kW (a:=P.length) (b:=P.length) H sl70 J J Z3 O O (fun b19 s19 H=>?_)))))
 refine zB of72_3 J (qu (vs:=[.slice _ _ _]) H sz70 J J J J J O (fun s7 H=>?_))
 refine zD (zE (zH J (yF un69 J J J (kW (a:=P.length) (b:=P.length) H kg J J Z3 O O (fun b23 s23 H=>?_)))))
 refine zB of72_4 J (vQ (vs:=[.slice _ _ _]) H sz22 J J J J J O (fun s8 H=>?_))
 refine zD (zE (zN sh72 J H.own2 J (op_store6 (vs:=[.int _ _,.int _ _,.slice _ _ _,.slice _ _ _,.slice _ _ _,.bool _,.slice _ _ _,.bool _,.slice _ _ _,.bool _,.slice _ _ _,.bool _,.slice _ _ _,.bool _,.slice _ _ _,.bool _,.slice _ _ _,.bool _,.slice _ _ _,.bool _,.slice _ _ _,.bool _,.slice _ _ _,.bool _,.slice _ _ _]) H sz72 J J J J J O (fun s9 H=>?_))))
 refine zD (yO (yB (yP sh72 J H.own6 J ?_)))
 exact⟨(b11,_)::Φ,b11,b19,b23,_,_,_,_,_,_,_,_,_,_,_,_,_,_,_,_,_,_,_,_,_,_,_,_,J,(H.sub (.cons _ (.cons _ (.cons _ (.cons_cons _ (.cons _ (.cons _ (.cons _ (.refl _))))))))).up O,by simp,((h101.eq (by rw[jA];rfl)).mono (wW (List.subset_cons_self _ _)))⟩
end Go.Proofs.YtocnbjjmmgolfaaGreat
namespace Go.Proofs.YtocnbjjmmgolfaaGreat
open Go Go.M Go.Proofs.C14
theorem fb171:xK Tryz.f171 (Tryz.f171.body.getD .skip) 3=true:=by kernel_rfl
theorem of40_2:wZ Tryz.prog 40 2=some 2:=by kernel_rfl
theorem of40_3:wZ Tryz.prog 40 3=some 3:=by kernel_rfl
theorem of40_4:wZ Tryz.prog 40 4=some 4:=by kernel_rfl
theorem fb101:xK Tryz.f101 (Tryz.f101.body.getD .skip) 3=true:=by kernel_rfl
theorem fc171:xJ Tryz.prog 171=true:=by kernel_rfl
theorem fc172:xJ Tryz.prog 172=true:=by kernel_rfl
theorem fc19:xJ Tryz.prog 19=true:=by kernel_rfl
theorem fc40:xJ Tryz.prog 40=true:=by kernel_rfl
theorem fc54:xJ Tryz.prog 54=true:=by kernel_rfl
theorem of40_5:wZ Tryz.prog 40 5=some 5:=by kernel_rfl
theorem of72_5:wZ Tryz.prog 72 5=some 5:=by kernel_rfl
theorem sh40:qw Tryz.prog 40=some (some 29):=by kernel_rfl
variable{p0 p1 p2 p3:Nat×MObj}{b ca cb:Nat}{c:List Value}{e:TypeId}{xa0 xa1 xa3 xa4 xb0 xb1 xb3 xb4 ya0 ya1 ya10 ya11 ya12 ya13 ya14 ya15 ya2 ya3 ya4 ya5 ya6 ya7 ya8 ya9 yb0 yb1 yb10 yb11 yb12 yb13 yb14 yb15 yb2 yb3 yb4 yb5 yb6 yb7 yb8 yb9 z0 z1 z10 z11 z12 z13 z14 z15 z2 z3 z4 z5 z6 z7 z8 z9:Value}{aa ab:Option Addr}{ea eb fa fb:Int}
section
variable{W:List Nat}{s0 s s':St}{Φ D:Hp'}{K:Kw}{n k:Nat}
theorem mergeT(A:Hp')(H:HL W s0 s (A++Φ) n)(Hc:HL [] s s' D k):∃Φ',KLe (KX K Φ) (KX K Φ')∧KLe (KX (KX K Φ) D) (KX K Φ')∧Φ⊆Φ'∧D⊆Φ'∧HL W s0 s' (A++Φ') (n+k):=
 ⟨Φ++D,wW W1,kx_in W1 W2,List.subset_append_left _ _,List.subset_append_right _ _,by rw[←List.append_assoc];exact H.callE Hc⟩
theorem mergeT0(H:HL W s0 s (Φ) n)(Hc:HL [] s s' D k):∃Φ',KLe (KX K Φ) (KX K Φ')∧KLe (KX (KX K Φ) D) (KX K Φ')∧Φ⊆Φ'∧D⊆Φ'∧HL W s0 s' (Φ') (n+k):=mergeT [] H Hc
theorem mergeT1(H:HL W s0 s (p0::Φ) n)(Hc:HL [] s s' D k):∃Φ',KLe (KX K Φ) (KX K Φ')∧KLe (KX (KX K Φ) D) (KX K Φ')∧Φ⊆Φ'∧D⊆Φ'∧HL W s0 s' (p0::Φ') (n+k):=mergeT [p0] H Hc
theorem mergeT2(H:HL W s0 s (p0::p1::Φ) n)(Hc:HL [] s s' D k):∃Φ',KLe (KX K Φ) (KX K Φ')∧KLe (KX (KX K Φ) D) (KX K Φ')∧Φ⊆Φ'∧D⊆Φ'∧HL W s0 s' (p0::p1::Φ') (n+k):=mergeT [p0,p1] H Hc
theorem mergeT5{p4:Nat×MObj}(H:HL W s0 s (p0::p1::p2::p3::p4::Φ) n)(Hc:HL [] s s' D k):∃Φ',KLe (KX K Φ) (KX K Φ')∧KLe (KX (KX K Φ) D) (KX K Φ')∧Φ⊆Φ'∧D⊆Φ'∧HL W s0 s' (p0::p1::p2::p3::p4::Φ') (n+k):=mergeT [p0,p1,p2,p3,p4] H Hc
end
def normQ(R:FF→St→Prop):FOut→Prop
 | .normal F s=>R F s
 |_=>False
theorem vW{R:FF→St→Prop}{F:FF}{s:St}(h:R F s):normQ R (.normal F s):=h
section
variable{P:Program}{I:xP}{x z:Code}{F:FF}{s s0:St}{Q:FOut→Prop}{W:List Nat}{L:Hp'}{n:Nat}
theorem cw_mid(R:FF→St→Prop)(h:CodeW P I x F s (normQ R))(k:∀F2 s2,R F2 s2→CodeW P I z F2 s2 Q):CodeW P I (.seq x z) F s Q:=by
 refine yE (h.mono fun o ho=>?_)
 cases o with
 |normal F2 s2=>exact k F2 s2 ho
 |_=>exact ho.elim
theorem cw_mid3(H:HL W s0 s (p0::p1::p2::(b,.cells c e)::L) n)(k0:Nat)(R:List Value→Prop)(l:List (Nat×Value))(h:CodeW P I x F s (normQ fun F2 s2=>(∃c',HL W s0 s2 (p0::p1::p2::(b,.cells c' e)::L) (n+k0)∧R c')∧Slots F2 l))
  (k:∀G s2 c',HL W s0 s2 (p0::p1::p2::(b,.cells c' e)::L) (n+k0)→R c'→CodeW P I z (lay G l) s2 Q):CodeW P I (.seq x z) F s Q:=
 cw_mid _ h fun F2 s2 ⟨⟨c',h1,h2⟩,h3⟩=>by
  have:=k F2 s2 c' h1 h2
  rwa[lay_self h3]at this
theorem cw_mid4(H:HL W s0 s (p0::p1::p2::p3::(b,.cells c e)::L) n)(k0:Nat)(R:List Value→Prop)(l:List (Nat×Value))(h:CodeW P I x F s (normQ fun F2 s2=>(∃c',HL W s0 s2 (p0::p1::p2::p3::(b,.cells c' e)::L) (n+k0)∧R c')∧Slots F2 l))
  (k:∀G s2 c',HL W s0 s2 (p0::p1::p2::p3::(b,.cells c' e)::L) (n+k0)→R c'→CodeW P I z (lay G l) s2 Q):CodeW P I (.seq x z) F s Q:=
 cw_mid _ h fun F2 s2 ⟨⟨c',h1,h2⟩,h3⟩=>by
  have:=k F2 s2 c' h1 h2
  rwa[lay_self h3]at this
end
set_option maxHeartbeats 4000000 in
set_option maxRecDepth 10000 in
theorem stretch13_ok{I:xP}(hI:xA I){s:St}(hf:Fine s){n1:Bool}{a1:Option Addr}{m1 c1:Nat}{n2:Bool}{a2:Option Addr}{m2 c2:Nat}{n3:Bool}{a3:Option Addr}{m3 c3:Nat}{n4:Bool}{a4:Option Addr}{m4 c4:Nat}{n5:Bool}{a5:Option Addr}{m5 c5:Nat}{n6:Bool}{a6:Option Addr}{m6 c6:Nat}{n7:Bool}{a7:Option Addr}{m7 c7:Nat}{n8:Bool}{a8:Option Addr}{m8 c8:Nat}(he0:0≤ea)(he3:ea≤3)(hb0:0≤eb)(hb3:eb≤3)(hroom:s.next+10≤yC) :
  ∃v' s',xN Tryz.prog I 171 #[.agg ⟨[xa0,xa1,.slice aa 4 ca,xa3,xa4,.bool n1,.slice a1 m1 c1,.bool n2,.slice a2 m2 c2,ya0,ya1,ya2,ya3,ya4,ya5,ya6,ya7,ya8,ya9,ya10,ya11,ya12,ya13,ya14,ya15]⟩,.agg ⟨[xb0,xb1,.slice ab 4 cb,xb3,xb4,.bool n3,.slice a3 m3 c3,.bool n4,.slice a4 m4 c4,yb0,yb1,yb2,yb3,yb4,yb5,yb6,yb7,yb8,yb9,yb10,yb11,yb12,yb13,yb14,yb15]⟩,.agg ⟨[.int .i64 fa,.int .i64 fb,.int .i64 ea,.int .i64 eb,.int .i64 1,.bool n5,.slice a5 m5 c5,.bool n6,.slice a6 m6 c6,.bool n7,.slice a7 m7 c7,.bool n8,.slice a8 m8 c8,z0,z1,z2,z3,z4,z5,z6,z7,z8,z9,z10,z11,z12,z13,z14,z15]⟩] s v' s'∧qQ s 10 (.bool true) v' s':=by
 have H:=hf.hl
 refine zX 3 (hI 171 U U) Tryz.func171 J fb171 J ?_
 refine zE (zY H J O (fun b3 s1 H=>?_))
 refine zY H J O (fun b4 s2 H=>?_)
 refine zY H J O (fun b5 s3 H=>?_)
 refine zG (zD (zE (zB of72_2 J (zJ sh69 J H.own2 J (yF un69 J J J (zL J (zD (zE (zB of72_2 J (zJ sh69 J H.own1 J (yF un69 J J J ?_)))))))))))
 refine zL J (zD (zE (zB of40_2 J (zJ sh3 J H.own0 J ?_))))
 refine k7 J J (fun h=>?_) Y6
 refine zI J (zB of40_2 J (zJ sh3 J H.own0 J (zC J ?_)))
 refine xB J J (fun h=>?_) Y6
 refine yD J J (zI J (zB of40_3 J (zJ sh3 J H.own0 J ?_)))
 refine k7 J J (fun h=>?_) Y6
 refine yD J J (zI J (zB of40_3 J (zJ sh3 J H.own0 J (zC J ?_))))
 refine xB J J (fun h=>?_) Y6
 refine yD J J (zI J (zB of40_4 J (zJ sh3 J H.own0 J ?_)))
 refine k7 J J (fun h=>?_) Y6
 refine yD J J (zI J (zB of40_4 J (zJ sh3 J H.own0 J (zC J ?_))))
 refine xB J J (fun h=>?_) Y6
 refine yD J J (zI J (zB of40_4 J (zJ sh3 J H.own0 J (zC J ?_))))
 refine xB J J (fun h=>?_) Y6
 refine yD J J (zK J (zD (yO (yB (yV ?_)))))
 exact⟨J,(H.sub Z9).up O⟩
set_option maxHeartbeats 4000000 in
set_option maxRecDepth 10000 in
theorem agree13_ok{I:xP}(hI:xA I){s:St}(hf:Fine s){K:Kw}(hK:Kn s K){n41:Bool}{a41:Option Addr}{m41 c41:Nat}{n42:Bool}{a42:Option Addr}{m42 c42:Nat}{n43:Bool}{a43:Option Addr}{m43 c43:Nat}{n44:Bool}{a44:Option Addr}{m44 c44:Nat}{n45:Bool}{a45:Option Addr}{m45 c45:Nat}{n46:Bool}{a46:Option Addr}{m46 c46:Nat}{n47:Bool}{a47:Option Addr}{m47 c47:Nat}{n48:Bool}{a48:Option Addr}{m48 c48:Nat}(he0:0≤ea)(he3:ea≤3)(hb0:0≤eb)(hb3:eb≤3){Pa Pb:List (Int×Int)}(hpa:SlP s (.slice aa 4 ca) Pa)(hsa:Sml 16 Pa)(hla:Pa.length=4)(hpb:SlP s (.slice ab 4 cb) Pb)(hsb:Sml 16 Pb)(hlb:Pb.length=4){tq tr:Rat}(ta:RatK K n41 a41 m41 c41 n42 a42 m42 c42 tq 2 4)(tb:RatK K n43 a43 m43 c43 n44 a44 m44 c44 tr 2 4){p q:Rat}(hx:RatK K n45 a45 m45 c45 n46 a46 m46 c46 p 1 1)(hy:RatK K n47 a47 m47 c47 n48 a48 m48 c48 q 1 1)(ht:p*p+q*q=1)(hroom:s.next+1000000≤yC) :
  ∃v' s',xN Tryz.prog I 101 #[.agg ⟨[xa0,xa1,.slice aa 4 ca,xa3,xa4,.bool n41,.slice a41 m41 c41,.bool n42,.slice a42 m42 c42,ya0,ya1,ya2,ya3,ya4,ya5,ya6,ya7,ya8,ya9,ya10,ya11,ya12,ya13,ya14,ya15]⟩,.agg ⟨[xb0,xb1,.slice ab 4 cb,xb3,xb4,.bool n43,.slice a43 m43 c43,.bool n44,.slice a44 m44 c44,yb0,yb1,yb2,yb3,yb4,yb5,yb6,yb7,yb8,yb9,yb10,yb11,yb12,yb13,yb14,yb15]⟩,.agg ⟨[.int .i64 fa,.int .i64 fb,.int .i64 ea,.int .i64 eb,.int .i64 1,.bool n45,.slice a45 m45 c45,.bool n46,.slice a46 m46 c46,.bool n47,.slice a47 m47 c47,.bool n48,.slice a48 m48 c48,z0,z1,z2,z3,z4,z5,z6,z7,z8,z9,z10,z11,z12,z13,z14,z15]⟩] s v' s'∧(∃D lo hi b q1 r1 q2 r2,v'=.tuple ⟨[.agg ⟨lo⟩,.agg ⟨hi⟩,.bool b]⟩∧HL [] s s' D 1000000∧VecK (KX K D) lo q1 r1 1000 1000∧VecK (KX K D) hi q2 r2 1000 1000):=by
 rw[Nat.add_comm]at hroom
 have H:=hf.hl
 have hTa:=ta.mono (zZ (D:=[]))
 have hTb:=tb.mono (zZ (D:=[]))
 have hQ1:=hx.mono (zZ (D:=[]))
 have hQ2:=hy.mono (zZ (D:=[]))
 have hq1:=hQ1.le (N':=25) (M':=25) U U
 have hq2:=hQ2.le (N':=25) (M':=25) U U
 refine zX 3 (hI 101 U U) Tryz.func101 J fb101 J ?_
 refine zE (zY H J O (fun b3 s1 H=>?_))
 refine zY H J O (fun b4 s2 H=>?_)
 refine zY H J O (fun b5 s3 H=>?_)
 refine zS H zf38 O (fun b6 s4 H=>?_)
 refine zS H zf38 O (fun b7 s5 H=>?_)
 refine zG (zD (yE (zE (zN sh72 J H.own4 J (zN sh72 J H.own3 J (zN sh40 J H.own2 J (zF J fc171 J (callE (stretch13_ok hI H.fine he0 he3 hb0 hb3 Z) (fun s9 Hc=>?_)))))))))
 have H:=H.call0 Hc
 clear Hc
 refine qt J (zI J (zB of40_5 J (zN kU J H.own2 J (zF J fc54 J (callE (valid05_ok hI H.fine (kn5 hK H) hq1 hq2 ht Z) (fun s9 Hc=>?_))))))
 have H:=H.call0 Hc
 clear Hc
 refine qt J (yG J J (zD (yL rfl (yN (zR (zE (zN sh72 J H.own4 J (zF J fc93 J ?_))))))))
 obtain⟨va,s9,hr,D9,vsa,Hc,hsl9,hvsa,hvla⟩:=rim12_ok hI H.fine (kn5 hK H) (hpa.kept H) hsa O Y7
 refine⟨_,_,hr,?_⟩
 clear hr
 rw[hla]at hvla
 obtain⟨ba,offa,capa,cla,rfl,hma,hcxa⟩:=hsl9.blk O
 rw[hvla]
 obtain⟨Φ,ku,kd,hS,hDS,H⟩:=mergeT5 (K:=K) H Hc
 try replace hTa:=hTa.mono ku
 try replace hTb:=hTb.mono ku
 try replace hQ1:=hQ1.mono ku
 try replace hQ2:=hQ2.mono ku
 try replace hvsa:=hvsa.mono ku
 try replace h103:=h103.mono ku
 replace hvsa:=hvsa.mono kd
 skip
 replace hma:=hDS hma
 clear Hc ku kd hS hDS
 refine yU J (zD (zE (zN sh72 J H.own3 J (zF J fc93 J ?_))))
 obtain⟨vb,s9,hr,D9,vsb,Hc,hsl9,hvsb,hvlb⟩:=rim12_ok hI H.fine (kn5 hK H) (hpb.kept H) hsb O Y7
 refine⟨_,_,hr,?_⟩
 clear hr
 rw[hlb]at hvlb
 obtain⟨bb,offb,capb,clb,rfl,hmb,hcxb⟩:=hsl9.blk O
 rw[hvlb]
 obtain⟨Φ,ku,kd,hS,hDS,H⟩:=mergeT5 (K:=K) H Hc
 try replace hTa:=hTa.mono ku
 try replace hTb:=hTb.mono ku
 try replace hQ1:=hQ1.mono ku
 try replace hQ2:=hQ2.mono ku
 try replace hvsa:=hvsa.mono ku
 try replace h103:=h103.mono ku
 replace hvsb:=hvsb.mono kd
 replace hma:=hS hma
 replace hmb:=hDS hmb
 clear Hc ku kd hS hDS
 refine yU J (zD (zE (zB of72_5 J (zN xC J H.own4 J (zB of72_5 J (zN xC J H.own3 J (zF J fc36 J (qe (wQ hI H.fine (kn5 hK H) hTa hTb U U Z) (fun s9 D9 n3 a3 m3 c3 n3d a3d m3d c3d Hc h103=>?_)))))))))
 obtain⟨Φ,ku,kd,hS,H⟩:=mergeS5 (K:=K) H Hc
 try (first|replace hma:=hS hma|replace hma:=hma.mono hS)
 try (first|replace hmb:=hS hmb|replace hmb:=hmb.mono hS)
 clear hS
 try replace hQ1:=hQ1.mono ku
 try replace hQ2:=hQ2.mono ku
 try replace hvsa:=hvsa.mono ku
 try replace hvsb:=hvsb.mono ku
 replace h103:=h103.mono kd
 clear Hc ku kd
 refine zS H wB O (fun b11 s6 H=>?_)
 refine zT (vs:=[.bool _,.slice _ _ _,.bool _,.slice _ _ _]) H kb J J J J J O (fun s7 H=>?_)
 refine zD (zE (zN xC J H.own0 J (zN xC J H.own0 J (xE (c:=[.bool _,.slice _ _ _,.bool _,.slice _ _ _,.bool _,.slice _ _ _,.bool _,.slice _ _ _]) bf38 J (zS H zf38 O (fun b12 s8 H=>?_))))))
 refine zT (vs:=[.bool _,.slice _ _ _,.bool _,.slice _ _ _,.bool _,.slice _ _ _,.bool _,.slice _ _ _]) H sz38 J J J J J O (fun s9 H=>?_)
 refine zD (zE (zS H zf38 O (fun b13 s10 H=>?_)))
 refine zS H zf38 O (fun b14 s11 H=>?_)
 refine zD (yE (zE (zG (zD (yR (xR (fun k F s1=>∃(G:FF) (i m:Nat) (Φ:Hp') (clo chi:List Value),F=lay G [(3,.pointer (some ⟨b3,0,none⟩)),(4,.pointer (some ⟨b4,0,none⟩)),(5,.pointer (some ⟨b5,0,none⟩)),(6,.pointer (some ⟨b6,0,none⟩)),(7,.pointer (some ⟨b7,0,none⟩)),(8,.bool false),(9,.slice (some ⟨ba,offa,none⟩) 4 capa),(10,.slice (some ⟨bb,offb,none⟩) 4 capb),(12,.pointer (some ⟨b12,0,none⟩)),(13,.pointer (some ⟨b13,0,none⟩)),(14,.pointer (some ⟨b14,0,none⟩)),(15,.int .i64 (i:Int))]∧HL [] s s1 ((b14,.cells chi 38)::(b13,.cells clo 38)::(b12,.cells [.bool n3,.slice a3 m3 c3,.bool n3d,.slice a3d m3d c3d,.bool n3,.slice a3 m3 c3,.bool n3d,.slice a3d m3d c3d] 38)::(b11,.cells [.bool n3,.slice a3 m3 c3,.bool n3d,.slice a3d m3d c3d] 34)::(b7,.cells [.bool false,.slice none 0 0,.bool false,.slice none 0 0,.bool false,.slice none 0 0,.bool false,.slice none 0 0] 38)::(b6,.cells [.bool false,.slice none 0 0,.bool false,.slice none 0 0,.bool false,.slice none 0 0,.bool false,.slice none 0 0] 38)::(b5,.cells [.int .i64 fa,.int .i64 fb,.int .i64 ea,.int .i64 eb,.int .i64 1,.bool n45,.slice a45 m45 c45,.bool n46,.slice a46 m46 c46,.bool n47,.slice a47 m47 c47,.bool n48,.slice a48 m48 c48,z0,z1,z2,z3,z4,z5,z6,z7,z8,z9,z10,z11,z12,z13,z14,z15] 40)::(b4,.cells [xb0,xb1,.slice ab 4 cb,xb3,xb4,.bool n43,.slice a43 m43 c43,.bool n44,.slice a44 m44 c44,yb0,yb1,yb2,yb3,yb4,yb5,yb6,yb7,yb8,yb9,yb10,yb11,yb12,yb13,yb14,yb15] 72)::(b3,.cells [xa0,xa1,.slice aa 4 ca,xa3,xa4,.bool n41,.slice a41 m41 c41,.bool n42,.slice a42 m42 c42,ya0,ya1,ya2,ya3,ya4,ya5,ya6,ya7,ya8,ya9,ya10,ya11,ya12,ya13,ya14,ya15] 72)::Φ) m∧m≤200000+i*300000∧i≤2∧k=2-i∧RatK (KX K Φ) n45 a45 m45 c45 n46 a46 m46 c46 p 1 1∧RatK (KX K Φ) n47 a47 m47 c47 n48 a48 m48 c48 q 1 1∧RatK (KX K Φ) n3 a3 m3 c3 n3d a3d m3d c3d (tq+tr) 16 16∧VecsK (KX K Φ) vsa 16 1∧VecsK (KX K Φ) vsb 16 1∧(ba,MObj.cells cla 38)∈Φ∧(bb,MObj.cells clb 38)∈Φ∧(∃q r,VecK (KX K Φ) clo q r 784 16)∧(∃q r,VecK (KX K Φ) chi q r 784 16)) ?_ 2 _ _ ?_))))))
 rotate_left
 ·exact⟨_,0,_,Φ,_,_,yZ ⟨J,J,J,J,J,J,J,J,J,J,J,J,trivial⟩,H,by omega,by omega,by omega,hQ1,hQ2,h103,hvsa,hvsb,hma,hmb,⟨_,_,VecK.of (RatK.nil.le U U) (RatK.nil.le U U)⟩,⟨_,_,VecK.of (RatK.nil.le U U) (RatK.nil.le U U)⟩⟩
 rintro k F s1 ⟨G,i,m,Φ,clo,chi,rfl,H,hm,hi,rfl,hQ1,hQ2,h103,hvsa,hvsb,hma,hmb,hlo,hhi⟩
 obtain⟨_,_,nlo1,alo1,mlo1,clo1,nlo2,alo2,mlo2,clo2,nlo3,alo3,mlo3,clo3,nlo4,alo4,mlo4,clo4,rfl,hloX,hloY⟩:=hlo
 obtain⟨_,_,nhi1,ahi1,mhi1,chi1,nhi2,ahi2,mhi2,chi2,nhi3,ahi3,mhi3,chi3,nhi4,ahi4,mhi4,chi4,rfl,hhiX,hhiY⟩:=hhi
 refine yE (zE (zC J (zB of40_4 J (zJ sh3 J H.own6 J (op_leq J J (fun h=>?_) (fun h=>?_))))))
 ·refine zD (yJ rfl (yN (zR (yE (yR (yT [⟨0,0,.light,[2,11,14,22]⟩,⟨1,0,.light,[11,14]⟩,⟨2,2,.light,[11,14]⟩,⟨3,0,.light,[2,11,14]⟩,⟨4,14,.light,[11,14]⟩,⟨5,0,.light,[2,11,14]⟩,⟨6,32,.light,[2,11,14]⟩,⟨10,0,.light,[2,9,14,22]⟩,⟨11,1024,.light,[2,9,14,22]⟩,⟨12,0,.light,[2,9,11,14]⟩,⟨13,0,.light,[2,9,11]⟩,⟨14,8192,.light,[2,9,11]⟩,⟨15,24576,.light,[2,9,11]⟩,⟨16,0,.light,[2,9,11,14]⟩,⟨17,122880,.light,[2,9,11]⟩,⟨18,0,.light,[2,9,11,14]⟩,⟨19,262144,.light,[2,9,11,14]⟩,⟨7,126,.fresh,[11,14]⟩,⟨8,255,.light,[11,14,22]⟩,⟨9,511,.light,[11,14,22]⟩,⟨20,1040638,.fresh,[9,11]⟩,⟨21,2093310,.light,[9,11]⟩,⟨22,4190462,.light,[9,11]⟩,⟨23,8387838,.fresh,[9]⟩,⟨24,16777215,.fresh,[]⟩,⟨25,0,.fresh,[2,9,11,14,22]⟩,⟨26,67108863,.whole,[]⟩] Z0 Z0 (zA J J (zH J ⟨J,(zA J J (zB of40_2 J ⟨J,(zV J J sh3 J H.own6 (H.lim6 O) J (zA J J (zC J ⟨J,(zA J J (yH J J Y ⟨J,?_⟩))⟩)))⟩))⟩))))))))
  refine zA J J (zH J ⟨J,(zA J J (yF ju J J J ⟨J,(zA J J (zB of40_5 J ⟨J,(zQ J J kU J H.own6 (H.lim6 O) J (zA J J (zH J ⟨J,(zA J J (zB of40_3 J ⟨J,(zV J J sh3 J H.own6 (H.lim6 O) J (zA J J (yH J J Y ⟨J,(zA J J (zC J ⟨J,(zA J J (qC J J Y ⟨J,(zA J J (zH J ⟨J,(zA J J (yF ju J J J ⟨J,?_⟩))⟩))⟩))⟩))⟩)))⟩))⟩)))⟩))⟩))⟩)
  refine yK J J (zF J fc172 J (callJ (around13_ok hI O O O O) (fun ja hja=>?_)))
  obtain⟨pa,qa,na1,aa1,ma1,ca1,na2,aa2,ma2,ca2,na3,aa3,ma3,ca3,na4,aa4,ma4,ca4,ea,hXa,hYa⟩:=hvsa.vec ja O
  have hc9a:=hcxa ja O
  rw[ea]at hc9a
  refine zA J J (zP el139 J J O O ⟨J,(zQ J J qN J (H.own (ba,.cells cla 38) (by simp[hma])).1 (by have h8:=(H.own (ba,.cells cla 38) (by simp[hma])).2.1;have:=H.most;(try dsimp only at h8 this);(try dsimp only);omega) hc9a (yK J J (zF J fc172 J (callJ (around13_ok hI O O O O) (fun jb hjb=>?_)))))⟩)
  obtain⟨pb,qb,nb1,ab1,mb1,cb1,nb2,ab2,mb2,cb2,nb3,ab3,mb3,cb3,nb4,ab4,mb4,cb4,eb,hXb,hYb⟩:=hvsb.vec jb O
  have hc9b:=hcxb jb O
  rw[eb]at hc9b
  refine zA J J (zP el139 J J O O ⟨J,(zQ J J qN J (H.own (bb,.cells clb 38) (by simp[hmb])).1 (by have h8:=(H.own (bb,.cells clb 38) (by simp[hmb])).2.1;have:=H.most;(try dsimp only at h8 this);(try dsimp only);omega) hc9b (yK J J (zF J fc40 J (kn (rotate05_ok hI Y9 ((kn9 hK H).heap J Z3) hQ1 hQ2 hXb hYb U U U U U U Z) (fun s9 D9 n4 a4 m4 c4 n4d a4d m4d c4d n4y a4y m4y c4y n4yd a4yd m4yd c4yd Hc h104a h104b=>?_)))))⟩)
  have Hc:=HL.wider H.fine H.fine.wfb Z7 Hc
  obtain⟨Φ,ku,kd,hS,H⟩:=mergeS9 (K:=K) H Hc
  try (first|replace hma:=hS hma|replace hma:=hma.mono hS)
  try (first|replace hmb:=hS hmb|replace hmb:=hmb.mono hS)
  clear hS
  try replace hQ1:=hQ1.mono ku
  try replace hQ2:=hQ2.mono ku
  try replace h103:=h103.mono ku
  try replace hvsa:=hvsa.mono ku
  try replace hvsb:=hvsb.mono ku
  try replace hXa:=hXa.mono ku
  try replace hYa:=hYa.mono ku
  try replace hloX:=hloX.mono ku
  try replace hloY:=hloY.mono ku
  try replace hhiX:=hhiX.mono ku
  try replace hhiY:=hhiY.mono ku
  replace h104a:=h104a.mono kd
  replace h104b:=h104b.mono kd
  clear Hc ku kd
  refine yK J J (zF J fc39 J (kn (js hI Y9 ((kn9 hK H).heap J Z3) hXa hYa h104a h104b U U Z) (fun s9 D9 n5 a5 m5 c5 n5d a5d m5d c5d n5y a5y m5y c5y n5yd a5yd m5yd c5yd Hc h105a h105b=>?_)))
  have Hc:=HL.wider H.fine H.fine.wfb Z7 Hc
  obtain⟨Φ,ku,kd,hS,H⟩:=mergeS9 (K:=K) H Hc
  try (first|replace hma:=hS hma|replace hma:=hma.mono hS)
  try (first|replace hmb:=hS hmb|replace hmb:=hmb.mono hS)
  clear hS
  try replace hQ1:=hQ1.mono ku
  try replace hQ2:=hQ2.mono ku
  try replace h103:=h103.mono ku
  try replace hvsa:=hvsa.mono ku
  try replace hvsb:=hvsb.mono ku
  try replace hloX:=hloX.mono ku
  try replace hloY:=hloY.mono ku
  try replace hhiX:=hhiX.mono ku
  try replace hhiY:=hhiY.mono ku
  replace h105a:=h105a.mono kd
  replace h105b:=h105b.mono kd
  clear Hc ku kd
  refine yK J J (zS (Fine.fresh H.fine).hl zf38 (H.rm (k:=1) O) (fun b16 s12 Hc=>?_))
  have H:=H.call X6
  clear Hc
  refine xM (vs:=[.bool _,.slice _ _ _,.bool _,.slice _ _ _,.bool _,.slice _ _ _,.bool _,.slice _ _ _]) (fr:=[]) H J J sz38 J J J J J J Z2 O (fun s13 H=>?_)
  refine zU (zE (zN qN J H.own0 J (zN qN J H.own3 J (zF J fc39 J (kn (js hI H.fine (kn10 hK H) h105a h105b h103 h103 U U Z) (fun s9 D9 n6 a6 m6 c6 n6d a6d m6d c6d n6y a6y m6y c6y n6yd a6yd m6yd c6yd Hc h106a h106b=>?_))))))
  obtain⟨Φ,ku,kd,hS,H⟩:=mergeS10 (K:=K) H Hc
  try (first|replace hma:=hS hma|replace hma:=hma.mono hS)
  try (first|replace hmb:=hS hmb|replace hmb:=hmb.mono hS)
  clear hS
  try replace hQ1:=hQ1.mono ku
  try replace hQ2:=hQ2.mono ku
  try replace h103:=h103.mono ku
  try replace hvsa:=hvsa.mono ku
  try replace hvsb:=hvsb.mono ku
  try replace hloX:=hloX.mono ku
  try replace hloY:=hloY.mono ku
  try replace hhiX:=hhiX.mono ku
  try replace hhiY:=hhiY.mono ku
  try replace h105a:=h105a.mono ku
  try replace h105b:=h105b.mono ku
  replace h106a:=h106a.mono kd
  replace h106b:=h106b.mono kd
  clear Hc ku kd
  refine zS H zf38 O (fun b17 s14 H=>?_)
  refine zT (vs:=[.bool _,.slice _ _ _,.bool _,.slice _ _ _,.bool _,.slice _ _ _,.bool _,.slice _ _ _]) H sz38 J J J J J O (fun s15 H=>?_)
  refine zD (zE (zN qN J H.own1 J (zN qN J H.own4 J (zF J fc19 J (kn (vadd05_ok hI H.fine (kn11 hK H) h105a h105b h103 h103 U U Z) (fun s9 D9 n7 a7 m7 c7 n7d a7d m7d c7d n7y a7y m7y c7y n7yd a7yd m7yd c7yd Hc h107a h107b=>?_))))))
  obtain⟨Φ,ku,kd,hS,H⟩:=mergeS11 (K:=K) H Hc
  try (first|replace hma:=hS hma|replace hma:=hma.mono hS)
  try (first|replace hmb:=hS hmb|replace hmb:=hmb.mono hS)
  clear hS
  try replace hQ1:=hQ1.mono ku
  try replace hQ2:=hQ2.mono ku
  try replace h103:=h103.mono ku
  try replace hvsa:=hvsa.mono ku
  try replace hvsb:=hvsb.mono ku
  try replace hloX:=hloX.mono ku
  try replace hloY:=hloY.mono ku
  try replace hhiX:=hhiX.mono ku
  try replace hhiY:=hhiY.mono ku
  try replace h106a:=h106a.mono ku
  try replace h106b:=h106b.mono ku
  replace h107a:=h107a.mono kd
  replace h107b:=h107b.mono kd
  clear Hc ku kd
  refine zS H zf38 O (fun b18 s16 H=>?_)
  refine zT (vs:=[.bool _,.slice _ _ _,.bool _,.slice _ _ _,.bool _,.slice _ _ _,.bool _,.slice _ _ _]) H sz38 J J J J J O (fun s17 H=>?_)
  refine zD (cw_mid4 H 1000 (fun c'=>∃q r,VecK (KX K Φ) c' q r 784 16) [(3,.pointer (some ⟨b3,0,none⟩)),(4,.pointer (some ⟨b4,0,none⟩)),(5,.pointer (some ⟨b5,0,none⟩)),(6,.pointer (some ⟨b6,0,none⟩)),(7,.pointer (some ⟨b7,0,none⟩)),(8,.bool false),(9,.slice (some ⟨ba,offa,none⟩) 4 capa),(10,.slice (some ⟨bb,offb,none⟩) 4 capb),(12,.pointer (some ⟨b12,0,none⟩)),(13,.pointer (some ⟨b13,0,none⟩)),(14,.pointer (some ⟨b14,0,none⟩)),(15,.int .i64 (i:Int)),(16,.pointer (some ⟨b16,0,none⟩)),(17,.pointer (some ⟨b17,0,none⟩)),(18,.pointer (some ⟨b18,0,none⟩))] ?_ ?_)
  ·refine zE (zC J (qh J J (fun h=>?_) (fun h=>?_)))
   ·refine zI J (zO J (zO J (zO J (zO J (zO J (zO J (xS J (zD (yJ rfl (yA (zB q8 J ?_)))))))))))
    refine zN xC J H.own1 J (zB q8 J (jw (vs:=[.bool _,.slice _ _ _,.bool _,.slice _ _ _]) H kb J J J J J O (fun s18 H=>?_)))
    refine zD (vW ?_)
    exact⟨⟨_,H.up O,_,_,VecK.of h106a hloY⟩,J,J,J,J,J,J,J,J,J,J,J,J,J,J,J,trivial⟩
   refine zI J (zB q8 J (zN xC J H.own1 J (zB q8 J (zN xC J H.own4 J (zF J kS J (callE (qH hI H.fine (kn12 hK H) h106a hloX U U U Z) (fun s9 Hc=>?_)))))))
   have H:=H.call0 Hc
   clear Hc
   refine qv J J (fun h=>?_) (fun h=>?_)
   ·refine yG J J (zD (yJ rfl (yA (zB q8 J (zN xC J H.own1 J (zB q8 J (jw (vs:=[.bool _,.slice _ _ _,.bool _,.slice _ _ _]) H kb J J J J J O (fun s19 H=>?_))))))))
    refine zD (vW ?_)
    exact⟨⟨_,H.up O,_,_,VecK.of h106a hloY⟩,J,J,J,J,J,J,J,J,J,J,J,J,J,J,J,trivial⟩
   refine yG J J (zD (yL rfl (yN (vW ?_))))
   exact⟨⟨_,H.up O,_,_,VecK.of hloX hloY⟩,J,J,J,J,J,J,J,J,J,J,J,J,J,J,J,trivial⟩
  rintro G s10 c10 H ⟨qq,qr,nlo1,alo1,mlo1,clo1,nlo2,alo2,mlo2,clo2,nlo3,alo3,mlo3,clo3,nlo4,alo4,mlo4,clo4,rfl,hloX,hloY⟩
  refine cw_mid4 H 1000 (fun c'=>∃q r,VecK (KX K Φ) c' q r 784 16) [(3,.pointer (some ⟨b3,0,none⟩)),(4,.pointer (some ⟨b4,0,none⟩)),(5,.pointer (some ⟨b5,0,none⟩)),(6,.pointer (some ⟨b6,0,none⟩)),(7,.pointer (some ⟨b7,0,none⟩)),(8,.bool false),(9,.slice (some ⟨ba,offa,none⟩) 4 capa),(10,.slice (some ⟨bb,offb,none⟩) 4 capb),(12,.pointer (some ⟨b12,0,none⟩)),(13,.pointer (some ⟨b13,0,none⟩)),(14,.pointer (some ⟨b14,0,none⟩)),(15,.int .i64 (i:Int)),(16,.pointer (some ⟨b16,0,none⟩)),(17,.pointer (some ⟨b17,0,none⟩)),(18,.pointer (some ⟨b18,0,none⟩))] ?_ ?_
  ·refine zE (zC J (qh J J (fun h=>?_) (fun h=>?_)))
   ·refine zI J (zO J (zO J (zO J (zO J (zO J (zO J (xS J (zD (yJ rfl (yA (zB q7 J ?_)))))))))))
    refine zN xC J H.own1 J (zB q7 J (jw (vs:=[.bool _,.slice _ _ _,.bool _,.slice _ _ _]) H kb J J J J J O (fun s20 H=>?_)))
    refine zD (vW ?_)
    exact⟨⟨_,H.up O,_,_,VecK.of hloX h106b⟩,J,J,J,J,J,J,J,J,J,J,J,J,J,J,J,trivial⟩
   refine zI J (zB q7 J (zN xC J H.own1 J (zB q7 J (zN xC J H.own4 J (zF J kS J (callE (qH hI H.fine (kn12 hK H) h106b hloY U U U Z) (fun s9 Hc=>?_)))))))
   have H:=H.call0 Hc
   clear Hc
   refine qv J J (fun h=>?_) (fun h=>?_)
   ·refine yG J J (zD (yJ rfl (yA (zB q7 J (zN xC J H.own1 J (zB q7 J (jw (vs:=[.bool _,.slice _ _ _,.bool _,.slice _ _ _]) H kb J J J J J O (fun s21 H=>?_))))))))
    refine zD (vW ?_)
    exact⟨⟨_,H.up O,_,_,VecK.of hloX h106b⟩,J,J,J,J,J,J,J,J,J,J,J,J,J,J,J,trivial⟩
   refine yG J J (zD (yL rfl (yN (vW ?_))))
   exact⟨⟨_,H.up O,_,_,VecK.of hloX hloY⟩,J,J,J,J,J,J,J,J,J,J,J,J,J,J,J,trivial⟩
  rintro G s10 c10 H ⟨qq,qr,nlo1,alo1,mlo1,clo1,nlo2,alo2,mlo2,clo2,nlo3,alo3,mlo3,clo3,nlo4,alo4,mlo4,clo4,rfl,hloX,hloY⟩
  refine cw_mid3 H 1000 (fun c'=>∃q r,VecK (KX K Φ) c' q r 784 16) [(3,.pointer (some ⟨b3,0,none⟩)),(4,.pointer (some ⟨b4,0,none⟩)),(5,.pointer (some ⟨b5,0,none⟩)),(6,.pointer (some ⟨b6,0,none⟩)),(7,.pointer (some ⟨b7,0,none⟩)),(8,.bool false),(9,.slice (some ⟨ba,offa,none⟩) 4 capa),(10,.slice (some ⟨bb,offb,none⟩) 4 capb),(12,.pointer (some ⟨b12,0,none⟩)),(13,.pointer (some ⟨b13,0,none⟩)),(14,.pointer (some ⟨b14,0,none⟩)),(15,.int .i64 (i:Int)),(16,.pointer (some ⟨b16,0,none⟩)),(17,.pointer (some ⟨b17,0,none⟩)),(18,.pointer (some ⟨b18,0,none⟩))] ?_ ?_
  ·refine zE (zC J (qh J J (fun h=>?_) (fun h=>?_)))
   ·refine zI J (zO J (zO J (zO J (zO J (zO J (zO J (xS J (zD (yJ rfl (yA (zB q8 J ?_)))))))))))
    refine zN xC J H.own0 J (zB q8 J (vP (vs:=[.bool _,.slice _ _ _,.bool _,.slice _ _ _]) H kb J J J J J O (fun s22 H=>?_)))
    refine zD (vW ?_)
    exact⟨⟨_,H.up O,_,_,VecK.of h107a hhiY⟩,J,J,J,J,J,J,J,J,J,J,J,J,J,J,J,trivial⟩
   refine zI J (zB q8 J (zN xC J H.own0 J (zB q8 J (zN xC J H.own3 J (zF J kS J (callE (qH hI H.fine (kn12 hK H) h107a hhiX U U U Z) (fun s9 Hc=>?_)))))))
   have H:=H.call0 Hc
   clear Hc
   refine xB J J (fun h=>?_) (fun h=>?_)
   ·refine yG J J (zD (yJ rfl (yA (zB q8 J (zN xC J H.own0 J (zB q8 J (vP (vs:=[.bool _,.slice _ _ _,.bool _,.slice _ _ _]) H kb J J J J J O (fun s23 H=>?_))))))))
    refine zD (vW ?_)
    exact⟨⟨_,H.up O,_,_,VecK.of h107a hhiY⟩,J,J,J,J,J,J,J,J,J,J,J,J,J,J,J,trivial⟩
   refine yG J J (zD (yL rfl (yN (vW ?_))))
   exact⟨⟨_,H.up O,_,_,VecK.of hhiX hhiY⟩,J,J,J,J,J,J,J,J,J,J,J,J,J,J,J,trivial⟩
  rintro G s10 c10 H ⟨qq,qr,nhi1,ahi1,mhi1,chi1,nhi2,ahi2,mhi2,chi2,nhi3,ahi3,mhi3,chi3,nhi4,ahi4,mhi4,chi4,rfl,hhiX,hhiY⟩
  refine zE (zC J (qh J J (fun h=>?_) (fun h=>?_)))
  ·refine zI J (zO J (zO J (zO J (zO J (zO J (zO J (xS J (zD (yJ rfl (yA (zB q7 J ?_)))))))))))
   refine zN xC J H.own0 J (zB q7 J (vP (vs:=[.bool _,.slice _ _ _,.bool _,.slice _ _ _]) H kb J J J J J O (fun s24 H=>?_)))
   refine zD (xF (zR (yA (zC J (yH J J Y (zL J (zD (xG (⟨2-(i+1),by omega,_,i+1,_,Φ,_,_,yZ ⟨J,J,J,J,J,J,J,J,J,J,J,J,trivial⟩,H.drop0.drop0.drop0,by omega,by omega,J,hQ1,hQ2,h103,hvsa,hvsb,hma,hmb,⟨_,_,VecK.of hloX hloY⟩,⟨_,_,VecK.of hhiX h107b⟩⟩)))))))))
  refine zI J (zB q7 J (zN xC J H.own0 J (zB q7 J (zN xC J H.own3 J (zF J kS J (callE (qH hI H.fine (kn12 hK H) h107b hhiY U U U Z) (fun s9 Hc=>?_)))))))
  have H:=H.call0 Hc
  clear Hc
  refine xB J J (fun h=>?_) (fun h=>?_)
  ·refine yG J J (zD (yJ rfl (yA (zB q7 J (zN xC J H.own0 J (zB q7 J (vP (vs:=[.bool _,.slice _ _ _,.bool _,.slice _ _ _]) H kb J J J J J O (fun s25 H=>?_))))))))
   refine zD (xF (zR (yA (zC J (yH J J Y (zL J (zD (xG (⟨2-(i+1),by omega,_,i+1,_,Φ,_,_,yZ ⟨J,J,J,J,J,J,J,J,J,J,J,J,trivial⟩,H.drop0.drop0.drop0,by omega,by omega,J,hQ1,hQ2,h103,hvsa,hvsb,hma,hmb,⟨_,_,VecK.of hloX hloY⟩,⟨_,_,VecK.of hhiX h107b⟩⟩)))))))))
  refine yG J J (zD (yL rfl (yN (xF (zR (yA (zC J (yH J J Y (zL J (zD (xG ?_)))))))))))
  refine⟨2-(i+1),by omega,_,i+1,_,Φ,_,_,yZ ⟨J,J,J,J,J,J,J,J,J,J,J,J,trivial⟩,H.drop0.drop0.drop0,by omega,by omega,J,hQ1,hQ2,h103,hvsa,hvsb,hma,hmb,⟨_,_,VecK.of hloX hloY⟩,⟨_,_,VecK.of hhiX hhiY⟩⟩
 refine zD (yL rfl (ql (xU (xZ (xX (zR (yE (zE (zB q8 J (zN xC J H.own1 J (zB q8 J ?_)))))))))))
 refine zN xC J H.own0 J (zF J kS J (callE (qH hI H.fine (kn9 hK H) hloX hhiX U U U Z) (fun s9 Hc=>?_)))
 have H:=H.call0 Hc
 clear Hc
 refine qv J J (fun h=>?_) (fun h=>?_)
 ·refine zI J (zO J (zO J (zO J (zO J (zO J (zO J (xS J (zD (yJ rfl (zE (xE (c:=[.bool _,.slice _ _ _,.bool _,.slice _ _ _,.bool _,.slice _ _ _,.bool _,.slice _ _ _]) bf38 J ?_)))))))))))
  refine xE (c:=[.bool _,.slice _ _ _,.bool _,.slice _ _ _,.bool _,.slice _ _ _,.bool _,.slice _ _ _]) bf38 J (op_store5 (vs:=[.bool _,.slice _ _ _,.bool _,.slice _ _ _,.bool _,.slice _ _ _,.bool _,.slice _ _ _]) H sz38 J J J J J O (fun s26 H=>?_))
  refine jw (vs:=[.bool _,.slice _ _ _,.bool _,.slice _ _ _,.bool _,.slice _ _ _,.bool _,.slice _ _ _]) H sz38 J J J J J O (fun s27 H=>?_)
  refine zG (zD (yO (xI (yB (end_cct qN J H.own5 J qN J H.own4 J J ?_)))))
  exact⟨Φ,_,_,_,_,_,_,_,J,(frz9 H).up O,(VecK.of RatK.nil RatK.nil).le U U,(VecK.of RatK.nil RatK.nil).le U U⟩
 refine zI J (zB q7 J (zN xC J H.own1 J (zB q7 J (zN xC J H.own0 J (zF J kS J (callE (qH hI H.fine (kn9 hK H) hloY hhiY U U U Z) (fun s9 Hc=>?_)))))))
 have H:=H.call0 Hc
 clear Hc
 refine qv J J (fun h=>?_) (fun h=>?_)
 ·refine yG J J (zD (yJ rfl (zE (xE (c:=[.bool _,.slice _ _ _,.bool _,.slice _ _ _,.bool _,.slice _ _ _,.bool _,.slice _ _ _]) bf38 J (xE (c:=[.bool _,.slice _ _ _,.bool _,.slice _ _ _,.bool _,.slice _ _ _,.bool _,.slice _ _ _]) bf38 J (op_store5 (vs:=[.bool _,.slice _ _ _,.bool _,.slice _ _ _,.bool _,.slice _ _ _,.bool _,.slice _ _ _]) H sz38 J J J J J O (fun s28 H=>?_)))))))
  refine jw (vs:=[.bool _,.slice _ _ _,.bool _,.slice _ _ _,.bool _,.slice _ _ _,.bool _,.slice _ _ _]) H sz38 J J J J J O (fun s29 H=>?_)
  refine zG (zD (yO (xI (yB (end_cct qN J H.own5 J qN J H.own4 J J ?_)))))
  exact⟨Φ,_,_,_,_,_,_,_,J,(frz9 H).up O,(VecK.of RatK.nil RatK.nil).le U U,(VecK.of RatK.nil RatK.nil).le U U⟩
 refine yG J J (zD (yL rfl (yN (zR (yT [⟨0,0,.light,[1]⟩,⟨1,0,.light,[0]⟩,⟨2,1,.whole,[1]⟩,⟨3,7,.whole,[]⟩,⟨4,15,.light,[]⟩] Z0 Z0 (zQ J J qN J H.own1 Y1 J (zQ J J qN J H.own0 Y0 J (dr_store5 (vs:=[.bool _,.slice _ _ _,.bool _,.slice _ _ _,.bool _,.slice _ _ _,.bool _,.slice _ _ _]) (fr:=[_]) H rfl rfl sz38 rfl rfl rfl rfl rfl rfl (by intro p hp he;rw[List.mem_singleton]at hp;exact absurd (hp.symm.trans he) (by have hd:=H.dist;simp only[List.pairwise_cons]at hd;exact hd.1 (b6,.cells [.bool false,.slice none 0 0,.bool false,.slice none 0 0,.bool false,.slice none 0 0,.bool false,.slice none 0 0] 38) Y8)) O (fun s40 H=>?_)))))))))
 refine dr_store4 (vs:=[.bool _,.slice _ _ _,.bool _,.slice _ _ _,.bool _,.slice _ _ _,.bool _,.slice _ _ _]) (fr:=[]) H J J sz38 J J J J J J Z2 O (fun s30 H=>?_)
 refine zA J J (zG ⟨J,(zU (yO (yB (end_cct qN J H.own5 J qN J H.own4 J J ?_))))⟩)
 exact⟨Φ,_,_,_,_,_,_,_,J,(frz9 H).up O,(VecK.of hloX hloY).le U U,(VecK.of hhiX hhiY).le U U⟩
end Go.Proofs.YtocnbjjmmgolfaaGreat
