/- The reference: a box that was broken. -/
/- The reference: a list of fits with one of them changed. -/
import Derived.Test.YtocnbjjmmgolfaaGreatA36
namespace Go.Proofs.YtocnbjjmmgolfaaGreat
open Go Go.M Go.Proofs.C14
theorem bf54:buildF Tryz.prog 54=some ([.bool false,.slice none 0 0,.bool false,.slice none 0 0,.bool false,.slice none 0 0,.bool false,.slice none 0 0,.bool false,.slice none 0 0,.bool false,.slice none 0 0,.bool false,.slice none 0 0,.bool false,.slice none 0 0],[(0,8),(8,8)]):=by kernel_rfl
theorem bf87:buildF Tryz.prog 87=some ([.int .i64 0,.int .i64 0,.int .i64 0,.int .i64 0],[(0,1),(1,1),(2,1),(3,1)]):=by kernel_rfl
theorem el87:elemF Tryz.prog 87=some (false,4,1):=by kernel_rfl
theorem el88:elemF Tryz.prog 88=some (true,0,4):=by kernel_rfl
theorem fb8:xK Tryz.f8 (Tryz.f8.body.getD .skip) 1=true:=by kernel_rfl
theorem fc21:xJ Tryz.prog 21=true:=by kernel_rfl
theorem fc32:xJ Tryz.prog 32=true:=by kernel_rfl
theorem fc33:xJ Tryz.prog 33=true:=by kernel_rfl
theorem fc34:xJ Tryz.prog 34=true:=by kernel_rfl
theorem fc35:xJ Tryz.prog 35=true:=by kernel_rfl
theorem fc37:xJ Tryz.prog 37=true:=by kernel_rfl
theorem fc42:xJ Tryz.prog 42=true:=by kernel_rfl
theorem of27_1:wZ Tryz.prog 27 1=some 1:=by kernel_rfl
theorem of72_6:wZ Tryz.prog 72 6=some 9:=by kernel_rfl
theorem of72_7:wZ Tryz.prog 72 7=some 13:=by kernel_rfl
theorem sh24:qw Tryz.prog 24=some (none):=by kernel_rfl
theorem sh27:qw Tryz.prog 27=some (some 3):=by kernel_rfl
theorem sh87:qw Tryz.prog 87=some (some 4):=by kernel_rfl
theorem sl23:q6 Tryz.prog 23=some (72,25,408,[.int .i64 0,.int .i64 0,.slice none 0 0,.slice none 0 0,.slice none 0 0,.bool false,.slice none 0 0,.bool false,.slice none 0 0,.bool false,.slice none 0 0,.bool false,.slice none 0 0,.bool false,.slice none 0 0,.bool false,.slice none 0 0,.bool false,.slice none 0 0,.bool false,.slice none 0 0,.bool false,.slice none 0 0,.bool false,.slice none 0 0]):=by kernel_rfl
theorem sl24:q6 Tryz.prog 24=some (40,29,424,[.int .i64 0,.int .i64 0,.int .i64 0,.int .i64 0,.int .i64 0,.bool false,.slice none 0 0,.bool false,.slice none 0 0,.bool false,.slice none 0 0,.bool false,.slice none 0 0,.bool false,.slice none 0 0,.bool false,.slice none 0 0,.bool false,.slice none 0 0,.bool false,.slice none 0 0,.bool false,.slice none 0 0,.bool false,.slice none 0 0,.bool false,.slice none 0 0,.bool false,.slice none 0 0]):=by kernel_rfl
theorem sl25:q6 Tryz.prog 25=some (54,16,256,[.bool false,.slice none 0 0,.bool false,.slice none 0 0,.bool false,.slice none 0 0,.bool false,.slice none 0 0,.bool false,.slice none 0 0,.bool false,.slice none 0 0,.bool false,.slice none 0 0,.bool false,.slice none 0 0]):=by kernel_rfl
theorem sl88:q6 Tryz.prog 88=some (87,4,32,[.int .i64 0,.int .i64 0,.int .i64 0,.int .i64 0]):=by kernel_rfl
theorem sz23:kD Tryz.prog 23=some 1:=by kernel_rfl
theorem sz24:kD Tryz.prog 24=some 1:=by kernel_rfl
theorem sz25:kD Tryz.prog 25=some 1:=by kernel_rfl
theorem sz27:kD Tryz.prog 27=some 3:=by kernel_rfl
theorem sz87:kD Tryz.prog 87=some 4:=by kernel_rfl
theorem un23:Tryz.prog.underlying 23=some (.slice 72):=by kernel_rfl
theorem un24:Tryz.prog.underlying 24=some (.slice 40):=by kernel_rfl
theorem un25:Tryz.prog.underlying 25=some (.slice 54):=by kernel_rfl
theorem zf27:zeroF Tryz.prog 27=some [.slice none 0 0,.slice none 0 0,.slice none 0 0]:=by kernel_rfl
theorem zf87:zeroF Tryz.prog 87=some [.int .i64 0,.int .i64 0,.int .i64 0,.int .i64 0]:=by kernel_rfl
theorem slG4{b cap:Nat}{P:List (Int×Int)}{Φ:Hp'}(hm:(b,MObj.cells (P.map pt).flatten 77)∈Φ)(h4:P.length=4)(hc:4≤cap / 2):SlG Φ 77 2 (.slice (some ⟨b,0,none⟩) 4 cap) (P.map pt):=by
 have:=slGM (cap:=cap) hm O
 rwa[h4]at this
set_option maxHeartbeats 4000000 in
set_option maxRecDepth 10000 in
theorem broken14_ok{I:xP}(hI:xA I){s:St}(hf:Fine s){K:Kw}(hK:Kn s K){vl:Value}{l:List Int}(hl:SlI s vl l)(hin:∀x∈l,qp x)(hroom:s.next+820000000≤yC) :
  ∃v' s',xN Tryz.prog I 8 #[vl] s v' s'∧PostBox K s v' s':=by
 rw[Nat.add_comm]at hroom
 have H:=hf.hl
 refine zX 1 (hI 8 U U) Tryz.func8 J fb8 J ?_
 refine zE (zS H zf27 O (fun b2 s1 H=>?_))
 refine zD (zE (xL (zF J fc21 J (atC hI ?_ hin ?_ (fun z22 hz22 hy22=>?_)))))
 ·exact W3
 ·omega
 refine yH J J Y (zL J (zD (zE (xL (zF J fc21 J (atC hI ?_ hin ?_ (fun z25 hz25 hy25=>?_)))))))
 ·exact W3
 ·omega
 refine yH J J Y (zL J (zD (zE (xL (zC J (qC J J Y (zF J fc21 J (atC hI ?_ hin ?_ (fun z30 hz30 hy30=>?_)))))))))
 ·exact W3
 ·omega
 refine yH J J Y (xL (zC J (qC J J Y (zF J fc21 J (atC hI ?_ hin ?_ (fun z35 hz35 hy35=>?_))))))
 ·exact W3
 ·omega
 refine yH J J Y (xE (c:=[.int _ _,.int _ _]) bf77 J (zS H zf77 O (fun b5 s2 H=>?_)))
 refine zT (vs:=[.int _ _,.int _ _]) H sz77 J J J J J O (fun s3 H=>?_)
 refine zD (yT [⟨0,0,.light,[2]⟩,⟨1,0,.light,[2]⟩,⟨2,0,.light,[]⟩,⟨3,0,.light,[2]⟩,⟨4,0,.light,[2]⟩,⟨5,16,.light,[2]⟩,⟨8,0,.light,[2]⟩,⟨9,0,.light,[2]⟩,⟨10,512,.light,[2]⟩,⟨13,0,.light,[2]⟩,⟨14,0,.light,[2]⟩,⟨15,16384,.light,[2]⟩,⟨18,0,.light,[2]⟩,⟨19,0,.light,[2]⟩,⟨20,524288,.light,[2]⟩,⟨6,56,.whole,[2]⟩,⟨7,120,.light,[2]⟩,⟨11,1912,.whole,[2]⟩,⟨12,3960,.light,[2]⟩,⟨16,61304,.whole,[2]⟩,⟨17,126840,.light,[2]⟩,⟨21,1961848,.whole,[2]⟩,⟨22,4059000,.light,[2]⟩,⟨23,8388607,.whole,[]⟩,⟨24,16777215,.light,[]⟩] Z0 Z0 (zA J J (zC J ⟨J,(zA J J (zC J ⟨J,(zQ J J sh77 J H.own0 Y0 J (zA J J (xL ⟨J,(zA J J (zC J ⟨J,(zA J J (qC J J Y ⟨J,(zA J J (xL ⟨J,(zA J J (zC J ⟨J,(zA J J (qC J J Y ⟨J,(zA J J (xL ⟨J,?_⟩))⟩))⟩))⟩))⟩))⟩))⟩)))⟩))⟩)))
 refine zA J J (zC J ⟨J,(zA J J (qC J J Y ⟨J,(zA J J (xL ⟨J,(zA J J (zC J ⟨J,(zA J J (qC J J Y ⟨J,(zM J J (zF J fc21 J (atC hI ?_ hin ?_ (fun z44 hz44 hy44=>?_))))⟩))⟩))⟩))⟩))⟩)
 ·exact W3
 ·omega
 refine zA J J (yH J J Y ⟨J,(zM J J (zF J fc21 J (atC hI ?_ hin ?_ (fun z49 hz49 hy49=>?_))))⟩)
 ·exact W3
 ·omega
 refine zA J J (yH J J Y ⟨J,(zM J J (zF J fc21 J (atC hI ?_ hin ?_ (fun z54 hz54 hy54=>?_))))⟩)
 ·exact W3
 ·omega
 refine zA J J (yH J J Y ⟨J,(zM J J (zF J fc21 J (atC hI ?_ hin ?_ (fun z59 hz59 hy59=>?_))))⟩)
 ·exact W3
 ·omega
 refine zA J J (yH J J Y ⟨J,(zM J J (zF J fc32 J (cornersC hI H.fine ⟨by omega,by omega⟩ ⟨by omega,by omega⟩ ⟨by omega,by omega⟩ ⟨by omega,by omega⟩ ⟨by omega,by omega⟩ ⟨by omega,by omega⟩ ⟨by omega,by omega⟩ ⟨by omega,by omega⟩ Z4 (fun s9 D9 v9 Hc hcr=>?_))))⟩)
 have Hc:=HL.wider H.fine Z3 Z7 Hc
 obtain⟨Φ,ku,kd,_,hDS,H⟩:=mergeT2 (K:=K) (Φ:=[]) H Hc
 replace hcr:=hcr.mono hDS
 clear Hc ku kd hDS
 refine zA J J (xT ⟨J,(zU (cw_mid (fun F2 s2=>∃(G:FF) (m:Nat) (v:Value) (Φ:Hp'),F2=lay G [(0,vl),(2,.pointer (some ⟨b2,0,none⟩)),(6,v)]∧HL [] s s2 ((b2,.cells [.slice none 0 0,.slice none 0 0,.slice none 0 0] 27)::Φ) m∧m≤810000100∧Crn Φ v) ?_ ?_))⟩)
 ·refine zE (xL (zF J fc33 J ?_))
  obtain⟨_,s8,hr,bb,rfl,Hd⟩:=validC hI H.fine (kn2 hK H) H (Φ:=Φ) Z8 hcr Z4
  refine⟨_,_,hr,?_⟩
  clear hr
  have H:=H.call0 Hd
  clear Hd
  cases bb
  ·refine qt J (zD (yJ rfl (yA (xE (c:=[.int _ _,.int _ _]) bf77 J (zF J fc32 J (cornersC hI H.fine ⟨by omega,by omega⟩ ⟨by omega,by omega⟩ ⟨by omega,by omega⟩ ⟨by omega,by omega⟩ ⟨by omega,by omega⟩ ⟨by omega,by omega⟩ ⟨by omega,by omega⟩ ⟨by omega,by omega⟩ Z4 (fun s9 D9 v9 Hc hcr=>?_)))))))
   obtain⟨Φ,ku,kd,_,hDS,H⟩:=mergeT2 (K:=K)  H Hc
   replace hcr:=hcr.mono hDS
   clear Hc ku kd hDS
   refine xT (zD (vW ?_))
   exact⟨_,_,_,_,yZ ⟨J,J,J,trivial⟩,H.drop0,by omega,hcr⟩
  refine qt J (zD (yL rfl (yN (vW ?_))))
  exact⟨_,_,_,_,yZ ⟨J,J,J,trivial⟩,H.drop0,by omega,hcr⟩
 rintro F2 s2 ⟨G,m0,v,Φ,rfl,H,hm0,hcr⟩
 refine zE (xL (zF J fc21 J (atC hI ?_ hin ?_ (fun z68 hz68 hy68=>?_))))
 ·exact W3
 ·omega
 refine yH J J Y (zL J (zD (zE (zS H zf27 O (fun b8 s4 H=>?_)))))
 refine zD (yE (zE (zG (zD (yR (xR (fun k F s1=>∃(G:FF) (i m:Nat) (v vp va:Value) (pcs pls:List (List Value)) (Dp Da Φ:Hp'),F=lay G [(0,vl),(2,.pointer (some ⟨b2,0,none⟩)),(6,v),(7,.int .i64 (2+z68)),(8,.pointer (some ⟨b8,0,none⟩)),(9,.int .i64 (i:Int))]∧HL [] s s1 ((b8,.cells [vp,.slice none 0 0,va] 27)::(b2,.cells [.slice none 0 0,.slice none 0 0,.slice none 0 0] 27)::(Dp++(Da++Φ))) m∧m≤810000200+i*300000∧i≤4∧(i:Int)≤2+z68∧k=4-i∧Own 72 25 Dp vp pcs.flatten pcs.length∧Own 54 16 Da va pls.flatten pls.length∧pcs.length=i∧pls.length=i∧Crn Φ v∧PcsG K Φ pcs∧PlsG K Φ pls) ?_ 4 _ _ ?_))))))
 rotate_left
 ·exact⟨_,0,_,_,_,_,[],[],[],[],Φ,yZ ⟨J,J,J,J,J,J,trivial⟩,H,by omega,by omega,by omega,by omega,.nil,.nil,J,J,hcr,⟨fun k hk=>by simp at hk⟩,⟨fun k hk=>by simp at hk⟩⟩
 rintro k F s1 ⟨G,i,m,v,vp,va,pcs,pls,Dp,Da,Φ,rfl,H,hm,hi,hiz,rfl,hop,hoa,hlp,hla,hcr,hpc,hpl⟩
 refine yE (zE (zC J (zC J (xB J J (fun h=>?_) (fun h=>?_)))))
 ·refine zD (yJ rfl (yN (zR (yE (yR (zE (xL (zC J (yH J J Y (zF J fc21 J (atC hI ?_ hin ?_ (fun z78 hz78 hy78=>?_))))))))))))
  ·exact W3
  ·omega
  refine zL J (zD (zE (xL (zC J (yH J J Y (zF J fc21 J (atC hI ?_ hin ?_ (fun z82 hz82 hy82=>?_))))))))
  ·exact W3
  ·omega
  refine qC J J Y (xL (zC J (yH J J Y (zF J fc21 J (atC hI ?_ hin ?_ (fun z87 hz87 hy87=>?_))))))
  ·exact W3
  ·omega
  refine qC J J Y (xE (c:=[.int _ _,.int _ _]) bf77 J (zS H zf77 O (fun b11 s5 H=>?_)))
  refine zT (vs:=[.int _ _,.int _ _]) H sz77 J J J J J O (fun s6 H=>?_)
  refine zD (cw_mid (fun F2 s2=>∃(G:FF) (m2:Nat) (q x y:Int),F2=lay G [(0,vl),(2,.pointer (some ⟨b2,0,none⟩)),(6,v),(7,.int .i64 (2+z68)),(8,.pointer (some ⟨b8,0,none⟩)),(9,.int .i64 (i:Int)),(10,.int .i64 q),(11,.pointer (some ⟨b11,0,none⟩))]∧HL [] s s2 ((b11,.cells [.int .i64 x,.int .i64 y] 77)::(b8,.cells [vp,.slice none 0 0,va] 27)::(b2,.cells [.slice none 0 0,.slice none 0 0,.slice none 0 0] 27)::(Dp++(Da++Φ))) m2∧m2≤m+10∧0≤q∧q≤3∧x.natAbs≤4∧y.natAbs≤4) ?_ ?_)
  ·refine zE (zC J (qh J J (fun h=>?_) (fun h=>?_)))
   ·refine zD (yJ rfl (zE (zG (zD (yA (xE (c:=[.int _ _,.int _ _]) bf77 J (zT (vs:=[.int _ _,.int _ _]) H sz77 J J J J J O (fun s7 H=>?_))))))))
    refine zD (vW ?_)
    exact⟨_,_,_,_,_,yZ ⟨J,J,J,J,J,J,J,J,trivial⟩,H,by omega,by omega,by omega,by omega,by omega⟩
   refine zD (yL rfl (yN (vW ?_)))
   exact⟨_,_,_,_,_,yZ ⟨J,J,J,J,J,J,J,J,trivial⟩,H,by omega,by omega,by omega,by omega,by omega⟩
  rintro F2 s2 ⟨G,m2,q,x,y,rfl,H,hm2,hq0,hq3,hx4,hy4⟩
  obtain⟨bl,cl,bq,Pq,rfl,hml,hcl,hmq,hsq,hlq⟩:=hcr.at (i:=i) O
  refine zE (zG (zD (yE (zE (zG (zD (yR (xR (fun k F s1=>∃(G:FF) (j m3:Nat) (v12:Value) (P:List (Int×Int)) (Do:Hp'),F=lay G [(0,vl),(2,.pointer (some ⟨b2,0,none⟩)),(6,.slice (some ⟨bl,0,none⟩) 4 8),(7,.int .i64 (2+z68)),(8,.pointer (some ⟨b8,0,none⟩)),(9,.int .i64 (i:Int)),(10,.int .i64 q),(11,.pointer (some ⟨b11,0,none⟩)),(12,v12),(13,.int .i64 (j:Int))]∧HL [] s s1 ((b11,.cells [.int .i64 x,.int .i64 y] 77)::(b8,.cells [vp,.slice none 0 0,va] 27)::(b2,.cells [.slice none 0 0,.slice none 0 0,.slice none 0 0] 27)::(Do++(Dp++(Da++Φ)))) m3∧m3≤m2+j*10∧j≤4∧k=4-j∧Own 77 2 Do v12 (P.map pt).flatten P.length∧Sml 12 P∧P.length=j) ?_ 4 _ _ ?_))))))))
  rotate_left
  ·exact⟨_,0,_,_,[],[],yZ ⟨J,J,J,J,J,J,J,J,J,J,trivial⟩,H,by omega,by omega,by omega,.nil,fun k hk=>by simp at hk,J⟩
  rintro k F s1 ⟨G,j,m3,v12,P,Do,rfl,H,hm3,hj,rfl,ho,hsP,hlP⟩
  refine yE (zE (zC J (xB J J (fun h=>?_) (fun h=>?_))))
  ·refine zD (yJ rfl (yN (zR (yE (yR ?_)))))
   obtain⟨px,py,hpe,hcq⟩:=pts_at (P:=Pq) (j:=j) O
   have hsj:=hsq j O
   rw[hpe]at hsj
   simp only at hsj
   refine zE (zH J (zC J (zP el78 J J O O (zJ sh69 J (H.own (bl,.cells cl 69) (by simp[hml])).1 hcl (zC J (zP el69 J J O O (zN sh77 J (H.own (bq,.cells (Pq.map pt).flatten 77) (by simp[hmq])).1 hcq (zC J (zF J fc34 J ?_)))))))))
   obtain⟨_,s9,hr,tx,ty,htx,hty,rfl,Hc⟩:=turned14_ok hI H.fine (x:=px) (y:=py) (q:=q) O O hq0 hq3 Z4
   refine⟨_,_,hr,?_⟩
   clear hr
   have H:=H.call0 Hc
   clear Hc
   refine zS H zf77 O (fun b14 s8 H=>?_)
   refine zT (vs:=[.int _ _,.int _ _]) H sz77 J J J J J O (fun s9 H=>?_)
   refine zD (yA (xL (zB of77_0 J (zJ sh3 J H.own0 J (zB of77_0 J (zJ sh3 J H.own1 J (yH J J Y (zB of77_1 J (zJ sh3 J H.own0 J (zB of77_1 J (zJ sh3 J H.own1 J ?_)))))))))))
   refine yH J J Y (xE (c:=[.int _ _,.int _ _]) bf77 J (yS (c:=[.int _ _,.int _ _]) H sl69 J J O (fun b118 s10 H=>?_)))
   have hgt:=H.own0
   have H:=HL.mid (A:=[_,_,_,_]) (B:=Do) (C:=Dp++(Da++Φ)) H.drop0
   refine qi (L:=_) (D:=Do) H ho sl69 un69 J J J W0 U J J O O (fun b119 s119 H ho=>?_)
   refine yU J (zD (xF (zR (yA (zC J (yH J J Y (zL J (zD (xG (⟨4-(j+1),by omega,_,j+1,_,_,P++[(tx+x,ty+y)],_,yZ ⟨J,J,J,J,J,J,J,J,J,J,trivial⟩,(HL.mid (A:=[_]) (B:=[_,_,_,_]) H).drop0,by omega,by omega,J,by rw[pts_snoc,List.length_append];exact ho,hsP.snoc O O,by rw[List.length_append,hlP];rfl⟩))))))))))
  refine zD (yL rfl (ql (xU (xZ (xX (zR ?_))))))
  have hP4:P.length=4:=by omega
  obtain⟨Φ,hS,hDS,H⟩:=freeze3 H
  replace hcr:=hcr.mono hS
  replace hpc:=hpc.mono hS
  replace hpl:=hpl.mono hS
  have hsl:=(Own.slG (es:=P.map pt) (pts_all P) (by rw[List.length_map];exact ho)).mono hDS
  clear hS hDS ho
  refine zE (zC J (yH J J Y (xL (zF J fc35 J ?_))))
  obtain⟨_,s9,hr,D9,bR,bW,bM,n1,a1,m1,c1,n2,a2,m2,c2,n3,a3,m3_,c3,n4,a4,m4,c4,n5,a5,m5,c5,n6,a6,m6,c6,rfl,Hc,hmR,hL1⟩:=plain12_ok hI H.fine (knU3 hK H) (id:=10+(i:Int)) W4 O O Z4
  rw[hP4]at hr
  refine⟨_,_,hr,?_⟩
  clear hr
  obtain⟨Φ,ku,kd,hS,hDS,H⟩:=mergeTU3 (K:=K) H Hc
  replace hcr:=hcr.mono hS
  replace hpc:=hpc.mono hS
  replace hpl:=hpl.mono hS
  replace hmR:=hDS hmR
  clear Hc ku kd hS hDS
  refine zS H zf72 O (fun b15 s11 H=>?_)
  refine zT (vs:=[.int _ _,.int _ _,.slice _ _ _,.slice _ _ _,.slice _ _ _,.bool _,.slice _ _ _,.bool _,.slice _ _ _,.bool _,.slice _ _ _,.bool _,.slice _ _ _,.bool _,.slice _ _ _,.bool _,.slice _ _ _,.bool _,.slice _ _ _,.bool _,.slice _ _ _,.bool _,.slice _ _ _,.bool _,.slice _ _ _]) H sz72 J J J J J O (fun s12 H=>?_)
  refine zD (zE (xL (zC J (yH J J Y (zF J fc21 J (atC hI ?_ hin ?_ (fun z127 hz127 hy127=>?_)))))))
  ·exact W3
  ·omega
  refine zF J fc20 J (qe (wS hI H.fine (N:=2) (M:=4) O U U U U (knU4 hK H) Z4) (fun s9 D9 n1 a1 m1 c1 n1d a1d m1d c1d Hc h101=>?_))
  obtain⟨Φ,ku,kd,hS,H⟩:=mergeSU4 (K:=K) H Hc
  try (first|replace hcr:=hS hcr|replace hcr:=hcr.mono hS)
  try (first|replace hpc:=hS hpc|replace hpc:=hpc.mono hS)
  try (first|replace hpl:=hS hpl|replace hpl:=hpl.mono hS)
  try (first|replace hmR:=hS hmR|replace hmR:=hmR.mono hS)
  clear hS
  replace h101:=h101.mono kd
  clear Hc ku kd
  refine zB of72_5 J (zT (vs:=[.bool _,.slice _ _ _,.bool _,.slice _ _ _]) H kb J J J J J O (fun s13 H=>?_))
  refine zD (zE (xL (zC J (yH J J Y (zF J fc21 J (atC hI ?_ hin ?_ (fun z133 hz133 hy133=>?_)))))))
  ·exact W3
  ·omega
  refine yH J J Y (zF J fc20 J (qe (wS hI H.fine (N:=3) (M:=1) O U U U U (knU4 hK H) Z4) (fun s9 D9 n2 a2 m2 c2 n2d a2d m2d c2d Hc h102=>?_)))
  obtain⟨Φ,ku,kd,hS,H⟩:=mergeSU4 (K:=K) H Hc
  try (first|replace hcr:=hS hcr|replace hcr:=hcr.mono hS)
  try (first|replace hpc:=hS hpc|replace hpc:=hpc.mono hS)
  try (first|replace hpl:=hS hpl|replace hpl:=hpl.mono hS)
  try (first|replace hmR:=hS hmR|replace hmR:=hmR.mono hS)
  clear hS
  try replace h101:=h101.mono ku
  replace h102:=h102.mono kd
  clear Hc ku kd
  refine zB of72_6 J (zT (vs:=[.bool _,.slice _ _ _,.bool _,.slice _ _ _]) H kb J J J J J O (fun s14 H=>?_))
  refine zD (yT [⟨0,0,.light,[]⟩,⟨1,1,.light,[]⟩,⟨2,0,.light,[1]⟩,⟨3,0,.light,[1]⟩,⟨4,8,.light,[1]⟩,⟨5,28,.whole,[1]⟩,⟨6,60,.whole,[1]⟩,⟨7,127,.whole,[]⟩,⟨8,255,.light,[]⟩,⟨9,511,.whole,[]⟩] Z0 Z0 (zA J J (zB of72_6 J ⟨J,(zQ J J xC J H.own0 Y0 J (zA J J (xL ⟨J,(zA J J (zC J ⟨J,(zA J J (yH J J Y ⟨J,(zM J J (zF J fc21 J (atC hI ?_ hin ?_ (fun z142 hz142 hy142=>?_))))⟩))⟩))⟩)))⟩)))
  ·exact W3
  ·omega
  refine zM J J (zF J fc20 J (qe (wS hI (Fine.pr H.fine (xW H.lt0 qO)) (N:=2) (M:=2) O U U U U ((knU4 hK H).heap J Z3) Z4) (fun s9 D9 n3 a3 m3 c3 n3d a3d m3d c3d Hc h103=>?_)))
  have Hc:=HL.wider H.fine Z3 Z5 Hc
  obtain⟨Φ,ku,kd,hS,H⟩:=mergeSU4 (K:=K) H Hc
  try (first|replace hcr:=hS hcr|replace hcr:=hcr.mono hS)
  try (first|replace hpc:=hS hpc|replace hpc:=hpc.mono hS)
  try (first|replace hpl:=hS hpl|replace hpl:=hpl.mono hS)
  try (first|replace hmR:=hS hmR|replace hmR:=hmR.mono hS)
  clear hS
  try replace h101:=h101.mono ku
  try replace h102:=h102.mono ku
  replace h103:=h103.mono kd
  clear Hc ku kd
  refine zM J J (zF J fc36 J (qe (wQ hI H.fine (knU4 hK H) h102 h103 U U Z4) (fun s9 D9 n4 a4 m4 c4 n4d a4d m4d c4d Hc h104=>?_)))
  have Hc:=HL.wider H.fine Z3 Z7 Hc
  obtain⟨Φ,ku,kd,hS,H⟩:=mergeSU4 (K:=K) H Hc
  try (first|replace hcr:=hS hcr|replace hcr:=hcr.mono hS)
  try (first|replace hpc:=hS hpc|replace hpc:=hpc.mono hS)
  try (first|replace hpl:=hS hpl|replace hpl:=hpl.mono hS)
  try (first|replace hmR:=hS hmR|replace hmR:=hmR.mono hS)
  clear hS
  try replace h101:=h101.mono ku
  clear Hc ku kd
  refine zA J J (zB of72_7 J ⟨J,(xM (vs:=[.bool _,.slice _ _ _,.bool _,.slice _ _ _]) (fr:=[]) H J J kb J J J J J J Z2 O (fun s15 H=>?_))⟩)
  refine zU (zE (zB of27_0 J (zJ sh23 J H.own2 J (zN sh72 J H.own0 J (yS (c:=[.int _ _,.int _ _,.slice _ _ _,.slice _ _ _,.slice _ _ _,.bool _,.slice _ _ _,.bool _,.slice _ _ _,.bool _,.slice _ _ _,.bool _,.slice _ _ _,.bool _,.slice _ _ _,.bool _,.slice _ _ _,.bool _,.slice _ _ _,.bool _,.slice _ _ _,.bool _,.slice _ _ _,.bool _,.slice _ _ _]) H sl23 J J O (fun b149 s16 H=>?_))))))
  have hgt:=H.own0
  have H:=HL.mid (A:=[_,_,_,_]) (B:=Dp) (C:=Da++Φ) H.drop0
  refine qi (L:=_) (D:=Dp) H hop sl23 un23 J J J W0 U J J O O (fun b150 s150 H hop=>?_)
  simp only[List.cons_append,List.nil_append]at H
  refine zB of27_0 J (vP (vs:=[.slice _ _ _]) H sz23 J J J J J O (fun s17 H=>?_))
  refine zD ?_
  have htm0:=Int.tmod_nonneg 4 (show 0≤4-q by omega)
  have htm3:=Int.tmod_lt_of_pos (4-q) (show(0:Int)<4 by decide)
  obtain⟨Dp,vp,pcs,hlp9,hop,hpc,H⟩:=piece_done H hop hpc ⟨_,_,_,_,_,_,_,_,_,_,_,_,_,_,_,P,_,rfl,rfl,slG4 hmR hP4 U,hsP.le U,hP4,h101⟩
  replace hlp:pcs.length=i+1:=by omega
  refine zE (zF J fc37 J (kn (still05_ok hI H.fine (knU3 hK H) Z4) (fun s9 D9 n5 a5 m5 c5 n5d a5d m5d c5d n5y a5y m5y c5y n5yd a5yd m5yd c5yd Hc h105a h105b=>?_)))
  obtain⟨Φ,ku,kd,hS,H⟩:=mergeSU3 (K:=K) H Hc
  try (first|replace hcr:=hS hcr|replace hcr:=hcr.mono hS)
  try (first|replace hpc:=hS hpc|replace hpc:=hpc.mono hS)
  try (first|replace hpl:=hS hpl|replace hpl:=hpl.mono hS)
  try (first|replace hmR:=hS hmR|replace hmR:=hmR.mono hS)
  clear hS
  replace h105a:=h105a.mono kd
  replace h105b:=h105b.mono kd
  clear Hc ku kd
  refine zS H zf36 O (fun b16 s18 H=>?_)
  refine zT (vs:=[.bool _,.slice _ _ _,.bool _,.slice _ _ _,.bool _,.slice _ _ _,.bool _,.slice _ _ _]) H jo J J J J J O (fun s19 H=>?_)
  refine zD (yE (zE (zG (zD (yR (xR (fun k F s1=>∃(G:FF) (c m4:Nat) (t:Q2) (Φ:Hp') (n31:Bool) (a31:Option Addr) (m31 c31:Nat) (n32:Bool) (a32:Option Addr) (m32 c32:Nat) (n33:Bool) (a33:Option Addr) (m33 c33:Nat) (n34:Bool) (a34:Option Addr) (m34 c34:Nat),F=lay G [(0,vl),(2,.pointer (some ⟨b2,0,none⟩)),(6,.slice (some ⟨bl,0,none⟩) 4 8),(7,.int .i64 (2+z68)),(8,.pointer (some ⟨b8,0,none⟩)),(9,.int .i64 (i:Int)),(10,.int .i64 q),(11,.pointer (some ⟨b11,0,none⟩)),(16,.pointer (some ⟨b16,0,none⟩)),(17,.int .i64 (c:Int))]∧HL [] s s1 ((b16,.cells [.bool n31,.slice a31 m31 c31,.bool n32,.slice a32 m32 c32,.bool n33,.slice a33 m33 c33,.bool n34,.slice a34 m34 c34] 36)::(b11,.cells [.int .i64 x,.int .i64 y] 77)::(b8,.cells [vp,.slice none 0 0,va] 27)::(b2,.cells [.slice none 0 0,.slice none 0 0,.slice none 0 0] 27)::(Dp++(Da++Φ))) m4∧m4≤m+60000+c*1000∧(c:Int)≤(4-q).tmod 4∧k=4-c∧Tn 1 t∧RatK (KX K Φ) n31 a31 m31 c31 n32 a32 m32 c32 t.1 1 1∧RatK (KX K Φ) n33 a33 m33 c33 n34 a34 m34 c34 t.2 1 1∧Crn Φ (.slice (some ⟨bl,0,none⟩) 4 8)∧PcsG K Φ pcs∧PlsG K Φ pls) ?_ 4 _ _ ?_))))))
  rotate_left
  ·exact⟨_,0,_,wC,Φ,_,_,_,_,_,_,_,_,_,_,_,_,_,_,_,_,yZ ⟨J,J,J,J,J,J,J,J,J,J,trivial⟩,H,by omega,by omega,by omega,tn_still,h105a,h105b,hcr,hpc,hpl⟩
  rintro k F s1 ⟨G,c,m4,t,Φ,n31,a31,m31,c31,n32,a32,m32,c32,n33,a33,m33,c33,n34,a34,m34,c34,rfl,H,hm4,hc,rfl,ht,hX,hY,hcr,hpc,hpl⟩
  refine yE (zE (zC J (zC J (qC J J Y (kE J J O (xB J J (fun h=>?_) (fun h=>?_)))))))
  ·refine zD (yJ rfl (yN (zR (yE (yR (wT [⟨0,0,.light,[4]⟩,⟨1,1,.light,[4]⟩,⟨3,0,.light,[1]⟩,⟨4,8,.light,[1]⟩,⟨2,3,.whole,[4]⟩,⟨5,31,.light,[]⟩,⟨6,63,.whole,[]⟩] Z0 Z0 (zA J J (zB kM J ⟨J,(zQ J J xC J H.own0 Y0 J (zA J J (zB kN J ⟨J,(zQ J J xC J H.own0 Y0 J (zM J J (zF J fc38 J (qe (neg04_ok hI (Fine.pr H.fine (xW H.lt0 qO)) ((knU4 hK H).heap J Z3) hY U Z4) (fun s9 D9 n6 a6 m6 c6 n6d a6d m6d c6d Hc h106=>?_)))))⟩)))⟩))))))))
   have Hc:=HL.wider H.fine Z3 Z5 Hc
   obtain⟨Φ,ku,kd,hS,H⟩:=mergeSU4 (K:=K) H Hc
   try (first|replace hcr:=hS hcr|replace hcr:=hcr.mono hS)
   try (first|replace hpc:=hS hpc|replace hpc:=hpc.mono hS)
   try (first|replace hpl:=hS hpl|replace hpl:=hpl.mono hS)
   try (first|replace hmR:=hS hmR|replace hmR:=hmR.mono hS)
   clear hS
   try replace hX:=hX.mono ku
   try replace hY:=hY.mono ku
   replace h106:=h106.mono kd
   clear Hc ku kd
   refine zA J J (xE (c:=[.bool _,.slice _ _ _,.bool _,.slice _ _ _,.bool _,.slice _ _ _,.bool _,.slice _ _ _]) bf36 J ⟨J,(xM (vs:=[.bool _,.slice _ _ _,.bool _,.slice _ _ _,.bool _,.slice _ _ _,.bool _,.slice _ _ _]) (fr:=[]) H J J jo J J J J J J Z2 O (fun s20 H=>?_))⟩)
   refine zU (xF (zR (yA (zC J (yH J J Y (zL J (zD (xG (⟨4-(c+1),by omega,_,c+1,_,(-t.2,t.1),Φ,_,_,_,_,_,_,_,_,_,_,_,_,_,_,_,_,yZ ⟨J,J,J,J,J,J,J,J,J,J,trivial⟩,H,by omega,by omega,J,ht.quarter,h106,hX,hcr,hpc,hpl⟩)))))))))
  refine zD (yL rfl (ql (xU (xZ (xX (zR (wT [⟨0,0,.light,[2,4,6,8]⟩,⟨1,1,.light,[2,4,6,8]⟩,⟨2,0,.light,[1,4,6,8]⟩,⟨3,0,.light,[1,2,4,6,8]⟩,⟨4,0,.light,[1,2,6,8]⟩,⟨5,0,.light,[1,2,4,8]⟩,⟨6,32,.light,[1,2,4,8]⟩,⟨7,0,.light,[1,2,4,6]⟩,⟨8,128,.light,[1,2,4,6]⟩,⟨9,480,.whole,[1,2,4]⟩,⟨10,1008,.whole,[1,2]⟩,⟨11,2040,.whole,[1,2]⟩,⟨12,4092,.light,[1]⟩,⟨13,8188,.whole,[1]⟩,⟨14,16383,.whole,[]⟩,⟨15,32767,.light,[]⟩,⟨16,65535,.whole,[]⟩] Z0 Z0 (zA J J (zB of27_2 J ⟨J,(zV J J sh25 J H.own2 Y2 J (zQ J J kU J H.own0 Y0 J (zA J J (xE (c:=[.bool _,.slice _ _ _,.bool _,.slice _ _ _,.bool _,.slice _ _ _,.bool _,.slice _ _ _]) bf38 J ⟨J,?_⟩))))⟩)))))))))
  refine zQ J J kU J H.own0 Y0 J (zA J J (zB of77_0 J ⟨J,(zV J J sh3 J H.own1 Y1 J (zA J J (zB of77_1 J ⟨J,(zV J J sh3 J H.own1 Y1 J (zM J J (zF J fc41 J (kn (of05_ok hI (Fine.pr H.fine (xW H.lt2 (xW H.lt0 (xW H.lt0 qO)))) ((knU4 hK H).heap J Z3) O O (N:=4) U Z4) (fun s9 D9 n7 a7 m7 c7 n7d a7d m7d c7d n7y a7y m7y c7y n7yd a7yd m7yd c7yd Hc h107a h107b=>?_)))))⟩)))⟩))
  have Hc:=HL.wider H.fine Z3 Z5 Hc
  obtain⟨Φ,ku,kd,hS,H⟩:=mergeSU4 (K:=K) H Hc
  try (first|replace hcr:=hS hcr|replace hcr:=hcr.mono hS)
  try (first|replace hpc:=hS hpc|replace hpc:=hpc.mono hS)
  try (first|replace hpl:=hS hpl|replace hpl:=hpl.mono hS)
  try (first|replace hmR:=hS hmR|replace hmR:=hmR.mono hS)
  clear hS
  try replace hX:=hX.mono ku
  try replace hY:=hY.mono ku
  replace h107a:=h107a.mono kd
  replace h107b:=h107b.mono kd
  clear Hc ku kd
  refine zM J J (zF J fc40 J (kn (rotate05_ok hI (Fine.pr H.fine (xW H.lt2 (xW H.lt0 qO))) ((knU4 hK H).heap J Z3) hX hY h107a h107b U U U U U U Z4) (fun s9 D9 n8 a8 m8 c8 n8d a8d m8d c8d n8y a8y m8y c8y n8yd a8yd m8yd c8yd Hc h108a h108b=>?_)))
  have Hc:=HL.wider H.fine Z3 Z5 Hc
  obtain⟨Φ,ku,kd,hS,H⟩:=mergeSU4 (K:=K) H Hc
  try (first|replace hcr:=hS hcr|replace hcr:=hcr.mono hS)
  try (first|replace hpc:=hS hpc|replace hpc:=hpc.mono hS)
  try (first|replace hpl:=hS hpl|replace hpl:=hpl.mono hS)
  try (first|replace hmR:=hS hmR|replace hmR:=hmR.mono hS)
  clear hS
  try replace hX:=hX.mono ku
  try replace hY:=hY.mono ku
  replace h108a:=h108a.mono kd
  replace h108b:=h108b.mono kd
  clear Hc ku kd
  refine zM J J (zF J fc39 J (kn (js hI (Fine.pr H.fine (xW H.lt2 (xW H.lt0 qO))) ((knU4 hK H).heap J Z3) RatK.nil RatK.nil h108a h108b U U Z4) (fun s9 D9 n9 a9 m9 c9 n9d a9d m9d c9d n9y a9y m9y c9y n9yd a9yd m9yd c9yd Hc h109a h109b=>?_)))
  have Hc:=HL.wider H.fine Z3 Z5 Hc
  obtain⟨Φ,ku,kd,hS,H⟩:=mergeSU4 (K:=K) H Hc
  try (first|replace hcr:=hS hcr|replace hcr:=hcr.mono hS)
  try (first|replace hpc:=hS hpc|replace hpc:=hpc.mono hS)
  try (first|replace hpl:=hS hpl|replace hpl:=hpl.mono hS)
  try (first|replace hmR:=hS hmR|replace hmR:=hmR.mono hS)
  clear hS
  try replace hX:=hX.mono ku
  try replace hY:=hY.mono ku
  clear Hc ku kd
  refine zA J J (xE (c:=[.bool _,.slice _ _ _,.bool _,.slice _ _ _,.bool _,.slice _ _ _,.bool _,.slice _ _ _,.bool _,.slice _ _ _,.bool _,.slice _ _ _,.bool _,.slice _ _ _,.bool _,.slice _ _ _]) bf54 J ⟨J,(zM J J (yS (c:=[.bool _,.slice _ _ _,.bool _,.slice _ _ _,.bool _,.slice _ _ _,.bool _,.slice _ _ _,.bool _,.slice _ _ _,.bool _,.slice _ _ _,.bool _,.slice _ _ _,.bool _,.slice _ _ _]) (Fine.pr H.fine (xW H.lt2 qO)).hl sl25 J J Z4 (fun b179 s21 Hc=>?_)))⟩)
  have H:=H.call X7
  clear Hc
  have hgt:=H.own0
  have H0:=H
  have H:=HL.mid2 (A:=[_,_,_,_]) (B:=Dp) (C:=Da) (E:=Φ) H.drop0
  refine zM J J (qi (L:=_) (D:=Da) H hoa sl25 un25 J J J W0 U J J O O (fun b180 s180 H hoa=>?_))
  simp only[List.cons_append,List.nil_append]at H
  have H:=HL.same H0 H
  refine zA J J (zB of27_2 J ⟨J,(vU (vs:=[.slice _ _ _]) (fr:=[]) H J J sz25 J J J J J J Z2 O (fun s22 H=>?_))⟩)
  refine zU (xF (zR (yA (zC J (yH J J Y (zL J (zD (xG ?_))))))))
  obtain⟨Da,va,pls,hla9,hoa,hpl,H⟩:=place_done H hoa hpl ⟨[.bool n31,.slice a31 m31 c31,.bool n32,.slice a32 m32 c32,.bool n33,.slice a33 m33 c33,.bool n34,.slice a34 m34 c34],[_,_,_,_,_,_,_,_],t,rfl,VecK.of hX hY,ht,rfl⟩
  refine⟨4-(i+1),by omega,_,i+1,_,_,_,_,pcs,pls,Dp,Da,Φ,yZ ⟨J,J,J,J,J,J,trivial⟩,H,by omega,by omega,by omega,J,hop,hoa,by omega,by omega,hcr,hpc,hpl⟩
 refine zD (yL rfl (ql (xU (xZ (xX (zR ?_))))))
 obtain⟨ap,cp,rfl⟩:=hop.isSlice
 have hmn:(pcs.length:Int)=2+z68:=by omega
 obtain⟨Φ,hS,hSp,hSa,H⟩:=freeze2 H
 have hsp:=(Own.slG (all_len fun k hk=>(hpc.pc k hk).len) hop).mono hSp
 have hsa:=(Own.slG (all_len fun k hk=>(hpl.pl k hk).len) hoa).mono hSa
 replace hpc:=hpc.mono hS
 replace hpl:=hpl.mono hS
 refine zE (xE (c:=[.int _ _,.int _ _,.int _ _,.int _ _]) bf87 J (xE (c:=[.int _ _,.int _ _,.int _ _,.int _ _]) bf87 J (xE (c:=[.int _ _,.int _ _,.int _ _,.int _ _]) bf87 J (xE (c:=[.int _ _,.int _ _,.int _ _,.int _ _]) bf87 J (yS (c:=[.int _ _,.int _ _,.int _ _,.int _ _,.int _ _,.int _ _,.int _ _,.int _ _,.int _ _,.int _ _,.int _ _,.int _ _,.int _ _,.int _ _,.int _ _,.int _ _]) H sl88 J J O (fun b186 s23 H=>?_))))))
 refine yU J (zD (yE (zE (zG (zD (yR (xR (fun k F s1=>∃(G:FF) (i m:Nat) (vf:Value) (fits:List Ft) (T:Nat→Q2) (Df Φ:Hp'),F=lay G [(2,.pointer (some ⟨b2,0,none⟩)),(7,.int .i64 (2+z68)),(8,.pointer (some ⟨b8,0,none⟩)),(18,.slice (some ⟨b186,0,none⟩) 4 8),(19,.int .i64 (i:Int))]∧HL [] s s1 ((b186,.cells [.int .i64 0,.int .i64 1,.int .i64 1,.int .i64 3,.int .i64 0,.int .i64 3,.int .i64 2,.int .i64 0,.int .i64 1,.int .i64 2,.int .i64 2,.int .i64 0,.int .i64 2,.int .i64 3,.int .i64 3,.int .i64 1] 87)::(b8,.cells [.slice ap pcs.length cp,vf,va] 27)::(b2,.cells [.slice none 0 0,.slice none 0 0,.slice none 0 0] 27)::(Df++Φ)) m∧m≤812000000+i*1200000∧i≤4∧k=4-i∧Own 40 29 Df vf (fits.map Ft.cells).flatten fits.length∧fits.length≤i∧(1≤i→1≤fits.length)∧SlG Φ 72 25 (.slice ap pcs.length cp) pcs∧SlG Φ 54 16 va pls∧PcsG K Φ pcs∧PlsG K Φ pls∧FtsG K Φ fits T (pcs.length:Int)) ?_ 4 _ _ ?_)))))))
 rotate_left
 ·exact⟨_,0,_,_,[],fun _=>wC,[],Φ,yZ ⟨J,J,J,J,J,trivial⟩,H,by omega,by omega,by omega,.nil,Nat.le_refl _,fun h=>by omega,hsp,hsa,hpc,hpl,FtsG.nil⟩
 rintro k F s1 ⟨G,i,m,vf,fits,T,Df,Φ,rfl,H,hm,hi,rfl,hof,hfi,hf1,hsp,hsa,hpc,hpl,hft⟩
 refine yE (zE (zC J (xB J J (fun h=>?_) (fun h=>?_))))
 ·refine zD (yJ rfl (yN (zR (yE (yR ?_)))))
  obtain⟨x,y,ea,eb,hcx,hxy,hy3,hea,heb,hi0⟩:=pairs_at (i:=i) O
  refine zE (zH J (zC J (zP el88 J J O O (zN sh87 J H.own0 hcx (zS H zf87 O (fun b20 s24 H=>?_))))))
  refine zT (vs:=[.int _ _,.int _ _,.int _ _,.int _ _]) H sz87 J J J J J O (fun s25 H=>?_)
  refine zD (zE (vR el87 J J O O (zJ sh3 J H.own0 J (zC J (xB J J (fun h=>?_) (fun h=>?_))))))
  ·refine zD (yJ rfl (wT [⟨0,0,.light,[2,4,6,8,10]⟩,⟨1,1,.light,[2,4,6,8,10]⟩,⟨2,0,.light,[1,4,6,8,10]⟩,⟨3,0,.light,[1,2,6,8,10]⟩,⟨4,8,.light,[1,2,6,8,10]⟩,⟨5,0,.light,[1,2,4,8,10]⟩,⟨6,32,.light,[1,2,4,8,10]⟩,⟨7,0,.light,[1,2,4,6,10]⟩,⟨8,128,.light,[1,2,4,6,10]⟩,⟨9,0,.light,[1,2,4,6,8]⟩,⟨10,512,.light,[1,2,4,6,8]⟩,⟨11,2044,.whole,[1]⟩,⟨12,4092,.whole,[1]⟩,⟨13,8191,.whole,[]⟩,⟨14,16383,.light,[]⟩,⟨15,32767,.whole,[]⟩] Z0 Z0 (zA J J (zB of27_1 J ⟨J,(zV J J sh24 J H.own2 Y2 J (zQ J J sh27 J H.own2 Y2 J (zA J J (vR el87 J J O O ⟨J,(zV J J sh3 J H.own0 Y0 J (zA J J (vR el87 J J O O ⟨J,(zV J J sh3 J H.own0 Y0 J (zA J J (vR el87 J J O O ⟨J,(zV J J sh3 J H.own0 Y0 J ?_)⟩)))⟩)))⟩))))⟩))))
   refine zA J J (vR el87 J J O O ⟨J,(zV J J sh3 J H.own0 Y0 J (zM J J (zF J fc42 J (callF (K:=KX K Φ) (joined14_ok hI (Fine.pr H.fine (xW H.lt2 qO)) ((knV4 hK H).heap J Z3) ((hsp.sl H Z8).heap J Z3) ((hsa.sl H Z8).heap J Z3) (hpc.pcs H Z8 J Z3) hpl.pl (x:=x) (y:=y) O O O O O O O O O O Z4) (fun s9 D9 f q y0 y1 y2 y3 y4 y5 y6 y7 y8 y9 y10 y11 y12 y13 y14 y15 y16 y17 y18 y19 y20 y21 y22 y23 y24 y25 y26 y27 y28 hfc Hc hfk hfa hfb=>?_)))))⟩)
   have Hc:=HL.wider H.fine Z3 Z5 Hc
   obtain⟨Φ,ku,kd,hS,H⟩:=mergeSV4 (K:=K) H Hc
   replace hsp:=hsp.mono hS
   replace hsa:=hsa.mono hS
   replace hpc:=hpc.mono hS
   replace hpl:=hpl.mono hS
   replace hft:=hft.mono hS
   replace hfk:=hfk.mono kd
   clear Hc ku kd hS
   refine zM J J (yS (c:=[y0,y1,y2,y3,y4,y5,y6,y7,y8,y9,y10,y11,y12,y13,y14,y15,y16,y17,y18,y19,y20,y21,y22,y23,y24,y25,y26,y27,y28]) (Fine.pr H.fine (xW H.lt2 qO)).hl sl24 J J Z4 (fun b211 s211 Hc=>?_))
   have H:=H.call X7
   clear Hc
   have hgt:=H.own0
   have H0:=H
   have H:=HL.mid (A:=[_,_,_,_]) (B:=Df) (C:=Φ) H.drop0
   refine zM J J (qi (L:=_) (D:=Df) H hof sl24 un24 J J J W0 U (by rw[←hfc];exact hfk.plain) J O O (fun b212 s212 H hof=>?_))
   simp only[List.cons_append,List.nil_append]at H
   have H:=HL.same H0 H
   refine zA J J (zB of27_1 J ⟨J,(vU (vs:=[.slice _ _ _]) (fr:=[]) H J J sz24 J J J J J J Z2 O (fun s26 H=>?_))⟩)
   refine zU (xF (zR (yA (zC J (yH J J Y (zL J (zD (xG ?_))))))))
   obtain⟨Df,vf,hof,H⟩:=fits_done H hfc hof
   obtain⟨T,hft⟩:=hft.snoc hfk O O O
   refine⟨4-(i+1),by omega,_,i+1,_,_,fits++[f],T,_,Φ,yZ ⟨J,J,J,J,J,trivial⟩,H,by omega,by omega,J,hof,by rw[List.length_append,List.length_singleton];omega,fun _=>by rw[List.length_append,List.length_singleton];omega,hsp,hsa,hpc,hpl,hft⟩
  refine zD (yL rfl (yN (xF (zR (yA (zC J (yH J J Y (zL J (zD (xG (⟨4-(i+1),by omega,_,i+1,_,_,fits,T,_,Φ,yZ ⟨J,J,J,J,J,trivial⟩,H.drop0,by omega,by omega,J,hof,by omega,fun _=>(Nat.eq_zero_or_pos i).elim (fun h0=>by have:=hi0 h0;omega) hf1,hsp,hsa,hpc,hpl,hft⟩)))))))))))
 refine zD (yL rfl (ql (xU (xZ (xX (zR ?_))))))
 obtain⟨af,cf,rfl⟩:=hof.isSlice
 obtain⟨aa,ca,rfl⟩:=hoa.isSlice
 refine zE (zN sh27 J H.own1 J (vQ (vs:=[.slice _ _ _,.slice _ _ _,.slice _ _ _]) H sz27 J J J J J O (fun s27 H=>?_)))
 refine zD (yO (yB (yP sh27 J H.own2 J ?_)))
 exact⟨Df++Φ,fits,T,pcs.length,ap,cp,_,_,_,_,J,H.drop0.drop0.drop0.up O,(Own.slG (es:=fits.map Ft.cells) hft.all (by rw[List.length_map];exact hof)).mono W1,hft.mono W2,by omega,by omega,hf1 O,by omega⟩
end Go.Proofs.YtocnbjjmmgolfaaGreat
namespace Go.Proofs.YtocnbjjmmgolfaaGreat
open Go Go.M Go.Proofs.C14
theorem el24:elemF Tryz.prog 24=some (true,0,29):=by kernel_rfl
theorem fb9:xK Tryz.f9 (Tryz.f9.body.getD .skip) 3=true:=by kernel_rfl
theorem fc43:xJ Tryz.prog 43=true:=by kernel_rfl
theorem vV:wZ Tryz.prog 40 0=some 0:=by kernel_rfl
theorem wJ:wZ Tryz.prog 40 1=some 1:=by kernel_rfl
theorem lover_app{α:Type}:∀{l a a' b:List α},lover l a=some a'→lover l (a++b)=some (a'++b)
 | [],_,_,_,h=>by simp only[lover,Option.some.injEq]at h ⊢;rw[h]
 |_::_,[],_,_,h=>by simp[lover]at h
 |v::l,x::a,a',b,h=>by
  simp only[lover,List.cons_append]at h ⊢
  split at h
  ·next r hr=>rw[lover_app hr];cases h;rfl
  ·cases h
theorem lput_apx{α:Type}:∀{j:Nat} {l a a' b:List α},ky j l a=some a'→ky j l (a++b)=some (a'++b)
 |0,_,_,_,_,h=>lover_app h
 |_+1,_,[],_,_,h=>by simp[ky]at h
 |j+1,l,x::a,a',b,h=>by
  simp only[ky,List.cons_append]at h ⊢
  split at h
  ·next r hr=>rw[lput_apx hr];cases h;rfl
  ·cases h
theorem lput_skip{α:Type}{k:Nat}{l b b':List α}(h:ky k l b=some b'):∀a:List α,ky (a.length+k) l (a++b)=some (a++b')
 | []=>by rw[List.length_nil,Nat.zero_add];exact h
 |x::a=>by
  rw[List.length_cons,show a.length+1+k=(a.length+k)+1 by omega]
  simp only[ky,List.cons_append,lput_skip h a]
theorem lover_ex{α:Type}:∀{l c:List α},l.length≤c.length→lover l c=some (l++c.drop l.length)
 | [],_,_=>rfl
 |_::_,[],h=>by simp at h
 |v::l,x::c,h=>by
  simp only[List.length_cons]at h
  simp only[lover,lover_ex (l:=l) (c:=c) O]
  rfl
theorem lput_flat{sz j:Nat}{l e':List Value}:∀{es:List (List Value)} (_:∀x∈es,x.length=sz) {i:Nat} (_:i<es.length) (_:ky j l (es.getD i [])=some e'),ky (i*sz+j) l es.flatten=some (es.set i e').flatten
 | [],_,_,hi,_=>by simp at hi
 |x::es,hz,0,_,he=>by
  rw[Nat.zero_mul,Nat.zero_add,List.flatten_cons,List.set_cons_zero,List.flatten_cons]
  exact lput_apx he
 |x::es,hz,i+1,hi,he=>by
  have h1:=lput_flat (es:=es) (fun y hy=>hz y (List.mem_cons_of_mem _ hy)) (i:=i) (by simpa using hi) he
  rw[List.flatten_cons,List.set_cons_succ,List.flatten_cons,Nat.add_mul,Nat.one_mul,show i*sz+sz+j=x.length+(i*sz+j)by rw[hz x (List.mem_cons_self ..)];omega]
  exact lput_skip h1 x
def FtsA(K:Kw)(l:List Ft):Prop:=∀f∈l,∃q,FtK K f q
variable{K:Kw}{l:List Ft}{N b by_ cap i k m sz:Nat}{q:Q2}{r z:List Value}{e t:TypeId}{a:Int}{s':St}{Φ:Hp'}
theorem FtsA.mono{K':Kw}(h:FtsA K l)(hs:KLe K K'):FtsA K' l:=fun f hf=>(h f hf).imp fun _ h=>h.mono hs
theorem FtsK.any{T:Nat→Q2}(h:FtsK K l T):FtsA K l:=fun f hf=>by
 obtain⟨k,hk,rfl⟩:=List.mem_iff_getElem.mp hf
 have:=h.fit k hk
 rw[List.getD_eq_getElem?_getD,List.getElem?_eq_getElem hk]at this
 exact⟨_,this⟩
theorem FtsA.fts(h:FtsA K l):∃T,FtsK K l T:=by
 have h2:∀k,∃q,k<l.length→FtK K (l.getD k default) q:=fun k=>by
  by_cases hk:k<l.length
  ·obtain⟨q,hq⟩:=h (l.getD k default) (by rw[List.getD_eq_getElem?_getD,List.getElem?_eq_getElem hk];simp)
   exact⟨q,fun _=>hq⟩
  ·exact⟨wC,fun h=>absurd h hk⟩
 obtain⟨T,hT⟩:=Classical.axiomOfChoice h2
 exact⟨T,⟨hT⟩⟩
theorem FtsA.all(h:FtsA K l):∀x∈l.map Ft.cells,x.length=29:=fun x hx=>by
 obtain⟨f,hf,rfl⟩:=List.mem_map.mp hx
 exact(h f hf).elim fun _ h=>h.len
theorem FtsA.plain{K:Kw}:∀{l:List Ft},FtsA K l→(l.map Ft.cells).flatten.all Go.M.plainCell=true
 | [],_=>rfl
 |f::l,h=>by
  obtain⟨q,hq⟩:=h f (List.mem_cons_self ..)
  rw[List.map_cons,List.flatten_cons,List.all_append,hq.plain,FtsA.plain (l:=l) fun g hg=>h g (List.mem_cons_of_mem _ hg)]
  rfl
theorem FtsA.len(h:FtsA K l):(l.map Ft.cells).flatten.length=l.length*29:=by rw[flat_len h.all,List.length_map]
theorem FtsA.set{f:Ft}(h:FtsA K l)(hf:FtK K f q):FtsA K (l.set i f):=fun g hg=>(List.mem_or_eq_of_mem_set hg).elim (h g) fun e=>⟨q,e▸hf⟩
theorem FtsA.erase(h:FtsA K l):FtsA K (l.take i++l.drop (i+1)):=fun g hg=>(List.mem_append.mp hg).elim (fun h1=>h g (List.mem_of_mem_take h1)) fun h1=>h g (List.mem_of_mem_drop h1)
theorem FtsA.snoc{f:Ft}(h:FtsA K l)(hf:FtK K f q):FtsA K (l++[f]):=fun g hg=>(List.mem_append.mp hg).elim (h g) fun h1=>by rw[List.mem_singleton]at h1;exact⟨q,h1▸hf⟩
theorem FtsA.get(h:FtsA K l)(hi:i<l.length):∃q,FtK K (l.getD i default) q:=h _ (by rw[List.getD_eq_getElem?_getD,List.getElem?_eq_getElem hi];simp)
theorem lput_fits(h:FtsA K l){j:Nat}(hi:i<l.length){v:List Value}{f:Ft}(he:ky j v (l.getD i default).cells=some f.cells):ky (0+(i:Int).toNat*29+j) v (l.map Ft.cells).flatten=some ((l.set i f).map Ft.cells).flatten:=by
 rw[Int.toNat_natCast,Nat.zero_add,List.map_set]
 exact lput_flat h.all (by rw[List.length_map];exact hi) (by rw[jg (y:=default) hi];exact he)
theorem lput_turn{f:Ft}{l:List Value}(h1:f.t.length=8)(h2:l.length=8):ky 5 l f.cells=some ({f with t:=l}:Ft).cells:=by
 have:lover l (f.t++(f.lo++f.hi))=some (l++(f.lo++f.hi)):=lover_app (by rw[lover_ex O,List.drop_eq_nil_of_le O,List.append_nil])
 simp only[Ft.cells,ky,this]
theorem lput_cut(h:FtsA K l)(hi:i<l.length):∃r,ky (i*29) ((l.drop (i+1)).map Ft.cells).flatten (l.map Ft.cells).flatten=some (((l.take i++l.drop (i+1)).map Ft.cells).flatten++r):=by
 have e1:(l.map Ft.cells).flatten=((l.take i).map Ft.cells).flatten++((l.drop i).map Ft.cells).flatten:=by rw[←List.flatten_append,←List.map_append,List.take_append_drop]
 have e2:((l.take i).map Ft.cells).flatten.length=i*29:=by
  rw[(show FtsA K (l.take i)from fun g hg=>h g (List.mem_of_mem_take hg)).len,List.length_take,Nat.min_eq_left O]
 have e3:((l.drop (i+1)).map Ft.cells).flatten.length≤((l.drop i).map Ft.cells).flatten.length:=by
  rw[(show FtsA K (l.drop i)from fun g hg=>h g (List.mem_of_mem_drop hg)).len,(show FtsA K (l.drop (i+1))from fun g hg=>h g (List.mem_of_mem_drop hg)).len,List.length_drop,List.length_drop]
  omega
 have h1:=lput_skip (k:=0) (lover_ex e3) ((l.take i).map Ft.cells).flatten
 rw[e2,Nat.add_zero,←e1]at h1
 exact⟨_,by rw[h1,List.map_append,List.flatten_append,List.append_assoc]⟩
theorem drop_flat(h:FtsA K l)(hi:i≤l.length):(l.map Ft.cells).flatten.drop (i*29)=((l.drop i).map Ft.cells).flatten:=by
 have e1:(l.map Ft.cells).flatten=((l.take i).map Ft.cells).flatten++((l.drop i).map Ft.cells).flatten:=by rw[←List.flatten_append,←List.map_append,List.take_append_drop]
 have e2:((l.take i).map Ft.cells).flatten.length=i*29:=by
  rw[(show FtsA K (l.take i)from fun g hg=>h g (List.mem_of_mem_take hg)).len,List.length_take,Nat.min_eq_left hi]
 rw[e1,←e2,List.drop_left]
theorem ltake_app{α:Type}{c l r:List α}(h:qX m c=some l):qX m (c++r)=some l:=by
 rw[vE]at h ⊢
 split at h
 ·rw[if_pos (by rw[List.length_append];omega),List.take_append_of_le_length Z1];exact h
 ·cases h
theorem flat_get_app{es:List (List Value)}(h:∀x∈es,x.length=sz)(hk:k<es.length):qX sz (kw (0+k*sz) (es.flatten++r))=some (es.getD k []):=by
 have h1:=flat_get h hk
 have h2:0+k*sz≤es.flatten.length:=by
  rw[flat_len h];have:=Nat.mul_le_mul_right sz (Nat.le_of_lt hk);omega
 rw[vN,List.drop_append_of_le_length h2]
 rw[vN]at h1
 exact ltake_app h1
section
variable{P:Program}{I:xP}{F:FF}{s:St}{Q:FF→St→Prop}{d:Option Tmp}{ty:TypeId}{pos:String}{af:Array Edge}{g:Option (Nat×Bool)}
variable{W:List Nat}{s0:St}{L:Hp'}{n:Nat}
theorem op_copy{args:Array Operand}{ts:Array TypeId}{t2 e2:TypeId}{tr:List TypeId}{x y:Operand}{l:List Value}(H:HL W s0 s ((b,.cells [] e)::L) n)(hs:q6 P t=some (e,sz,by_,z))(hu2:P.underlying t2=some (.slice e2))
  (ht:ts.toList=t::t2::tr) (ha:args.toList=[x,y]) (hx:yQ F x=.slice (some ⟨b,0,none⟩) 0 0) (he:jC s sz (yQ F y) m l) (hm:0<m) (hp:l.all Go.M.plainCell=true) (hl:l.length=m*sz) (hb:m*(by_+1)≤1073741824) (hr:s0.next+n<yC)
  (k:∀b' s',HL W s0 s' ((b',.cells l e)::L) (n+1)→Q (upd F d (.slice (some ⟨b',0,none⟩) m (2*m+1))) s'):OpW P I ⟨d,.call ⟨.builtin .append,args,ts⟩,ty,pos,af,g⟩ F s Q:=by
 refine op_appendEven H hs hu2 ht ha hx he H.own0 (by rw[Nat.zero_mul];rfl) O J hp hl (by rw[Nat.zero_add];exact hb) hr (fun b' s' H'=>?_)
 rw[Nat.zero_add]
 exact k b' s' H'.drop1
theorem op_sliceLoU{x lo:Operand}{off len:Nat}{c:List Value}{kd:IntKind}(hs:q6 P t=some (e,sz,by_,z))(hx:yQ F x=.slice (some ⟨b,off,none⟩) len cap)(hh:yQ F lo=.int kd a)(hm:a=(m:Int))(hg:s.get b=some (.cells c e))(h1:m≤len)(h2:len≤cap / 2)(h:cap % 2=1)
  (k:Q (upd F d (.slice (some ⟨b,off+m*sz,none⟩) (len-m) (2*(cap / 2-m)+1))) s):OpW P I ⟨d,.slice t x (some lo) none none,ty,pos,af,g⟩ F s Q:=by
 obtain⟨hu,inf,z',hi',rfl,rfl,hz,hz1,hz2⟩:=kz hs
 subst hm
 have hb:(Nat.ble m len&&Nat.ble len (cap / 2)&&Nat.ble (cap / 2) (cap / 2)&&((none:Option Value).isSome || !(none:Option Value).isSome))=true:=by
  simp only[Bool.and_eq_true]
  exact⟨⟨⟨Nat.ble_eq_true_of_le h1,Nat.ble_eq_true_of_le h2⟩,Nat.ble_eq_true_of_le Z3⟩,J⟩
 have hrow:rowB e (some ⟨b,off,none⟩) cap s=true:=by
  simp only[rowB,hg,Nat.beq_refl]
  split<;>rfl
 have hadd:∀n,Option.map (fun x=>x.add n) (some (⟨b,off,none⟩:Addr))=some ⟨b,off+n,none⟩:=fun n=>by
  simp only[Option.map_some,Addr.add]
  split
  ·next h=>rw[h];rfl
  ·rfl
 refine qf (v:=.slice (some ⟨b,off+m*inf.size,none⟩) (len-m) (2*(cap / 2-m)+1)) (s':=s) ?_ k
 simp only[yX,sliceM,hu,hi',hx,Option.map_none,Option.map_some,hh,h]
 simp only[hrow,jp,kv (v:=some (.int kd (m:Int))) (d:=0) (m:=m) (.inr ⟨kd,rfl⟩),kv (v:=none) (d:=len) (m:=len) (.inl ⟨rfl,rfl⟩),kv (v:=none) (d:=cap / 2) (m:=cap / 2) (.inl ⟨rfl,rfl⟩),hb,Bool.false_or]
 rw[hadd]
 rfl
end
def PostFts(K:Kw)(s:St)(k m:Nat)(v:Value)(s':St):Prop:=∃D fits,HL [] s s' D k∧SlG D 40 29 v (fits.map Ft.cells)∧FtsA (KX K D) fits∧fits.length≤m
theorem aroundJ{I:xP}(hI:xA I){s:St}{n:Int}(ha:qp a)(hn:0<n){Q:Value→St→Prop}(c:∀j:Nat,(j:Int)<n→Q (.int .i64 (j:Int)) s):∃v' s',xN Tryz.prog I 10 #[.int .i64 a,.int .i64 n] s v' s'∧Q v' s':=by
 obtain⟨_,_,hr,rfl,rfl⟩:=around_ok hI ha (show n≠0 by omega)
 refine⟨_,_,hr,?_⟩
 obtain⟨h0,h1⟩:=jh (a:=a) hn
 have:=c (wU a n).toNat (by rw[Int.toNat_of_nonneg h0];exact h1)
 rwa[Int.toNat_of_nonneg h0]at this
theorem quo4_in(ha:qp a):qp (a.tdiv 4):=by
 unfold qp at *
 have h1:(a.tdiv 4).natAbs=a.natAbs / (4:Int).natAbs:=Int.natAbs_tdiv a 4
 have h2:(4:Int).natAbs=4:=rfl
 rw[h2]at h1
 omega
theorem postFts{s:St}{n:Nat}(H:HL [] s s' ((b,.cells ((l.map Ft.cells).flatten++r) 40)::Φ) n)(hA:FtsA (KX K Φ) l)(hN:N=l.length)(hc:N≤cap / 2)(hm:N≤m)(hk:n≤k):PostFts K s k m (.slice (some ⟨b,0,none⟩) N cap) s':=by
 subst hN
 exact⟨_,l,H.up hk,.block b 0 cap _ (by rw[List.length_map]) (List.mem_cons_self ..) (by rw[List.length_map];exact hc) fun j hj=>flat_get_app hA.all hj,hA.mono (wW (List.subset_cons_self _ _)),hm⟩
theorem postFts0{s:St}{n:Nat}(H:HL [] s s' ((b,.cells (l.map Ft.cells).flatten 40)::Φ) n)(hA:FtsA (KX K Φ) l)(hN:N=l.length)(hc:N≤cap / 2)(hm:N≤m)(hk:n≤k):PostFts K s k m (.slice (some ⟨b,0,none⟩) N cap) s':=
 postFts (r:=[]) V8 hA hN hc hm hk
theorem tm5(n:Nat):0≤(n:Int).tmod 5∧(n:Int).tmod 5≤4:=⟨Int.tmod_nonneg 5 (Int.natCast_nonneg n),by have:=Int.tmod_lt_of_pos (n:Int) (show(0:Int)<5 by decide);omega⟩
theorem td5(n:Nat):0≤(n:Int).tdiv 5∧(n:Int).tdiv 5≤n:=by rw[Int.tdiv_eq_ediv_of_nonneg (Int.natCast_nonneg n)];omega
theorem td4(n:Nat):0≤(n:Int).tdiv 4∧(n:Int).tdiv 4≤n:=by rw[Int.tdiv_eq_ediv_of_nonneg (Int.natCast_nonneg n)];omega
theorem tm55(n:Nat):0≤((n:Int).tdiv 5).tmod 5∧((n:Int).tdiv 5).tmod 5≤4:=⟨Int.tmod_nonneg 5 (Int.tdiv_nonneg (Int.natCast_nonneg n) U),by have:=Int.tmod_lt_of_pos ((n:Int).tdiv 5) (show(0:Int)<5 by decide);omega⟩
set_option maxHeartbeats 4000000 in
set_option maxRecDepth 10000 in
theorem bent14_ok{I:xP}(hI:xA I){s:St}(hf:Fine s)(hK:Kn s K){vl:Value}{fits:List Ft}(hl:Sl s 40 29 vl (fits.map Ft.cells))(hA:FtsA K fits)(h64:fits.length≤64){how by_:Int}(hhow:qp how)(hby:qp by_)(hroom:s.next+5000≤yC) :
  ∃v' s',xN Tryz.prog I 9 #[vl,.int .i64 how,.int .i64 by_] s v' s'∧PostFts K s 5000 (fits.length+1) v' s':=by
 have H:=hf.hl
 obtain⟨a,len,cap,rfl,hn⟩:=hl.isSlice
 rw[List.length_map]at hn
 subst hn
 refine zX 3 (hI 9 U U) Tryz.func9 J fb9 J ?_
 refine zE (zG (zD (yE (zE (zH J (yF un24 J J J (qh J J (fun h=>?_) (fun h=>?_))))))))
 ·refine zD (yJ rfl (zE (zG (zD (yO (xI (yB (yV ?_))))))))
  exact⟨[],[],(H.sub Z9).up O,.nil _ J J,fun _ h=>by simp at h,by simp⟩
 refine zD (yL rfl (yN (zR (zE (yS (c:=[]) H sl24 J J O (fun b14 s1 H=>?_))))))
 refine zH J ?_
 have hel:=(hl.kept H).elems hA.all U
 rw[List.length_map]at hel
 refine op_copy H sl24 un24 J J J hel O hA.plain hA.len O O (fun b16 s16 H=>?_)
 refine yU J (zD (zE (zC J (zH J (yF un24 J J J (zF J fc10 J (aroundJ hI (hby) O (fun i hi=>?_))))))))
 refine zL J (zD (zE (zC J (wY J J O (quo4_in hby) (zF J fc10 J (aroundJ hI (quo4_in hby) O (fun nn hnn=>?_)))))))
 refine zL J (zD (yE (zE (zC J (zF J fc10 J (aroundJ hI (hhow) O (fun kk hkk=>?_)))))))
 refine zD (yR ?_)
 have hi:i<fits.length:=by omega
 have h5:=tm5 nn
 have h55:=tm55 nn
 have hq5:=td5 nn
 have hq4:=td4 nn
 refine zE (qh J J (fun h=>?_) (fun h=>?_))
 ·refine zK J (zD (yJ rfl (yT [⟨0,0,.light,[]⟩,⟨1,0,.light,[]⟩,⟨3,0,.light,[]⟩,⟨4,0,.light,[]⟩,⟨5,16,.light,[]⟩,⟨2,3,.fresh,[]⟩,⟨6,56,.fresh,[]⟩,⟨7,127,.whole,[]⟩,⟨8,255,.light,[]⟩] Z0 Z0 (zA J J (zH J ⟨J,(zA J J (zC J ⟨J,(zA J J (zH J ⟨J,(zA J J (zC J ⟨J,(zA J J (yH J J Y ⟨J,(yK J J (op_sliceHi (m:=i) sl24 J J J H.own0 O (yK J J (op_sliceLoU (m:=i+1) sl24 J J O H.own0 O O O ?_))))⟩))⟩))⟩))⟩))⟩)))))
  obtain⟨r,hput⟩:=lput_cut hA hi
  have H0:=H
  refine zM J J (op_appendRoom (A:=[]) (m:=fits.length-(i+1)) H sl24 un24 J J J (elems_block H.own0 (by rw[Nat.zero_add,drop_flat hA O];rw[List.take_of_length_le];rw[(show FtsA K (fits.drop (i+1))from fun g hg=>hA g (List.mem_of_mem_drop hg)).len,List.length_drop];exact Nat.le_refl _) (by rw[hA.len];omega)) O (show FtsA K (fits.drop (i+1))from fun g hg=>hA g (List.mem_of_mem_drop hg)).plain hput O (fun s50 H=>?_))
  have H:=HL.same H0 H
  refine zA J J (yU J ⟨J,(zU (yO (qc (xI (yB (yV ?_))))))⟩)
  exact postFts H ((hA.mono zZ).erase (i:=i)) (by rw[List.length_append,List.length_take,List.length_drop];omega) O O O
 refine zK J (zD (yL rfl (zE (qh J J (fun h=>?_) (fun h=>?_)))))
 ·refine zK J (zD (yJ rfl (yA (zH J (zC J (zC J (zF J fc43 J ?_)))))))
  obtain⟨_,s9,hr,q9,ht9,D9,n1,a1,m1,c1,n2,a2,m2,c2,n3,a3,m3,c3,n4,a4,m4,c4,rfl,Hc,hX,hY⟩:=turn05_ok hI H.fine (kn1 (Φ:=[]) hK H) (n:=(nn:Int)) Y Z
  refine⟨_,_,hr,?_⟩
  clear hr
  obtain⟨Φ,ku,kd,H⟩:=ko (K:=K) (Φ:=[]) H Hc
  replace hX:=hX.mono kd
  replace hY:=hY.mono kd
  clear Hc ku kd
  refine zP el24 J J O O (zB of40_5 J (zT (vs:=[.bool n1,.slice a1 m1 c1,.bool n2,.slice a2 m2 c2,.bool n3,.slice a3 m3 c3,.bool n4,.slice a4 m4 c4]) H jo J J J J (lput_fits hA hi (j:=5) (f:=({fits.getD i default with t:=[.bool n1,.slice a1 m1 c1,.bool n2,.slice a2 m2 c2,.bool n3,.slice a3 m3 c3,.bool n4,.slice a4 m4 c4]}:Ft)) (lput_turn ((hA.get hi).elim fun _ h=>h.t.len) J)) O (fun s9 H=>?_)))
  refine zD (xF (zR (zE (zH J (yU J (zD (yO (yB (yV ?_)))))))))
  obtain⟨q0,hq0⟩:=(hA.mono (zZ (D:=Φ))).get hi
  exact postFts0 H ((hA.mono zZ).set (q:=q9) ⟨hq0.a,hq0.b,VecK.of hX hY,hq0.lo,hq0.hi,ht9⟩) (by rw[List.length_set]) O O O
 refine zK J (zD (yL rfl (zE (qh J J (fun h=>?_) (fun h=>?_)))))
 ·refine zK J (zD (yJ rfl (yA (zH J (zC J (zC J (kE J J O (zP el24 J J O O (zB of40_2 J (zT (vs:=[.int .i64 _]) H sz3 J J J J (lput_fits hA hi (j:=2) (f:=({fits.getD i default with x:=((nn:Int).tmod 5)}:Ft)) J) O (fun s9 H=>?_)))))))))))
  refine zD (xF (zR (zE (zH J (yU J (zD (yO (yB (yV ?_)))))))))
  obtain⟨q0,hq0⟩:=(hA.mono (zZ (D:=[]))).get hi
  exact postFts0 (l:=fits.set i ({fits.getD i default with x:=((nn:Int).tmod 5)}:Ft)) H ((hA.mono zZ).set (q:=q0) ⟨hq0.a,hq0.b,hq0.t,hq0.lo,hq0.hi,hq0.tn⟩) (by rw[List.length_set]) O O O
 refine zK J (zD (yL rfl (zE (qh J J (fun h=>?_) (fun h=>?_)))))
 ·refine zK J (zD (yJ rfl (yA (zH J (zC J (zC J (kE J J O (zP el24 J J O O (zB of40_3 J (zT (vs:=[.int .i64 _]) H sz3 J J J J (lput_fits hA hi (j:=3) (f:=({fits.getD i default with y:=((nn:Int).tmod 5)}:Ft)) J) O (fun s9 H=>?_)))))))))))
  refine zD (xF (zR (zE (zH J (yU J (zD (yO (yB (yV ?_)))))))))
  obtain⟨q0,hq0⟩:=(hA.mono (zZ (D:=[]))).get hi
  exact postFts0 (l:=fits.set i ({fits.getD i default with y:=((nn:Int).tmod 5)}:Ft)) H ((hA.mono zZ).set (q:=q0) ⟨hq0.a,hq0.b,hq0.t,hq0.lo,hq0.hi,hq0.tn⟩) (by rw[List.length_set]) O O O
 refine zK J (zD (yL rfl (zE (qh J J (fun h=>?_) (fun h=>?_)))))
 ·refine zK J (zD (yJ rfl (yA (zH J (zC J (zC J (kE J J O (zP el24 J J O O (zB of40_4 J (zT (vs:=[.int .i64 _]) H sz3 J J J J (lput_fits hA hi (j:=4) (f:=({fits.getD i default with n:=((nn:Int).tmod 5)}:Ft)) J) O (fun s9 H=>?_)))))))))))
  refine zD (xF (zR (zE (zH J (yU J (zD (yO (yB (yV ?_)))))))))
  obtain⟨q0,hq0⟩:=(hA.mono (zZ (D:=[]))).get hi
  exact postFts0 (l:=fits.set i ({fits.getD i default with n:=((nn:Int).tmod 5)}:Ft)) H ((hA.mono zZ).set (q:=q0) ⟨hq0.a,hq0.b,hq0.t,hq0.lo,hq0.hi,hq0.tn⟩) (by rw[List.length_set]) O O O
 refine zK J (zD (yL rfl (zE (qh J J (fun h=>?_) (fun h=>?_)))))
 ·refine zK J (zD (yJ rfl (zE (zH J (zC J (zC J (kE J J O (qC J J Y (zP el24 J J O O (zB vV J (zT (vs:=[.int .i64 _]) H sz3 J J J J (lput_fits hA hi (j:=0) (f:=({fits.getD i default with a:=(((nn:Int).tmod 5)-1)}:Ft)) J) O (fun s9 H=>?_))))))))))))
  refine zD ?_
  obtain⟨q0,hq0⟩:=hA.get hi
  have hA1:=hA.set (i:=i) (f:=({fits.getD i default with a:=(((nn:Int).tmod 5)-1)}:Ft)) (q:=q0) ⟨by unfold qp;simp only;omega,hq0.b,hq0.t,hq0.lo,hq0.hi,hq0.tn⟩
  have hl1:(fits.set i ({fits.getD i default with a:=(((nn:Int).tmod 5)-1)}:Ft)).length=fits.length:=by rw[List.length_set]
  generalize fits.set i ({fits.getD i default with a:=(((nn:Int).tmod 5)-1)}:Ft)=fits1 at hA1 hl1 H
  have hi1:i<fits1.length:=by omega
  refine yA (zH J (zC J (zC J (wY J J O Y (kE J J O (zP el24 J J O O (zB wJ J (zT (vs:=[.int .i64 _]) H sz3 J J J J (lput_fits hA1 hi1 (j:=1) (f:=({fits1.getD i default with b:=(((nn:Int).tdiv 5).tmod 5)}:Ft)) J) O (fun s9 H=>?_)))))))))
  refine zD (xF (zR (zE (zH J (yU J (zD (yO (yB (yV ?_)))))))))
  obtain⟨q1,hq1⟩:=(hA1.mono (zZ (D:=[]))).get hi1
  exact postFts0 (l:=fits1.set i ({fits1.getD i default with b:=(((nn:Int).tdiv 5).tmod 5)}:Ft)) H ((hA1.mono zZ).set (q:=q1) ⟨hq1.a,by unfold qp;simp only;omega,hq1.t,hq1.lo,hq1.hi,hq1.tn⟩) V3 O O O
 refine zK J (zD (yL rfl ?_))
 obtain⟨b1,off1,c1_,rfl,hg1,hb1,hc9⟩:=hl.at (i:=(i:Int)) (k:=i) rfl V4
 rw[jg (y:=default) hi]at hc9
 obtain⟨q0,hq0⟩:=hA.get hi
 generalize fits.getD i default=f0 at hc9 hq0
 obtain⟨fa,fb,fx,fy,fn,ft,flo,fhi⟩:=f0
 obtain⟨g1,g2,g3,⟨g4,g5,g6⟩,⟨g7,g8,g9⟩,g10⟩:=hq0
 simp only at g1 g2 g3 g6 g9
 obtain⟨nt1,at1,mt1,ct1,nt2,at2,mt2,ct2,nt3,at3,mt3,ct3,nt4,at4,mt4,ct4,rfl,gX,gY⟩:=g3
 obtain⟨nl1,al1,ml1,cl1,nl2,al2,ml2,cl2,nl3,al3,ml3,cl3,nl4,al4,ml4,cl4,rfl,glX,glY⟩:=g6
 obtain⟨nh1,ah1,mh1,ch1,nh2,ah2,mh2,ch2,nh3,ah3,mh3,ch3,nh4,ah4,mh4,ch4,rfl,ghX,ghY⟩:=g9
 simp only[Ft.cells,List.cons_append,List.nil_append]at hc9
 refine zE (zH J (zC J (zP el24 J J O O (zN sh40 J W8 hc9 (zS H zf40 O (fun b10 s2 H=>?_))))))
 refine zT (vs:=[.int _ _,.int _ _,.int _ _,.int _ _,.int _ _,.bool _,.slice _ _ _,.bool _,.slice _ _ _,.bool _,.slice _ _ _,.bool _,.slice _ _ _,.bool _,.slice _ _ _,.bool _,.slice _ _ _,.bool _,.slice _ _ _,.bool _,.slice _ _ _,.bool _,.slice _ _ _,.bool _,.slice _ _ _,.bool _,.slice _ _ _,.bool _,.slice _ _ _]) H sz40 J J J J J O (fun s3 H=>?_)
 refine zD (zE (zC J (kE J J O (zB of40_2 J (zT (vs:=[.int _ _]) H sz3 J J J J J O (fun s4 H=>?_))))))
 refine zD (zE (zC J (wY J J O Y (kE J J O (zB of40_3 J (zT (vs:=[.int _ _]) H sz3 J J J J J O (fun s5 H=>?_)))))))
 refine zD (zE (zH J (zN sh40 J H.own0 J (yS (c:=[.int _ _,.int _ _,.int _ _,.int _ _,.int _ _,.bool _,.slice _ _ _,.bool _,.slice _ _ _,.bool _,.slice _ _ _,.bool _,.slice _ _ _,.bool _,.slice _ _ _,.bool _,.slice _ _ _,.bool _,.slice _ _ _,.bool _,.slice _ _ _,.bool _,.slice _ _ _,.bool _,.slice _ _ _,.bool _,.slice _ _ _,.bool _,.slice _ _ _]) H sl24 J J O (fun b39 s6 H=>?_)))))
 have hgt:=H.own0
 have hf2:FtK K (⟨fa,fb,(nn:Int).tmod 4,((nn:Int).tdiv 4).tmod 4,fn,[.bool nt1,.slice at1 mt1 ct1,.bool nt2,.slice at2 mt2 ct2,.bool nt3,.slice at3 mt3 ct3,.bool nt4,.slice at4 mt4 ct4],[.bool nl1,.slice al1 ml1 cl1,.bool nl2,.slice al2 ml2 cl2,.bool nl3,.slice al3 ml3 cl3,.bool nl4,.slice al4 ml4 cl4],[.bool nh1,.slice ah1 mh1 ch1,.bool nh2,.slice ah2 mh2 ch2,.bool nh3,.slice ah3 mh3 ch3,.bool nh4,.slice ah4 mh4 ch4]⟩:Ft) q0:=⟨g1,g2,VecK.of gX gY,⟨_,_,VecK.of glX glY⟩,⟨_,_,VecK.of ghX ghY⟩,g10⟩
 have hfl:((fits++[(⟨fa,fb,(nn:Int).tmod 4,((nn:Int).tdiv 4).tmod 4,fn,[.bool nt1,.slice at1 mt1 ct1,.bool nt2,.slice at2 mt2 ct2,.bool nt3,.slice at3 mt3 ct3,.bool nt4,.slice at4 mt4 ct4],[.bool nl1,.slice al1 ml1 cl1,.bool nl2,.slice al2 ml2 cl2,.bool nl3,.slice al3 ml3 cl3,.bool nl4,.slice al4 ml4 cl4],[.bool nh1,.slice ah1 mh1 ch1,.bool nh2,.slice ah2 mh2 ch2,.bool nh3,.slice ah3 mh3 ch3,.bool nh4,.slice ah4 mh4 ch4]⟩:Ft)]).map Ft.cells).flatten=(fits.map Ft.cells).flatten++(⟨fa,fb,(nn:Int).tmod 4,((nn:Int).tdiv 4).tmod 4,fn,[.bool nt1,.slice at1 mt1 ct1,.bool nt2,.slice at2 mt2 ct2,.bool nt3,.slice at3 mt3 ct3,.bool nt4,.slice at4 mt4 ct4],[.bool nl1,.slice al1 ml1 cl1,.bool nl2,.slice al2 ml2 cl2,.bool nl3,.slice al3 ml3 cl3,.bool nl4,.slice al4 ml4 cl4],[.bool nh1,.slice ah1 mh1 ch1,.bool nh2,.slice ah2 mh2 ch2,.bool nh3,.slice ah3 mh3 ch3,.bool nh4,.slice ah4 mh4 ch4]⟩:Ft).cells:=by rw[List.map_append,List.map_singleton,wN]
 simp only[Ft.cells,List.cons_append,List.nil_append]at hfl
 have H:=HL.mid (A:=[_]) (B:=[_]) (C:=[]) H.drop0
 refine qi (L:=_) (D:=[_]) H (.block b16 _ _ _ hA.len.symm O) sl24 un24 J J J W0 U J J O O (fun b40 s40 H ho=>?_)
 clear ho
 simp only[List.cons_append,List.nil_append]at H
 refine yU J (zD (yO (qc (xI (yB (yV ?_))))))
 rw[←hfl]at H
 exact postFts0 H ((hA.mono zZ).snoc (hf2.mono zZ)) (by rw[List.length_append,List.length_singleton]) O O O
end Go.Proofs.YtocnbjjmmgolfaaGreat
