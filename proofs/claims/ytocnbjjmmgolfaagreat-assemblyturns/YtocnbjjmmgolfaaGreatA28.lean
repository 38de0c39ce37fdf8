/- The integers of the program: digits without zeros, numbers of 64 bits, the order of digits. -/
/- The integers of the program: sums and differences of digits. -/
import Derived.Test.YtocnbjjmmgolfaaGreatA27
namespace Go.Proofs.YtocnbjjmmgolfaaGreat
open Go Go.M Go.Proofs.C14
theorem fb141:xK Tryz.f141 (Tryz.f141.body.getD .skip) 2=true:=by kernel_rfl
theorem fb150:xK Tryz.f150 (Tryz.f150.body.getD .skip) 2=true:=by kernel_rfl
theorem un183:Tryz.prog.underlying 183=some (.int .u64):=by kernel_rfl
theorem un3:Tryz.prog.underlying 3=some (.int .i64):=by kernel_rfl
theorem fb197:xK Tryz.f197 (Tryz.f197.body.getD .skip) 1=true:=by kernel_rfl
theorem fc150:xJ Tryz.prog 150=true:=by kernel_rfl
theorem fb236:xK Tryz.f236 (Tryz.f236.body.getD .skip) 1=true:=by kernel_rfl
theorem fb215:xK Tryz.f215 (Tryz.f215.body.getD .skip) 2=true:=by kernel_rfl
theorem fc236:xJ Tryz.prog 236=true:=by kernel_rfl
theorem fb143:xK Tryz.f143 (Tryz.f143.body.getD .skip) 2=true:=by kernel_rfl
theorem fc215:xJ Tryz.prog 215=true:=by kernel_rfl
def nvm(a:Option Addr)(n:Nat):Value:=if n=0 then .slice none 0 0 else .slice a n (2*n)
variable{l:List Int}{cap u:Nat}{I:xP}{s:St}{a:Option Addr}{neg:Bool}{K:Kw}{n x z:Int}{va vb:Value}
theorem wD{b c:Nat}(h:l.length≤c / 2):SlIn [(b,.cells (qm l) tI)] (.slice (some ⟨b,0,none⟩) l.length c) l:=
 .block b 0 c _ rfl Y8 h fun k hk=>dc_flat hk
theorem dg_two(h:1000000000≤u)(h2:u<1000000000000000000):dg u=[((u % 1000000000:Nat):Int),((u / 1000000000:Nat):Int)]:=by
 rw[dg_pos O,dg_small O O]
theorem dg_three(h:1000000000000000000≤u)(h2:u<1000000000000000000000000000):dg u=[((u % 1000000000:Nat):Int),((u / 1000000000 % 1000000000:Nat):Int),((u / 1000000000 / 1000000000:Nat):Int)]:=by
 rw[dg_pos O,dg_two O O]
theorem ud(u:Nat):(u:Int).tdiv 1000000000=((u / 1000000000:Nat):Int):=tdv u 1000000000
theorem um(u:Nat):(u:Int).tmod 1000000000=((u % 1000000000:Nat):Int):=tmv u 1000000000
set_option maxHeartbeats 4000000 in
set_option maxRecDepth 10000 in
theorem of_raw(hI:xA I)(hf:Fine s)(hl:SlD s (.slice a l.length cap) l)(hlen:l.length≤10000)(hroom:s.next+1≤yC) :
  ∃v' s',xN Tryz.prog I 141 #[.bool neg,.slice a l.length cap] s v' s'∧(v'=.agg ⟨[.bool (if vI l l.length=0 then false else neg),nvm a (vI l l.length)]⟩∧HL [] s s' [] 1):=by
 have H:=hf.hl
 have hcap:=hl.cap
 have hle:=nlen_le l l.length
 refine zX 2 (hI 141 U U) Tryz.func141 J fb141 J ?_
 refine zS H qU O (fun b4 s1 H=>?_)
 refine zH J (yF xV J J J (zL J (xR (fun k F s1=>∃(G:FF) (m:Nat),F=lay G [(0,.bool neg),(1,.slice a l.length cap),(4,.pointer (some ⟨b4,0,none⟩)),(5,.int .i64 (m:Int))]∧HL [] s s1 [(b4,.cells [.bool false,.slice none 0 0] 32)] 1∧m≤l.length∧k=m∧vI l l.length=vI l m) ?_ l.length _ _ ?_)))
 rotate_left
 ·exact⟨_,l.length,yZ ⟨J,J,J,J,trivial⟩,H,by omega,J,J⟩
 rintro k F s1 ⟨G,m,rfl,H,hm,rfl,hn⟩
 refine zC J (qv J J (fun h=>?_) (fun h=>?_))
 ·refine zI J (zH J (zC J (qC J J Y ?_)))
  obtain⟨b,off,c,rfl,hg,hb,hc⟩:=(hl.kept H).atD (i:=(k:Int)-1) (k:=k-1) O O
  refine zP qn J J O O (zJ sh3 J hg hc (qh J J (fun h=>?_) (fun h=>?_)))
  ·refine yD J J (zC J (qC J J Y (zL J (en ?_))))
   obtain⟨m,rfl⟩:∃j,k=j+1:=⟨k-1,by omega⟩
   simp only[Nat.add_sub_cancel]at h
   refine⟨m,by omega,_,m,yZ ⟨J,J,J,by show Value.int .i64 (((m+1:Nat):Int)-1)=_;congr 1;omega,trivial⟩,H,by omega,J,?_⟩
   rw[hn,vI,if_pos h]
  refine yD J J (zC J (qh J J (fun h=>?_) (fun h=>?_)))
  ·exfalso
   omega
  refine zI J (zH J (zC J (zC J (op_sliceHM kg J J J J J hg O O (xE (c:=[.bool _,.slice _ _ _]) bf32 J (zT (vs:=[.bool _,.slice _ _ _]) H qI J J J J J O (fun s2 H=>?_)))))))
  refine en ?_
  refine yP xO J H.own0 J (⟨?_,H.drop0⟩)
  have hk:vI l k=k:=by
   obtain⟨m,rfl⟩:∃j,k=j+1:=⟨k-1,by omega⟩
   rw[vI,if_neg Z1]
  rw[hn,hk,if_neg O,nvm,if_neg O]
 refine zI J (yY J (zC J (qh J J (fun h=>?_) (fun h=>?_))))
 ·refine xE (c:=[.bool _,.slice _ _ _]) bf32 J (zT (vs:=[.bool _,.slice _ _ _]) H qI J J J J J O (fun s3 H=>?_))
  refine en ?_
  refine yP xO J H.own0 J (⟨?_,H.drop0⟩)
  have hz:k=0:=by omega
  rw[hn,hz]
  rfl
 exfalso
 omega
theorem of_n(hI:xA I)(hf:Fine s)(hl:SlD s (.slice a l.length cap) l)(hd:Dig l)(hz:z=if neg then -(kK l:Int)else(kK l:Int))
  (hres:∀m,0<m→m≤l.length→K (.slice a m (2*m)) (l.take m)) (hlen:l.length≤10000) (hroom:s.next+1≤yC) :
  ∃v' s',xN Tryz.prog I 141 #[.bool neg,.slice a l.length cap] s v' s'∧wR K s 1 z v' s':=by
 obtain⟨v',s',hr,rfl,H⟩:=of_raw (neg:=neg) hI hf hl hlen hroom
 have hv:∃a' c',nvm a (vI l l.length)=.slice a' (vI l l.length) c'∧KX K [] (.slice a' (vI l l.length) c') (l.take (vI l l.length)):=by
  unfold nvm
  split
  ·next h=>rw[h];exact⟨none,0,rfl,.inr (.nil 0 rfl Y8)⟩
  ·next h=>exact⟨a,_,rfl,.inl (hres _ O (nlen_le _ _))⟩
 obtain⟨a',c',hv1,hv2⟩:=hv
 have e:dg z.natAbs=l.take (vI l l.length):=by
  rw[take_nlen hd,hz]
  cases neg<;>simp
 refine⟨_,_,hr,[],_,a',_,c',by rw[hv1],H,?_,?_,by rw[e];exact hv2⟩
 ·have h0:=nlen0 hd
  by_cases h:vI l l.length=0
  ·rw[if_pos h]
   have:=h0.mp h
   subst hz
   cases neg<;>simp[this]
  ·rw[if_neg h]
   have:kK l≠0:=fun e=>h (h0.mpr e)
   subst hz
   cases neg<;>simp<;>omega
 ·rw[e,List.length_take]
  have:=nlen_le l l.length
  omega
theorem of_d(hI:xA I)(hf:Fine s)(hK:Kn s K){n:Nat}(hz:z=if neg then -(n:Int)else(n:Int))
  (hres:K (.slice a (dg n).length cap) (dg n)) (hlen:(dg n).length≤10000) (hroom:s.next+1≤yC) :
  ∃v' s',xN Tryz.prog I 141 #[.bool neg,.slice a (dg n).length cap] s v' s'∧wR K s 1 z v' s':=by
 obtain⟨v',s',hr,rfl,H⟩:=of_raw (neg:=neg) hI hf (hK _ _ hres) hlen hroom
 rw[nlen_dg]at hr
 have hzn:z.natAbs=n:=by rw[hz];cases neg<;>simp
 have hv:∃a' c',nvm a (dg n).length=.slice a' (dg n).length c'∧KX K [] (.slice a' (dg n).length c') (dg n):=by
  unfold nvm
  split
  ·next h=>rw[h];exact⟨none,0,rfl,.inr (.nil 0 rfl (List.length_eq_zero_iff.mp h))⟩
  ·exact⟨a,_,J,.inl (hK.cap _ _ _ _ _ hres O)⟩
 obtain⟨a',c',hv1,hv2⟩:=hv
 refine⟨_,_,hr,[],_,a',_,c',by rw[hv1],H,?_,by rw[hzn],by rw[hzn];exact hv2⟩
 have h0:= @dg_len0 n
 by_cases h:(dg n).length=0
 ·rw[if_pos h]
  have:=h0.mp h
  subst hz
  cases neg<;>simp[this]
 ·rw[if_neg h]
  have:n≠0:=fun e=>h (h0.mpr e)
  subst hz
  cases neg<;>simp<;>omega
theorem absP_ok(hI:xA I)(hf:Fine s)(hK:Kn s K){n1:Bool}{a1:Option Addr}{m1 c1:Nat}(hx:NumK K n1 a1 m1 c1 x)(hlx:(dg x.natAbs).length≤1000)(hroom:s.next+1≤yC) :
  ∃v' s',xN Tryz.prog I 141 #[.bool false,.slice a1 m1 c1] s v' s'∧wR K s 1 (x.natAbs:Int) v' s':=by
 obtain⟨_,rfl,hk⟩:=hx
 exact of_d hI hf hK Y8 hk O hroom
set_option maxHeartbeats 4000000 in
set_option maxRecDepth 10000 in
theorem jt(hI:xA I)(hf:Fine s)(hu:u<18446744073709551616)(hz:z=if neg then -(u:Int)else(u:Int))(hroom:s.next+10≤yC) :
  ∃v' s',xN Tryz.prog I 150 #[.bool neg,.int .u64 (u:Int)] s v' s'∧wR K s 10 z v' s':=by
 have H:=hf.hl
 have hzn:z.natAbs=u:=by rw[hz];cases neg<;>simp
 refine zX 2 (hI 150 U U) Tryz.func150 J fb150 J ?_
 refine zS H qU O (fun b4 s1 H=>?_)
 refine zC J (op_eqlU J J (fun h=>?_) (fun h=>?_))
 ·refine zK J (xE (c:=[.bool _,.slice _ _ _]) bf32 J (zT (vs:=[.bool _,.slice _ _ _]) H qI J J J J J O (fun s2 H=>?_)))
  refine en ?_
  refine yP xO J H.own0 J ?_
  have hu0:u=0:=by omega
  subst hu0
  have hz0:z=0:=by omega
  subst hz0
  exact⟨[],_,_,_,_,J,H.drop0.up O,NumK.nil⟩
 refine zK J (zC J (op_lssU J J (fun h=>?_) (fun h=>?_)))
 ·refine zK J (zI J (zC J (jq un183 un3 J Y (yS (c:=[.int _ _]) H kg J J O (fun b15 s3 H=>?_)))))
  refine xE (c:=[.bool _,.slice _ _ _]) bf32 J (qu (vs:=[.bool _,.slice _ _ _]) H qI J J J J J O (fun s4 H=>?_))
  refine en ?_
  refine yP xO J H.own1 J ?_
  have hl:dg u=[(u:Int)]:=by rw[dg_small O O];(try simp only[ud,um])
  refine⟨[(b15,.cells (qm [(u:Int)]) 3)],_,_,_,_,J,?_,?_,?_,?_⟩
  ·exact H.perm (List.Perm.swap _ _ _) |>.drop0.up O
  ·rw[hz];cases neg<;>simp<;>omega
  ·rw[hzn,hl];rfl
  ·rw[hzn,hl];exact .inr (wD (c:=2) Y8)
 refine zK J (zC J (op_lssU J J (fun h=>?_) (fun h=>?_)))
 ·refine zK J (zI J (zC J (op_remU J J U (jq un183 un3 J (by rw[um];unfold qp;omega) (zC J (op_quoU J J U (by rw[ud];unfold InU;omega) (jq un183 un3 J (by rw[ud];unfold qp;omega) (yS (c:=[.int _ _,.int _ _]) H kg J J O (fun b27 s5 H=>?_)))))))))
  refine xE (c:=[.bool _,.slice _ _ _]) bf32 J (qu (vs:=[.bool _,.slice _ _ _]) H qI J J J J J O (fun s6 H=>?_))
  refine en ?_
  refine yP xO J H.own1 J ?_
  have hl:dg u=[(u:Int).tmod 1000000000,(u:Int).tdiv 1000000000]:=by rw[dg_two O O];(try simp only[ud,um])
  refine⟨[(b27,.cells (qm [(u:Int).tmod 1000000000,(u:Int).tdiv 1000000000]) 3)],_,_,_,_,J,?_,?_,?_,?_⟩
  ·exact H.perm (List.Perm.swap _ _ _) |>.drop0.up O
  ·rw[hz];cases neg<;>simp<;>omega
  ·rw[hzn,hl];rfl
  ·rw[hzn,hl];exact .inr (wD (c:=4) Y8)
 refine zK J (zI J (zC J (op_remU J J U (jq un183 un3 J (by rw[um];unfold qp;omega) (zC J (op_quoU J J U (by rw[ud];unfold InU;omega) (op_remU J J U (jq un183 un3 J (by rw[ud,um];unfold qp;omega) (zC J (op_quoU J J U (by rw[ud];unfold InU;omega) (op_quoU J J U (by rw[ud,ud];unfold InU;omega) ?_)))))))))))
 refine jq un183 un3 J (by rw[ud,ud];unfold qp;omega) (yS (c:=[.int _ _,.int _ _,.int _ _]) H kg J J O (fun b41 s7 H=>?_))
 refine xE (c:=[.bool _,.slice _ _ _]) bf32 J (qu (vs:=[.bool _,.slice _ _ _]) H qI J J J J J O (fun s8 H=>?_))
 refine en ?_
 refine yP xO J H.own1 J ?_
 have hl:dg u=[(u:Int).tmod 1000000000,((u:Int).tdiv 1000000000).tmod 1000000000,((u:Int).tdiv 1000000000).tdiv 1000000000]:=by rw[dg_three O O];(try simp only[ud,um])
 refine⟨[(b41,.cells (qm [(u:Int).tmod 1000000000,((u:Int).tdiv 1000000000).tmod 1000000000,((u:Int).tdiv 1000000000).tdiv 1000000000]) 3)],_,_,_,_,J,?_,?_,?_,?_⟩
 ·exact H.perm (List.Perm.swap _ _ _) |>.drop0.up O
 ·rw[hz];cases neg<;>simp<;>omega
 ·rw[hzn,hl];rfl
 ·rw[hzn,hl];exact .inr (wD (c:=6) Y8)
set_option maxHeartbeats 4000000 in
set_option maxRecDepth 10000 in
theorem ofP_pos(hI:xA I)(hf:Fine s)(hn:u<9223372036854775808)(hroom:s.next+20≤yC) :
  ∃v' s',xN Tryz.prog I 197 #[.int .i64 (u:Int)] s v' s'∧wR K s 20 (u:Int) v' s':=by
 have H:=hf.hl
 refine zX 1 (hI 197 U U) Tryz.func197 J fb197 J ?_
 refine zS H qU O (fun b2 s1 H=>?_)
 refine zC J (wI un3 un183 J (by unfold InU;omega) (zL J (zC J (xB J J Y6 (fun h=>?_)))))
 refine zC J (xB J J Y6 (fun h=>?_))
 refine zC J (zF J fc150 J (qy (jt hI H.fine (K:=KX K []) (z:=(u:Int)) O Y8 Z) (fun s9 D9 n1 a1 m1 c1 Hc h101=>?_)))
 obtain⟨Φ,ku,kd,H⟩:=ko (K:=K) H Hc
 replace h101:=h101.mono kd
 clear Hc ku kd
 refine zT (vs:=[.bool _,.slice _ _ _]) H qI J J J J J O (fun s2 H=>?_)
 refine en ?_
 refine yP xO J H.own0 J ?_
 exact⟨Φ,_,_,_,_,J,(frz1 H).up O,h101⟩
set_option maxHeartbeats 4000000 in
set_option maxRecDepth 10000 in
theorem ofP_neg(hI:xA I)(hf:Fine s)(h0:0<u)(hn:u≤9223372036854775808)(hroom:s.next+20≤yC) :
  ∃v' s',xN Tryz.prog I 197 #[.int .i64 (-(u:Int))] s v' s'∧wR K s 20 (-(u:Int)) v' s':=by
 have H:=hf.hl
 refine zX 1 (hI 197 U U) Tryz.func197 J fb197 J ?_
 refine zS H qU O (fun b2 s1 H=>?_)
 refine zC J (op_convertI un3 un183 J (zL J (zC J ?_)))
 refine xB J J (fun h=>?_) Y6
 refine zC J (op_negU2 (b:=(u:Int)) J (by rw[wrapU,wrapU];omega) (zL J (zC J ?_)))
 refine xB J J (fun h=>?_) Y6
 refine zC J (zF J fc150 J (qy (jt hI H.fine (K:=KX K []) (z:= -(u:Int)) O Y8 Z) (fun s9 D9 n1 a1 m1 c1 Hc h101=>?_)))
 obtain⟨Φ,ku,kd,H⟩:=ko (K:=K) H Hc
 replace h101:=h101.mono kd
 clear Hc ku kd
 refine zT (vs:=[.bool _,.slice _ _ _]) H qI J J J J J O (fun s2 H=>?_)
 refine en ?_
 refine yP xO J H.own0 J ?_
 exact⟨Φ,_,_,_,_,J,(frz1 H).up O,h101⟩
theorem ofP_ok(hI:xA I)(hf:Fine s)(hn:qp n)(hroom:s.next+20≤yC) :
  ∃v' s',xN Tryz.prog I 197 #[.int .i64 n] s v' s'∧wR K s 20 n v' s':=by
 obtain⟨hn1,hn2⟩:=hn
 by_cases h:n<0
 ·obtain⟨u,hu⟩:∃u:Nat,n = -(u:Int):=⟨n.natAbs,by omega⟩
  subst hu
  exact ofP_neg hI hf O O hroom
 ·obtain⟨u,rfl⟩:=Int.eq_ofNat_of_zero_le (show 0≤n by omega)
  exact ofP_pos hI hf O hroom
set_option maxHeartbeats 4000000 in
set_option maxRecDepth 10000 in
theorem isNaN_ok(hI:xA I):∃v' s',xN Tryz.prog I 236 #[.int .i64 n] s v' s'∧(v'=.bool false∧s'=s):=by
 refine zX 1 (hI 236 U U) Tryz.func236 J fb236 J ?_
 refine zG (zC J (zC J (k6 J J (fun h=>False.elim (h J)) (fun h=>?_))))
 refine zK J (en ?_)
 refine yV ?_
 exact⟨J,J⟩
set_option maxHeartbeats 4000000 in
set_option maxRecDepth 10000 in
theorem cmpInt_ok(hI:xA I){y:Int}:∃v' s',xN Tryz.prog I 215 #[.int .i64 x,.int .i64 y] s v' s'∧(v'=.int .i64 (cmpI x y)∧s'=s):=by
 refine zX 2 (hI 215 U U) Tryz.func215 J fb215 J ?_
 refine zG (zC J (zF J fc236 J (callS (isNaN_ok hI ) (zK J (zC J (zF J fc236 J (callS (isNaN_ok hI ) (zK J (zI J (zI J (zC J (zC J (xB J J (fun h=>?_) (fun h=>?_))))))))))))))
 ·refine zG (en ?_)
  refine yV (⟨congrArg (Value.int .i64) ?_,J⟩)
  unfold cmpI
  rw[if_pos Z1]
 refine zC J (zC J (qv J J (fun h=>?_) (fun h=>?_)))
 ·refine zG (en ?_)
  refine yV (⟨congrArg (Value.int .i64) ?_,J⟩)
  unfold cmpI
  rw[if_neg O,if_pos O]
 refine zG (en ?_)
 refine yV (⟨congrArg (Value.int .i64) ?_,J⟩)
 unfold cmpI
 rw[if_neg O,if_neg O]
set_option maxHeartbeats 4000000 in
set_option maxRecDepth 10000 in
theorem compare_raw(hI:xA I){la lb:List Int}(ha:SlD s va la)(hb:SlD s vb lb)(hlen:la.length≤10000)(hroom:s.next≤yC):∃v' s',xN Tryz.prog I 143 #[va,vb] s v' s'∧(v'=.int .i64 (cmpZ la lb)∧s'=s):=by
 obtain⟨a,len,cap,rfl,hn⟩:=ha.isSlice
 rw[List.length_map]at hn
 subst hn
 obtain⟨a2,len2,cap2,rfl,hn2⟩:=hb.isSlice
 rw[List.length_map]at hn2
 subst hn2
 refine zX 2 (hI 143 U U) Tryz.func143 J fb143 J ?_
 refine zG (zH J (yF xV J J J (zH J (yF xV J J J (k6 J J (fun h=>?_) (fun h=>?_))))))
 ·refine zH J (yF xV J J J (zH J (yF xV J J J (zF J fc215 J ?_))))
  obtain⟨_,_,hr,rfl,rfl⟩:=cmpInt_ok (s:=s) (x:=(la.length:Int)) (y:=(lb.length:Int)) hI
  refine⟨_,_,hr,?_⟩
  clear hr
  refine zL J (en ?_)
  refine yV (⟨congrArg (Value.int .i64) ?_,J⟩)
  unfold cmpZ
  unfold cmpI
  repeat' split
  all_goals omega
 refine zH J (yF xV J J J (qC J J Y (zL J (xR (fun k F s1=>∃(G:FF) (m:Nat),F=lay G [(0,.slice a la.length cap),(1,.slice a2 lb.length cap2),(5,.int .i64 ((m:Int)-1))]∧s1=s∧m≤la.length∧k=m∧cmpD la lb la.length=cmpD la lb m) ?_ la.length _ _ ?_))))
 rotate_left
 ·exact⟨_,la.length,yZ ⟨J,J,J,trivial⟩,J,by omega,J,J⟩
 rintro k F s1 ⟨G,m,rfl,rfl,hm,rfl,hn⟩
 refine zC J (k7 J J (fun h=>?_) (fun h=>?_))
 ·obtain⟨m,rfl⟩:∃j,k=j+1:=⟨k-1,by omega⟩
  obtain⟨b1,off1,c1,rfl,hg1,hb1,hc1⟩:=ha.atD (i:=((m+1:Nat):Int)-1) (k:=m) O O
  obtain⟨b2,off2,c2,rfl,hg2,hb2,hc2⟩:=hb.atD (i:=((m+1:Nat):Int)-1) (k:=m) O O
  have hl1:b1<yC:=by omega
  have hl2:b2<yC:=by omega
  refine yT [⟨0,0,.light,[7]⟩,⟨1,0,.light,[7]⟩,⟨2,3,.light,[7]⟩,⟨3,7,.light,[7]⟩,⟨4,0,.light,[3]⟩,⟨5,0,.light,[3]⟩,⟨6,48,.light,[3]⟩,⟨7,112,.light,[3]⟩,⟨8,255,.light,[]⟩] Z0 Z0 (zA J J (zH J ⟨J,(zA J J (zC J ⟨J,(zA J J (zP qn J J O O ⟨J,(zV J J sh3 J hg1 hl1 hc1 (zA J J (zH J ⟨J,(zA J J (zC J ⟨J,(zA J J (zP qn J J O O ⟨J,(zV J J sh3 J hg2 hl2 hc2 (zA J J (k6 J J (fun h=>⟨J,?_⟩) (fun h=>⟨J,?_⟩))))⟩))⟩))⟩)))⟩))⟩))⟩))
  ·refine zU (yT [⟨0,0,.light,[7]⟩,⟨1,0,.light,[7]⟩,⟨2,3,.light,[7]⟩,⟨3,7,.light,[7]⟩,⟨4,0,.light,[3]⟩,⟨5,0,.light,[3]⟩,⟨6,48,.light,[3]⟩,⟨7,112,.light,[3]⟩,⟨8,255,.whole,[]⟩,⟨9,511,.light,[]⟩] Z0 Z0 (zA J J (zH J ⟨J,(zA J J (zC J ⟨J,(zA J J (zP qn J J O O ⟨J,(zV J J sh3 J hg1 hl1 hc1 (zA J J (zH J ⟨J,(zA J J (zC J ⟨J,(zA J J (zP qn J J O O ⟨J,(zV J J sh3 J hg2 hl2 hc2 (zM J J (zF J fc215 J ?_)))⟩))⟩))⟩)))⟩))⟩))⟩)))
   obtain⟨_,_,hr,rfl,rfl⟩:=cmpInt_ok (s:=s1) (x:=la.getD m 0) (y:=lb.getD m 0) hI
   refine⟨_,_,hr,?_⟩
   clear hr
   refine zA J J (zL J ⟨J,(zU (en ?_))⟩)
   refine yV (⟨congrArg (Value.int .i64) ?_,J⟩)
   unfold cmpZ
   rw[if_neg O,if_neg O,hn,cmpD]
   unfold cmpI
   by_cases hxy:la.getD m 0<lb.getD m 0
   ·rw[if_pos hxy,if_pos hxy]
   ·rw[if_neg hxy,if_neg hxy,if_pos O,if_pos O]
  refine zU (zC J (qC J J Y (zL J (en ?_))))
  refine⟨m,by omega,_,m,yZ ⟨J,J,by show Value.int .i64 (((m+1:Nat):Int)-1-1)=_;congr 1;omega,trivial⟩,J,by omega,J,?_⟩
  rw[hn,cmpD,if_neg O,if_neg O]
 refine zG (en ?_)
 refine yV (⟨congrArg (Value.int .i64) ?_,J⟩)
 unfold cmpZ
 rw[if_neg O,if_neg O,hn,show k=0 by omega]
 rfl
theorem compareP_n(hI:xA I){x y:Nat}(ha:SlD s va (dg x))(hb:SlD s vb (dg y))(hlen:(dg x).length≤10000)(hroom:s.next≤yC):∃v' s',xN Tryz.prog I 143 #[va,vb] s v' s'∧(v'=.int .i64 (cmpN x y)∧s'=s):=by
 have:=compare_raw hI ha hb hlen hroom
 rwa[cmpZ_dg]at this
end Go.Proofs.YtocnbjjmmgolfaaGreat
namespace Go.Proofs.YtocnbjjmmgolfaaGreat
open Go Go.M Go.Proofs.C14
theorem fb142:xK Tryz.f142 (Tryz.f142.body.getD .skip) 2=true:=by kernel_rfl
theorem fb144:xK Tryz.f144 (Tryz.f144.body.getD .skip) 2=true:=by kernel_rfl
variable{la lb o:List Int}{i:Nat}{c:Int}{I:xP}{s:St}{va vb:Value}
theorem set_getD0{k:Nat}{x:Int}(h:k<o.length):(o.set k x).getD k 0=x:=by
 rw[List.getD_eq_getElem?_getD,List.getElem?_set,if_pos rfl,if_pos h];rfl
theorem wE{c' w:Int}(hi:i<o.length)(h0:o.getD i 0=0)(h:dv o+1000000000 ^ i*c=dv (la.take i)+dv (lb.take i))(hw:w=la.getD i 0+lb.getD i 0+c-1000000000*c') :
  dv (o.set i w)+1000000000 ^ (i+1)*c'=dv (la.take (i+1))+dv (lb.take (i+1)):=by
 rw[dv_set hi,h0,Int.sub_zero,qg,qg,Int.pow_succ,hw,Int.mul_sub,Int.mul_add,Int.mul_add]
 have:(1000000000:Int) ^ i*1000000000*c'=1000000000 ^ i*(1000000000*c'):=by rw[Int.mul_assoc]
 omega
theorem plusP_end{z:Int}(hi:i<o.length)(h0:o.getD i 0=0)(h:dv o+1000000000 ^ i*c=z):dv (o.set i c)=z:=by
 rw[dv_set hi,h0,Int.sub_zero];exact h
set_option maxHeartbeats 4000000 in
set_option maxRecDepth 10000 in
theorem plusP_ok(hI:xA I)(hf:Fine s)(ha:SlD s va la)(hb:SlD s vb lb)(hda:Dig la)(hdb:Dig lb)(hlen:la.length≤1000)(hlen2:lb.length≤1000)(hroom:s.next+3000≤yC) :
  ∃v' s',xN Tryz.prog I 142 #[va,vb] s v' s'∧(∃D out,HL [] s s' D 3000∧SlIn D v' out∧Dig out∧dv out=dv la+dv lb∧out.length≤1002):=by
 have H:=hf.hl
 obtain⟨a,len,cap,rfl,hn⟩:=ha.isSlice
 rw[List.length_map]at hn
 subst hn
 obtain⟨a2,len,cap2,rfl,hn⟩:=hb.isSlice
 rw[List.length_map]at hn
 subst hn
 refine zX 2 (hI 142 U U) Tryz.func142 J fb142 J ?_
 refine zG (zH J (yF xV J J J (zH J (yF xV J J J (xB J J (fun h=>?_) (fun h=>?_))))))
 ·refine zH J (zH J (yU J (yU J (zH J (yF xV J J J (yH J J Y (kW (a:=lb.length+1) (b:=lb.length+1) H kg J J Z3 O O (fun b20 s20 H=>?_))))))))
  refine yU J (zG (zH J (yF xV J J J (kB (xR (fun k F s1=>∃(G:FF) (i:Nat) (o:List Int) (c:Int),F=lay G [(0,.slice a2 lb.length cap2),(1,.slice a la.length cap),(5,.slice (some ⟨b20,0,none⟩) (lb.length+1) (2*(lb.length+1))),(6,.int .i64 c),(21,.slice a2 lb.length cap2),(22,.int .i64 (lb.length:Int)),(23,.int .i64 (i:Int))]∧HL [] s s1 [(b20,.cells (qm o) 3)] 1∧i≤lb.length∧k=lb.length-i∧o.length=lb.length+1∧Dig o∧0≤c∧c≤1∧dv o+1000000000 ^ i*c=dv (lb.take i)+dv (la.take i)∧∀j,i≤j→o.getD j 0=0) ?_ lb.length _ _ ?_)))))
  rotate_left
  ·exact⟨_,0,List.replicate (lb.length+1) 0,0,yZ ⟨J,J,J,J,J,J,J,trivial⟩,by rw[←repL_ints];exact H,by omega,by omega,by simp,dig_zeros _,by decide,by decide,by rw[dv_zeros];simp[dv],fun j _=>zeros_getD⟩
  rintro k F s1 ⟨G,i,o,c,rfl,H,hi,rfl,hol,hod,hc0,hc1,hval,hz⟩
  have d1:=hdb.at i
  have d2:=hda.at i
  refine xB J J (fun h=>?_) (fun h=>?_)
  ·obtain⟨b1_,off1,c1_,rfl,hg1,hb1,hc1_⟩:=(hb.kept H).atD (i:=(i:Int)) (k:=i) rfl O
   refine zC J (zP qn J J O O (zJ sh3 J hg1 hc1_ (zL J (zL J (zC J (zC J (yH J J Y (zL J (zC J (zH J (yF xV J J J ?_)))))))))))
   refine xB J J (fun h=>?_) (fun h=>?_)
   ·obtain⟨b1_,off1,c1_,rfl,hg1,hb1,hc1_⟩:=(ha.kept H).atD (i:=(i:Int)) (k:=i) rfl O
    refine zC J (zH J (zC J (zP qn J J O O (zJ sh3 J hg1 hc1_ (yH J J Y (zL J (zG (zC J (k7 J J (fun h=>?_) (fun h=>?_))))))))))
    ·refine zC J (qC J J Y (zL J (zG (zH J (zC J (zC J (zP qn J J O O (zT H sz3 J J J J (qE (o:=o) (k:=i) O O) O (fun s30 H=>?_)))))))))
     refine yH J J Y (zC J (en ?_))
     refine⟨lb.length-(i+1),by omega,_,i+1,o.set i (lb.getD i 0+c+la.getD i 0-1000000000),1,yZ ⟨J,J,J,J,J,J,J,trivial⟩,H,by omega,J,by rw[List.length_set];exact hol,hod.set O O,by omega,by omega,wE O (hz _ O) hval O,fun j hj=>by rw[qD O];exact hz j O⟩
    refine zH J (zC J (zC J (zP qn J J O O (zT H sz3 J J J J (qE (o:=o) (k:=i) O O) O (fun s30 H=>?_)))))
    refine yH J J Y (zC J (en ?_))
    refine⟨lb.length-(i+1),by omega,_,i+1,o.set i (lb.getD i 0+c+la.getD i 0),0,yZ ⟨J,J,J,J,J,J,J,trivial⟩,H,by omega,J,by rw[List.length_set];exact hol,hod.set O O,by omega,by omega,wE O (hz _ O) hval O,fun j hj=>by rw[qD O];exact hz j O⟩
   refine zG (zC J (k7 J J (fun h=>?_) (fun h=>?_)))
   ·refine zC J (qC J J Y (zL J (zG (zH J (zC J (zC J (zP qn J J O O (zT H sz3 J J J J (qE (o:=o) (k:=i) O O) O (fun s30 H=>?_)))))))))
    refine yH J J Y (zC J (en ?_))
    have hz2:la.getD i 0=0:=vZ O
    refine⟨lb.length-(i+1),by omega,_,i+1,o.set i (lb.getD i 0+c-1000000000),1,yZ ⟨J,J,J,J,J,J,J,trivial⟩,H,by omega,J,by rw[List.length_set];exact hol,hod.set O O,by omega,by omega,wE O (hz _ O) hval O,fun j hj=>by rw[qD O];exact hz j O⟩
   refine zH J (zC J (zC J (zP qn J J O O (zT H sz3 J J J J (qE (o:=o) (k:=i) O O) O (fun s30 H=>?_)))))
   refine yH J J Y (zC J (en ?_))
   have hz2:la.getD i 0=0:=vZ O
   refine⟨lb.length-(i+1),by omega,_,i+1,o.set i (lb.getD i 0+c),0,yZ ⟨J,J,J,J,J,J,J,trivial⟩,H,by omega,J,by rw[List.length_set];exact hol,hod.set O O,by omega,by omega,wE O (hz _ O) hval O,fun j hj=>by rw[qD O];exact hz j O⟩
  refine zH J (zH J (yF xV J J J (zC J (zP qn J J O O (zT H sz3 J J J J (qE (o:=o) (k:=lb.length) O O) O (fun s31 H=>?_))))))
  refine zH J (yU J (en ?_))
  refine yV ?_
  have hiL:i=lb.length:=by omega
  subst hiL
  rw[List.take_length,List.take_of_length_le O]at hval
  have hlen3:(o.set lb.length c).length=lb.length+1:=by rw[List.length_set];exact hol
  refine⟨[(b20,.cells (qm (o.set lb.length c)) 3)],o.set lb.length c,H.up O,?_,hod.set hc0 O,?_,by omega⟩
  ·have:=wD (b:=b20) (c:=2*(lb.length+1)) (l:=o.set lb.length c) O
   rw[hlen3]at this
   exact this
  ·rw[plusP_end O (hz _ O) hval];omega
 refine zH J (yF xV J J J (yH J J Y (kW (a:=la.length+1) (b:=la.length+1) H kg J J Z3 O O (fun b20 s20 H=>?_))))
 refine yU J (zG (zH J (yF xV J J J (kB (xR (fun k F s1=>∃(G:FF) (i:Nat) (o:List Int) (c:Int),F=lay G [(0,.slice a la.length cap),(1,.slice a2 lb.length cap2),(5,.slice (some ⟨b20,0,none⟩) (la.length+1) (2*(la.length+1))),(6,.int .i64 c),(21,.slice a la.length cap),(22,.int .i64 (la.length:Int)),(23,.int .i64 (i:Int))]∧HL [] s s1 [(b20,.cells (qm o) 3)] 1∧i≤la.length∧k=la.length-i∧o.length=la.length+1∧Dig o∧0≤c∧c≤1∧dv o+1000000000 ^ i*c=dv (la.take i)+dv (lb.take i)∧∀j,i≤j→o.getD j 0=0) ?_ la.length _ _ ?_)))))
 rotate_left
 ·exact⟨_,0,List.replicate (la.length+1) 0,0,yZ ⟨J,J,J,J,J,J,J,trivial⟩,by rw[←repL_ints];exact H,by omega,by omega,by simp,dig_zeros _,by decide,by decide,by rw[dv_zeros];simp[dv],fun j _=>zeros_getD⟩
 rintro k F s1 ⟨G,i,o,c,rfl,H,hi,rfl,hol,hod,hc0,hc1,hval,hz⟩
 have d1:=hda.at i
 have d2:=hdb.at i
 refine xB J J (fun h=>?_) (fun h=>?_)
 ·obtain⟨b1_,off1,c1_,rfl,hg1,hb1,hc1_⟩:=(ha.kept H).atD (i:=(i:Int)) (k:=i) rfl O
  refine zC J (zP qn J J O O (zJ sh3 J hg1 hc1_ (zL J (zL J (zC J (zC J (yH J J Y (zL J (zC J (zH J (yF xV J J J ?_)))))))))))
  refine xB J J (fun h=>?_) (fun h=>?_)
  ·obtain⟨b1_,off1,c1_,rfl,hg1,hb1,hc1_⟩:=(hb.kept H).atD (i:=(i:Int)) (k:=i) rfl O
   refine zC J (zH J (zC J (zP qn J J O O (zJ sh3 J hg1 hc1_ (yH J J Y (zL J (zG (zC J (k7 J J (fun h=>?_) (fun h=>?_))))))))))
   ·refine zC J (qC J J Y (zL J (zG (zH J (zC J (zC J (zP qn J J O O (zT H sz3 J J J J (qE (o:=o) (k:=i) O O) O (fun s30 H=>?_)))))))))
    refine yH J J Y (zC J (en ?_))
    refine⟨la.length-(i+1),by omega,_,i+1,o.set i (la.getD i 0+c+lb.getD i 0-1000000000),1,yZ ⟨J,J,J,J,J,J,J,trivial⟩,H,by omega,J,by rw[List.length_set];exact hol,hod.set O O,by omega,by omega,wE O (hz _ O) hval O,fun j hj=>by rw[qD O];exact hz j O⟩
   refine zH J (zC J (zC J (zP qn J J O O (zT H sz3 J J J J (qE (o:=o) (k:=i) O O) O (fun s30 H=>?_)))))
   refine yH J J Y (zC J (en ?_))
   refine⟨la.length-(i+1),by omega,_,i+1,o.set i (la.getD i 0+c+lb.getD i 0),0,yZ ⟨J,J,J,J,J,J,J,trivial⟩,H,by omega,J,by rw[List.length_set];exact hol,hod.set O O,by omega,by omega,wE O (hz _ O) hval O,fun j hj=>by rw[qD O];exact hz j O⟩
  refine zG (zC J (k7 J J (fun h=>?_) (fun h=>?_)))
  ·refine zC J (qC J J Y (zL J (zG (zH J (zC J (zC J (zP qn J J O O (zT H sz3 J J J J (qE (o:=o) (k:=i) O O) O (fun s30 H=>?_)))))))))
   refine yH J J Y (zC J (en ?_))
   have hz2:lb.getD i 0=0:=vZ O
   refine⟨la.length-(i+1),by omega,_,i+1,o.set i (la.getD i 0+c-1000000000),1,yZ ⟨J,J,J,J,J,J,J,trivial⟩,H,by omega,J,by rw[List.length_set];exact hol,hod.set O O,by omega,by omega,wE O (hz _ O) hval O,fun j hj=>by rw[qD O];exact hz j O⟩
  refine zH J (zC J (zC J (zP qn J J O O (zT H sz3 J J J J (qE (o:=o) (k:=i) O O) O (fun s30 H=>?_)))))
  refine yH J J Y (zC J (en ?_))
  have hz2:lb.getD i 0=0:=vZ O
  refine⟨la.length-(i+1),by omega,_,i+1,o.set i (la.getD i 0+c),0,yZ ⟨J,J,J,J,J,J,J,trivial⟩,H,by omega,J,by rw[List.length_set];exact hol,hod.set O O,by omega,by omega,wE O (hz _ O) hval O,fun j hj=>by rw[qD O];exact hz j O⟩
 refine zH J (zH J (yF xV J J J (zC J (zP qn J J O O (zT H sz3 J J J J (qE (o:=o) (k:=la.length) O O) O (fun s31 H=>?_))))))
 refine zH J (yU J (en ?_))
 refine yV ?_
 have hiL:i=la.length:=by omega
 subst hiL
 rw[List.take_length,List.take_of_length_le O]at hval
 have hlen3:(o.set la.length c).length=la.length+1:=by rw[List.length_set];exact hol
 refine⟨[(b20,.cells (qm (o.set la.length c)) 3)],o.set la.length c,H.up O,?_,hod.set hc0 O,?_,by omega⟩
 ·have:=wD (b:=b20) (c:=2*(la.length+1)) (l:=o.set la.length c) O
  rw[hlen3]at this
  exact this
 ·rw[plusP_end O (hz _ O) hval]
theorem minus_top(hl:o.length=i+1)(hd:∀j,j<i→0≤o.getD j 0∧o.getD j 0<1000000000)(hn:o.getD i 0<0):dv o<0:=by
 have h1:o.take (i+1)=o:=List.take_of_length_le O
 rw[←h1,dv_take_succ O]
 have hd2:Dig (o.take i):=by
  intro x hx
  obtain⟨j,hj,rfl⟩:=List.mem_iff_getElem.mp hx
  simp only[List.length_take]at hj
  have:=hd j O
  rw[List.getD_eq_getElem?_getD,List.getElem?_eq_getElem O]at this
  simpa using this
 have h2:=dv_lt hd2
 have hl2:(o.take i).length=i:=by simp;omega
 rw[hl2]at h2
 have h3:=powB i
 have h4:(1000000000:Int) ^ i*o.getD i 0≤1000000000 ^ i*(-1):=Int.mul_le_mul_of_nonneg_left O O
 omega
theorem dig_of_getD(h:∀j,j<o.length→0≤o.getD j 0∧o.getD j 0<1000000000):Dig o:=by
 intro x hx
 obtain⟨j,hj,rfl⟩:=List.mem_iff_getElem.mp hx
 have:=h j hj
 rwa[List.getD_eq_getElem?_getD,List.getElem?_eq_getElem hj]at this
theorem elems_ints{v:Value}{l:List Int}(h:SlD s v l):jC s 1 v l.length (qm l):=by
 have:=Sl.elems h (by intro x hx;obtain⟨y,_,rfl⟩:=List.mem_map.mp hx;rfl) U
 rw[List.length_map,←ints_flat]at this
 exact this
theorem lover_all:∀{o l:List Value},o.length=l.length→lover l o=some l
 | [],[],_=>rfl
 |x::o,y::l,h=>by
  have:=lover_all (o:=o) (l:=l) (by simpa using h)
  simp only[lover,this]
 | [],y::l,h=>by simp at h
 |x::o,[],h=>by simp at h
theorem lput_all{o l:List Value}(h:o.length=l.length):ky 0 l o=some l:=by
 have:=lover_all h
 cases o<;>cases l<;>simp_all [ky]
theorem ints_plain(l:List Int):(qm l).all Go.M.plainCell=true:=by
 induction l with
 |nil=>rfl
 |cons x l ih=>rw[qm,List.map_cons,List.all_cons];exact ih
theorem vF(l:List Int):(qm l).length=l.length:=by simp[qm]
set_option maxHeartbeats 4000000 in
set_option maxRecDepth 10000 in
theorem minusP_ok(hI:xA I)(hf:Fine s)(ha:SlD s va la)(hb:SlD s vb lb)(hda:Dig la)(hdb:Dig lb)(hlen:la.length≤1000)(hll:lb.length≤la.length)(hle:dv lb≤dv la)(hroom:s.next+3000≤yC) :
  ∃v' s',xN Tryz.prog I 144 #[va,vb] s v' s'∧(∃D out,HL [] s s' D 3000∧SlIn D v' out∧Dig out∧dv out=dv la-dv lb∧out.length≤1002):=by
 have H:=hf.hl
 obtain⟨a,len,cap,rfl,hn⟩:=ha.isSlice
 rw[List.length_map]at hn
 subst hn
 obtain⟨a2,len,cap2,rfl,hn⟩:=hb.isSlice
 rw[List.length_map]at hn
 subst hn
 refine zX 2 (hI 144 U U) Tryz.func144 J fb144 J ?_
 refine zG (zH J (yF xV J J J (kW (a:=la.length) (b:=la.length) H kg J J Z3 O O (fun b9 s9 H=>?_))))
 refine yU J (zH J (zH J (op_copy0 (m:=la.length) (l:=qm la) H kg J J J (elems_ints (ha.kept H)) (lput_all (by rw[repL_ints,vF,vF];simp)) (ints_plain la) O (fun s12 H=>?_))))
 refine zH J (yF xV J J J (kB (xR (fun k F s1=>∃(G:FF) (i:Nat) (o:List Int),F=lay G [(1,.slice a2 lb.length cap2),(5,.slice (some ⟨b9,0,none⟩) la.length (2*la.length)),(14,.int .i64 (la.length:Int)),(15,.int .i64 (i:Int))]∧HL [] s s1 [(b9,.cells (qm o) 3)] 1∧i≤la.length∧k=la.length-i∧o.length=la.length∧dv o+dv (lb.take i)=dv la∧(∀j,j<i→0≤o.getD j 0∧o.getD j 0<1000000000)∧(∀j,i<j→o.getD j 0=la.getD j 0)∧(i<la.length→la.getD i 0-1≤o.getD i 0∧o.getD i 0≤la.getD i 0)) ?_ la.length _ _ ?_)))
 rotate_left
 ·exact⟨_,0,la,yZ ⟨J,J,J,J,trivial⟩,H,by omega,by omega,J,by simp[dv],fun j hj=>by omega,fun j _=>J,fun _=>by omega⟩
 rintro k F s1 ⟨G,i,o,rfl,H,hi,rfl,hol,hval,hlo,hhi,hmid⟩
 have hmi:=hmid
 refine xB J J (fun h=>?_) (fun h=>?_)
 ·refine zC J (zL J (zC J (zH J (yF xV J J J (xB J J (fun h=>?_) (fun h=>?_))))))
  ·obtain⟨b1_,off1,c1_,rfl,hg1_,hb1,hc1_⟩:=(hb.kept H).atD (i:=(i:Int)) (k:=i) rfl O
   have hl1_:b1_<yC:=by have:=H.most;omega
   refine wT [⟨0,0,.light,[7]⟩,⟨1,0,.light,[7]⟩,⟨2,3,.light,[7]⟩,⟨3,7,.light,[7]⟩,⟨4,0,.light,[3]⟩,⟨5,0,.light,[3]⟩,⟨6,48,.light,[3]⟩,⟨7,112,.light,[3]⟩,⟨8,255,.light,[]⟩,⟨9,511,.light,[]⟩,⟨10,1023,.whole,[]⟩] Z0 Z0 (zA J J (zH J ⟨J,(zA J J (zC J ⟨J,(zA J J (zP qn J J O O ⟨J,?_⟩))⟩))⟩))
   have d1:=hda.at i
   have d2:=hdb.at i
   refine zV J J sh3 J H.own0 Y0 (wK (o:=o) (k:=i) O O) (zA J J (zH J ⟨J,(zA J J (zC J ⟨J,(zA J J (zP qn J J O O ⟨J,(zV J J sh3 J hg1_ hl1_ hc1_ (zA J J (qC J J Y ⟨J,(zA J J (zP qn J J O O ⟨J,(xM (vs:=[.int .i64 (o.getD i 0-lb.getD i 0)]) (fr:=[]) H rfl rfl sz3 rfl rfl rfl rfl (qE (o:=o) (k:=i) O O) rfl (fun _ h=>by cases h) O (fun s30 H=>?_))⟩))⟩)))⟩))⟩))⟩))
   refine zU ?_
   have hl1:(o.set i (o.getD i 0-lb.getD i 0)).length=la.length:=by first|(rw[List.length_set];exact hol)|exact hol
   have hx1:(o.set i (o.getD i 0-lb.getD i 0)).getD i 0=(o.getD i 0-lb.getD i 0):=by first|rw[set_getD0 (o:=o) (k:=i) O]|rfl
   have hg1:=wK (o:=(o.set i (o.getD i 0-lb.getD i 0))) (k:=i) (m:=0+(i:Int).toNat*1) O O
   rw[hx1]at hg1
   refine zH J (zC J (zP qn J J O O (zJ sh3 J H.own0 hg1 (xB J J (fun h=>?_) (fun h=>?_)))))
   ·have d2:=hdb.at i
    have d1:=hda.at i
    refine zH J (zC J (zP qn J J O O (zJ sh3 J H.own0 hg1 (yH J J Y (zP qn J J O O (zT H sz3 J J J J (qE (o:=(o.set i (o.getD i 0-lb.getD i 0))) (k:=i) O O) O (fun s31 H=>?_)))))))
    have d2:=hdb.at i
    have d1:=hda.at i
    have hv1:dv (o.set i (o.getD i 0-lb.getD i 0))+dv (lb.take (i+1))=dv la:=by
     rw[qg lb i]
     rw[dv_set O,Int.mul_sub,Int.mul_sub]
     omega
    have hi1:i+1<la.length:=by
     apply Decidable.byContradiction
     intro hc
     have hle3:=hle
     have:=minus_top (o:=(o.set i (o.getD i 0-lb.getD i 0))) (i:=i) O (fun j hj=>by first|(rw[qD O];exact hlo j hj)|exact hlo j hj) (by rw[hx1];exact h)
     rw[List.take_of_length_le O]at hv1
     omega
    have hn1:(o.set i (o.getD i 0-lb.getD i 0)).getD (i+1) 0=la.getD (i+1) 0:=by first|(rw[qD O];exact hhi (i+1) O)|exact hhi (i+1) O
    have d3:=hda.at (i+1)
    have hg2:=wK (o:=((o.set i (o.getD i 0-lb.getD i 0)).set i ((o.getD i 0-lb.getD i 0)+1000000000))) (k:=i+1) (m:=0+((i:Int)+1).toNat*1) V3 O
    rw[qD (o:=(o.set i (o.getD i 0-lb.getD i 0))) (k:=i) (j:=i+1) O,hn1]at hg2
    refine zH J (zC J (yH J J Y (zP qn J J O O (zJ sh3 J H.own0 hg2 (qC J J Y (zP qn J J O O (zT H sz3 J J J J (qE (o:=(o.set i (o.getD i 0-lb.getD i 0)).set i ((o.getD i 0-lb.getD i 0)+1000000000)) (k:=i+1) V3 O) O (fun s32 H=>?_))))))))
    refine yH J J Y (zC J (en ?_))
    replace hmi:=hmi O
    obtain⟨O3,hO3⟩:∃O3,O3=(((o.set i (o.getD i 0-lb.getD i 0)).set i ((o.getD i 0-lb.getD i 0)+1000000000)).set (i+1) (la.getD (i+1) 0-1)):=⟨_,rfl⟩
    rw[←hO3]at H
    have hl3:O3.length=la.length:=by rw[hO3,List.length_set,List.length_set];exact hl1
    have h3i:O3.getD i 0=(o.getD i 0-lb.getD i 0)+1000000000:=by rw[hO3,qD (o:=(o.set i (o.getD i 0-lb.getD i 0)).set i ((o.getD i 0-lb.getD i 0)+1000000000)) (k:=i+1) (j:=i) O,set_getD0 (o:=(o.set i (o.getD i 0-lb.getD i 0))) (k:=i) O]
    have h3n:O3.getD (i+1) 0=la.getD (i+1) 0-1:=by rw[hO3,set_getD0 (o:=(o.set i (o.getD i 0-lb.getD i 0)).set i ((o.getD i 0-lb.getD i 0)+1000000000)) (k:=i+1) V3]
    have h3o:∀j,j≠i→j≠i+1→O3.getD j 0=o.getD j 0:=fun j h1 h2=>by rw[hO3,qD O,qD O];rw[qD O]
    have hv3:dv O3=dv (o.set i (o.getD i 0-lb.getD i 0)):=by
     have e0:=dv_set (l:=(o.set i (o.getD i 0-lb.getD i 0)).set i ((o.getD i 0-lb.getD i 0)+1000000000)) (k:=i+1) (x:=la.getD (i+1) 0-1) V3
     have e00:=dv_set (l:=(o.set i (o.getD i 0-lb.getD i 0))) (k:=i) (x:=(o.getD i 0-lb.getD i 0)+1000000000) O
     rw[qD (o:=(o.set i (o.getD i 0-lb.getD i 0))) (k:=i) (j:=i+1) O,hn1]at e0
     rw[hx1]at e00
     rw[hO3,e0,e00,Int.pow_succ]
     generalize (1000000000:Int) ^ i=P
     have e1:P*((o.getD i 0-lb.getD i 0)+1000000000-(o.getD i 0-lb.getD i 0))=P*1000000000:=by congr 1;omega
     have e2:P*1000000000*(la.getD (i+1) 0-1-la.getD (i+1) 0) = -(P*1000000000):=by rw[show la.getD (i+1) 0-1-la.getD (i+1) 0 = -1 by omega];omega
     rw[e1,e2]
     omega
    have d2:=hdb.at i
    have d1:=hda.at i
    have hv1:dv (o.set i (o.getD i 0-lb.getD i 0))+dv (lb.take (i+1))=dv la:=by
     rw[qg lb i]
     rw[dv_set O,Int.mul_sub,Int.mul_sub]
     omega
    refine⟨la.length-(i+1),by omega,_,i+1,O3,yZ ⟨J,J,J,J,trivial⟩,H,by omega,J,hl3,by rw[hv3];exact hv1,fun j hj=>?_,fun j hj=>?_,fun hj=>?_⟩
    ·by_cases hji:j=i
     ·rw[hji,h3i];omega
     ·rw[h3o j O O];exact hlo j O
    ·rw[h3o j O O];exact hhi j O
    ·have:=hhi (i+1) O
     rw[h3n];omega
   refine yH J J Y (zC J (en ?_))
   replace hmi:=hmi O
   have d2:=hdb.at i
   have d1:=hda.at i
   have hv1:dv (o.set i (o.getD i 0-lb.getD i 0))+dv (lb.take (i+1))=dv la:=by
    rw[qg lb i]
    rw[dv_set O,Int.mul_sub,Int.mul_sub]
    omega
   refine⟨la.length-(i+1),by omega,_,i+1,(o.set i (o.getD i 0-lb.getD i 0)),yZ ⟨J,J,J,J,trivial⟩,H,by omega,J,by first|(rw[List.length_set];exact hol)|exact hol,hv1,fun j hj=>?_,fun j hj=>?_,fun hj=>?_⟩
   ·by_cases hji:j=i
    ·subst hji;rw[set_getD0 (o:=o) (k:=j) O];omega
    ·rw[qD O];exact hlo j O
   ·rw[qD O];exact hhi j O
   ·have:=hhi (i+1) O
    rw[qD O];omega
  have hl1:o.length=la.length:=by first|(rw[List.length_set];exact hol)|exact hol
  have hx1:o.getD i 0=(o.getD i 0):=by first|rw[set_getD0 (o:=o) (k:=i) O]|rfl
  have hg1:=wK (o:=o) (k:=i) (m:=0+(i:Int).toNat*1) O O
  rw[hx1]at hg1
  refine zH J (zC J (zP qn J J O O (zJ sh3 J H.own0 hg1 (xB J J (fun h=>?_) (fun h=>?_)))))
  ·have d2:=hdb.at i
   have d1:=hda.at i
   refine zH J (zC J (zP qn J J O O (zJ sh3 J H.own0 hg1 (yH J J Y (zP qn J J O O (zT H sz3 J J J J (qE (o:=o) (k:=i) O O) O (fun s31 H=>?_)))))))
   have d2:=hdb.at i
   have d1:=hda.at i
   have hv1:dv o+dv (lb.take (i+1))=dv la:=by
    rw[qg lb i]
    rw[vZ (l:=lb) (k:=i) O]
    omega
   have hi1:i+1<la.length:=by
    apply Decidable.byContradiction
    intro hc
    have hle3:=hle
    have:=minus_top (o:=o) (i:=i) O (fun j hj=>by first|(rw[qD O];exact hlo j hj)|exact hlo j hj) (by rw[hx1];exact h)
    rw[List.take_of_length_le O]at hv1
    omega
   have hn1:o.getD (i+1) 0=la.getD (i+1) 0:=by first|(rw[qD O];exact hhi (i+1) O)|exact hhi (i+1) O
   have d3:=hda.at (i+1)
   have hg2:=wK (o:=(o.set i ((o.getD i 0)+1000000000))) (k:=i+1) (m:=0+((i:Int)+1).toNat*1) V3 O
   rw[qD (o:=o) (k:=i) (j:=i+1) O,hn1]at hg2
   refine zH J (zC J (yH J J Y (zP qn J J O O (zJ sh3 J H.own0 hg2 (qC J J Y (zP qn J J O O (zT H sz3 J J J J (qE (o:=o.set i ((o.getD i 0)+1000000000)) (k:=i+1) V3 O) O (fun s32 H=>?_))))))))
   refine yH J J Y (zC J (en ?_))
   replace hmi:=hmi O
   obtain⟨O3,hO3⟩:∃O3,O3=((o.set i ((o.getD i 0)+1000000000)).set (i+1) (la.getD (i+1) 0-1)):=⟨_,rfl⟩
   rw[←hO3]at H
   have hl3:O3.length=la.length:=by rw[hO3,List.length_set,List.length_set];exact hl1
   have h3i:O3.getD i 0=(o.getD i 0)+1000000000:=by rw[hO3,qD (o:=o.set i ((o.getD i 0)+1000000000)) (k:=i+1) (j:=i) O,set_getD0 (o:=o) (k:=i) O]
   have h3n:O3.getD (i+1) 0=la.getD (i+1) 0-1:=by rw[hO3,set_getD0 (o:=o.set i ((o.getD i 0)+1000000000)) (k:=i+1) V3]
   have h3o:∀j,j≠i→j≠i+1→O3.getD j 0=o.getD j 0:=fun j h1 h2=>by rw[hO3,qD O,qD O]
   have hv3:dv O3=dv o:=by
    have e0:=dv_set (l:=o.set i ((o.getD i 0)+1000000000)) (k:=i+1) (x:=la.getD (i+1) 0-1) V3
    have e00:=dv_set (l:=o) (k:=i) (x:=(o.getD i 0)+1000000000) O
    rw[qD (o:=o) (k:=i) (j:=i+1) O,hn1]at e0
    rw[hx1]at e00
    rw[hO3,e0,e00,Int.pow_succ]
    generalize (1000000000:Int) ^ i=P
    have e1:P*((o.getD i 0)+1000000000-(o.getD i 0))=P*1000000000:=by congr 1;omega
    have e2:P*1000000000*(la.getD (i+1) 0-1-la.getD (i+1) 0) = -(P*1000000000):=by rw[show la.getD (i+1) 0-1-la.getD (i+1) 0 = -1 by omega];omega
    rw[e1,e2]
    omega
   have d2:=hdb.at i
   have d1:=hda.at i
   have hv1:dv o+dv (lb.take (i+1))=dv la:=by
    rw[qg lb i]
    rw[vZ (l:=lb) (k:=i) O]
    omega
   refine⟨la.length-(i+1),by omega,_,i+1,O3,yZ ⟨J,J,J,J,trivial⟩,H,by omega,J,hl3,by rw[hv3];exact hv1,fun j hj=>?_,fun j hj=>?_,fun hj=>?_⟩
   ·by_cases hji:j=i
    ·rw[hji,h3i];omega
    ·rw[h3o j O O];exact hlo j O
   ·rw[h3o j O O];exact hhi j O
   ·have:=hhi (i+1) O
    rw[h3n];omega
  refine yH J J Y (zC J (en ?_))
  replace hmi:=hmi O
  have d2:=hdb.at i
  have d1:=hda.at i
  have hv1:dv o+dv (lb.take (i+1))=dv la:=by
   rw[qg lb i]
   rw[vZ (l:=lb) (k:=i) O]
   omega
  refine⟨la.length-(i+1),by omega,_,i+1,o,yZ ⟨J,J,J,J,trivial⟩,H,by omega,J,by first|(rw[List.length_set];exact hol)|exact hol,hv1,fun j hj=>?_,fun j hj=>?_,fun hj=>?_⟩
  ·by_cases hji:j=i
   ·subst hji;omega
   ·exact hlo j O
  ·exact hhi j O
  ·have:=hhi (i+1) O
   omega
 refine zH J (yU J (en ?_))
 refine yV ?_
 have hiL:i=la.length:=by omega
 subst hiL
 rw[List.take_of_length_le O]at hval
 refine⟨[(b9,.cells (qm o) 3)],o,H.up O,?_,dig_of_getD fun j hj=>hlo j O,by omega,by omega⟩
 have:=wD (b:=b9) (c:=2*la.length) (l:=o) O
 rw[hol]at this
 exact this
end Go.Proofs.YtocnbjjmmgolfaaGreat
