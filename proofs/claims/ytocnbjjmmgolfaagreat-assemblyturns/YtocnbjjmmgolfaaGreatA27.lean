/- The reference of fractions. -/
/- The reference of fractions: sums, products, comparisons. -/
/- Rules for single operations: words of 64 bits without a sign, copies, slices with a greatest length. -/
import Derived.Test.YtocnbjjmmgolfaaGreatA26
import Derived.Test.YtocnbjjmmgolfaaGreatA25
namespace Go.Proofs.YtocnbjjmmgolfaaGreat
open Go Go.M Go.Proofs.C14
theorem fb114:xK Tryz.f114 (Tryz.f114.body.getD .skip) 1=true:=by kernel_rfl
theorem fb95:xK Tryz.f95 (Tryz.f95.body.getD .skip) 1=true:=by kernel_rfl
theorem kI:wZ Tryz.prog 34 1=some 2:=by kernel_rfl
theorem bf34:buildF Tryz.prog 34=some ([.bool false,.slice none 0 0,.bool false,.slice none 0 0],[(0,2),(2,2)]):=by kernel_rfl
theorem fb58:xK Tryz.f58 (Tryz.f58.body.getD .skip) 2=true:=by kernel_rfl
theorem fc112:xJ Tryz.prog 112=true:=by kernel_rfl
theorem fc113:xJ Tryz.prog 113=true:=by kernel_rfl
theorem fc114:xJ Tryz.prog 114=true:=by kernel_rfl
theorem xC:qw Tryz.prog 34=some (some 4):=by kernel_rfl
theorem kb:kD Tryz.prog 34=some 4:=by kernel_rfl
theorem wB:zeroF Tryz.prog 34=some [.bool false,.slice none 0 0,.bool false,.slice none 0 0]:=by kernel_rfl
theorem fb20:xK Tryz.f20 (Tryz.f20.body.getD .skip) 2=true:=by kernel_rfl
theorem fc58:xJ Tryz.prog 58=true:=by kernel_rfl
variable{M N c c1 c2 m m1 m2 n:Nat}{D:Hp'}{K:Kw}{p q:Int}{a a1 a2:Option Addr}{I:xP}{s:St}{n1 n2:Bool}
theorem lenb(h:n≤N)(hN:N<1000000000000000000):(dg n).length≤1000:=Nat.le_trans (jl O) U
theorem dg_one(h:(dg n).length=1):dg n=[(n:Int)]:=by
 have h1:=dval_dg n
 have h2:=kq n
 cases hd:dg n with
 |nil=>rw[hd]at h;simp at h
 |cons x l=>
  rw[hd]at h h1 h2
  have:l=[]:=List.length_eq_zero_iff.mp (by simpa using h)
  subst this
  have:=h2 x Y8
  simp only[kK]at h1
  congr 1
  omega
theorem dg1:dg 1=[1]:=by rw[dg_small U U];rfl
theorem dd_len(q:Rat):(dd q).length=0↔q.den=1:=by
 unfold dd
 split
 ·next h=>simp[h]
 ·next h=>rw[dg_len0];have:=q.den_pos;omega
theorem RatK.nil:RatK (KX K D) false none 0 c1 false none 0 c2 0 0 1:=
 ⟨NumK.nil,⟨rfl,rfl,.inr (.nil c2 rfl rfl)⟩,by decide,by decide⟩
theorem divInt_pos(hq:0<q):(Rat.divInt p q).num=p / (Nat.gcd p.natAbs q.natAbs:Int)∧((Rat.divInt p q).den:Int)=q / (Nat.gcd p.natAbs q.natAbs:Int):=by
 rw[sign_mul_ediv O,den_ediv O,if_neg O,if_neg O]
 exact⟨J,J⟩
theorem divInt_bd(hq:0<q)(hp:p.natAbs≤N)(hm:q.natAbs≤M):Bd (Rat.divInt p q) N M:=by
 obtain⟨d,rfl⟩:=Int.eq_ofNat_of_zero_le (show 0≤q by omega)
 rw[Rat.divInt_ofNat]
 exact bd_mkRat.le hp O
theorem rat_whole{n:Bool}(hq:0<q)(hp:p.natAbs≤N)(hm:q.natAbs≤M)(h1:NumK (KX K D) n a m c (p / (Nat.gcd p.natAbs q.natAbs:Int)))(h2:q / (Nat.gcd p.natAbs q.natAbs:Int)=1) :
  RatK (KX K D) n a m c false none 0 c2 (Rat.divInt p q) N M:=by
 obtain⟨e1,e2⟩:=divInt_pos (p:=p) hq
 rw[←e1]at h1
 rw[←e2]at h2
 have hd:(Rat.divInt p q).den=1:=by omega
 refine⟨h1,⟨J,?_,?_⟩,divInt_bd hq hp hm⟩
 ·rw[dd,if_pos hd];rfl
 ·rw[dd,if_pos hd];exact .inr (.nil c2 rfl rfl)
theorem rat_both{n n':Bool}{a':Option Addr}{m' c':Nat}(hq:0<q)(hp:p.natAbs≤N)(hm:q.natAbs≤M)(h1:NumK K n a m c (p / (Nat.gcd p.natAbs q.natAbs:Int)))(h2:NumK K n' a' m' c' (q / (Nat.gcd p.natAbs q.natAbs:Int)))(h3:q / (Nat.gcd p.natAbs q.natAbs:Int)≠1) :
  RatK K n a m c n' a' m' c' (Rat.divInt p q) N M:=by
 obtain⟨e1,e2⟩:=divInt_pos (p:=p) hq
 rw[←e1]at h1
 rw[←e2]at h2 h3
 have hd:(Rat.divInt p q).den≠1:=by omega
 obtain⟨g1,g2,g3⟩:=h2
 refine⟨h1,⟨by rw[g1];simp,?_,?_⟩,divInt_bd hq hp hm⟩
 ·rw[dd,if_neg hd,g2,Int.natAbs_natCast]
 ·rw[dd,if_neg hd];rwa[Int.natAbs_natCast]at g3
set_option maxHeartbeats 4000000 in
set_option maxRecDepth 10000 in
theorem one04_ok(hI:xA I)(hf:Fine s)(hK:Kn s K){x:Int}(hx:NumK K n1 a1 m1 c1 x)(hroom:s.next+10≤yC) :
  ∃v' s',xN Tryz.prog I 114 #[.agg ⟨[.bool n1,.slice a1 m1 c1]⟩] s v' s'∧qQ s 10 (.bool (decide (x=1))) v' s':=by
 have H:=hf.hl
 obtain⟨hn1,hm1,hk1⟩:=hx
 have ha:=hK _ _ hk1
 cases n1
 ·refine zX 1 (hI 114 U U) Tryz.func114 J fb114 J ?_
  refine zY H J O (fun b1 s1 H=>?_)
  refine zG (zB xD J (zJ sh4 J H.own0 J (zI J (zB yM J (zJ xQ J H.own0 J (yF xV J J J (k6 J J (fun h=>?_) (fun h=>?_))))))))
  ·refine yG J J (zG (en ?_))
   refine yV (⟨congrArg Value.bool ?_,H.drop0.up O⟩)
   simp only[Bool.true_eq,Bool.false_eq,decide_eq_true_eq,decide_eq_false_iff_not]at hn1 ⊢
   intro hx1
   subst hx1
   (rw[Int.natAbs_one,dg1]at hm1;simp at hm1;omega)
  refine yG J J ?_
  have hlen1:(dg x.natAbs).length=1:=by omega
  have hdx:=dg_one hlen1
  subst hm1
  obtain⟨b1_,off1,c1_,rfl,hg1,hb1,hc1⟩:=(ha.kept H).atD (i:=0) (k:=0) rfl O
  rw[hdx]at hc1
  refine zB yM J (zJ xQ J H.own0 J (zP qn J J O O (zJ sh3 J hg1 hc1 (qh J J (fun h=>?_) (fun h=>?_)))))
  ·refine zK J (en ?_)
   refine yV (⟨congrArg Value.bool ?_,H.drop0.up O⟩)
   simp only[Bool.true_eq,Bool.false_eq,decide_eq_true_eq,decide_eq_false_iff_not]at hn1 ⊢
   have h2:(x.natAbs:Int)=1∨(x.natAbs:Int)≠1:=by omega
   (have h3:(x.natAbs:Int)=1:=h;omega)
  refine zK J (en ?_)
  refine yV (⟨congrArg Value.bool ?_,H.drop0.up O⟩)
  simp only[Bool.true_eq,Bool.false_eq,decide_eq_true_eq,decide_eq_false_iff_not]at hn1 ⊢
  have h2:(x.natAbs:Int)=1∨(x.natAbs:Int)≠1:=by omega
  (have h3:(x.natAbs:Int)≠1:=h;omega)
 ·refine zX 1 (hI 114 U U) Tryz.func114 J fb114 J ?_
  refine zY H J O (fun b1 s1 H=>?_)
  refine zG (zB xD J (zJ sh4 J H.own0 J (zI J (xS J (zG (en ?_))))))
  refine yV (⟨congrArg Value.bool ?_,H.drop0.up O⟩)
  simp only[Bool.true_eq,Bool.false_eq,decide_eq_true_eq,decide_eq_false_iff_not]at hn1 ⊢
  intro hx1
  subst hx1
  omega
set_option maxHeartbeats 4000000 in
set_option maxRecDepth 10000 in
theorem den04_ok(hI:xA I)(hf:Fine s){q:Rat}(hx:RatK K n1 a1 m1 c1 n2 a2 m2 c2 q N M)(hroom:s.next+20≤yC) :
  ∃v' s',xN Tryz.prog I 95 #[.agg ⟨[.bool n1,.slice a1 m1 c1,.bool n2,.slice a2 m2 c2]⟩] s v' s'∧wR K s 20 (q.den:Int) v' s':=by
 have H:=hf.hl
 obtain⟨_,⟨hn2,hm2,hk2⟩,_⟩:=hx
 have hdl:=dd_len q
 subst hn2
 refine zX 1 (hI 95 U U) Tryz.func95 J fb95 J ?_
 refine zY H J O (fun b1 s1 H=>?_)
 refine zS H qU O (fun b2 s2 H=>?_)
 refine zB kI J (zB yM J (zJ xQ J H.own1 J (yF xV J J J (qh J J (fun h=>?_) (fun h=>?_)))))
 ·refine zF J fc59 J (qy (of03_ok hI H.fine (K:=KX K []) Y Z) (fun s9 D9 n1 a1 m1 c1 Hc h101=>?_))
  obtain⟨Φ,ku,kd,H⟩:=k8 (K:=K) H Hc
  replace h101:=h101.mono kd
  clear Hc ku kd
  refine zT (vs:=[.bool _,.slice _ _ _]) H qI J J J J J O (fun s3 H=>?_)
  refine en ?_
  refine yP xO J H.own0 J ?_
  have hd:q.den=1:=hdl.mp O
  rw[hd]
  exact⟨Φ,_,_,_,_,J,(frz2 H).up O,h101⟩
 refine zB kI J (zN xO J H.own1 J (zT (vs:=[.bool _,.slice _ _ _]) H qI J J J J J O (fun s4 H=>?_)))
 refine en ?_
 refine yP xO J H.own0 J ?_
 have hd:q.den≠1:=fun h=>by have:=hdl.mpr h;omega
 rw[dd,if_neg hd]at hm2 hk2
 exact⟨[],_,_,_,_,J,H.drop0.drop0.up O,by simp,by rw[Int.natAbs_natCast];exact hm2,by rw[Int.natAbs_natCast];exact .inl hk2⟩
set_option maxHeartbeats 4000000 in
set_option maxRecDepth 10000 in
theorem make04_ok(hI:xA I)(hf:Fine s)(hK:Kn s K)(hx:NumK K n1 a1 m1 c1 p)(hy:NumK K n2 a2 m2 c2 q)(hpN:p.natAbs≤N)(hqM:q.natAbs≤M)(hN:N<1000000000000000000)(hM:M<1000000000000000000)(hq0:0<q)(hroom:s.next+1000≤yC) :
  ∃v' s',xN Tryz.prog I 58 #[.agg ⟨[.bool n1,.slice a1 m1 c1]⟩,.agg ⟨[.bool n2,.slice a2 m2 c2]⟩] s v' s'∧PostQ K s 1000 (Rat.divInt p q) N M v' s':=by
 have H:=hf.hl
 have hne:m2≠0:=fun h=>by have:=hy.zero.mp h;omega
 have hp0:=hx.zero
 have hx:=hx.mono (zZ (D:=[]))
 have hy:=hy.mono (zZ (D:=[]))
 have hg0:=gcd_pos (p:=p) (q:=q) O
 have hgp:((Nat.gcd p.natAbs q.natAbs:Nat):Int)∣p:=Int.ofNat_dvd_left.mpr (Nat.gcd_dvd_left _ _)
 have hgq:((Nat.gcd p.natAbs q.natAbs:Nat):Int)∣q:=Int.ofNat_dvd_left.mpr (Nat.gcd_dvd_right _ _)
 have hgM:Nat.gcd p.natAbs q.natAbs≤M:=Nat.le_trans (Nat.gcd_le_right _ O) hqM
 refine zX 2 (hI 58 U U) Tryz.func58 J fb58 J ?_
 refine zY H J O (fun b2 s1 H=>?_)
 refine zY H J O (fun b3 s2 H=>?_)
 refine zS H wB O (fun b4 s3 H=>?_)
 refine zB yM J (zJ xQ J H.own1 J (yF xV J J J (qh J J Y6 (fun h=>?_))))
 refine zI J (zB yM J (zJ xQ J H.own2 J (yF xV J J J (qh J J (fun h=>?_) (fun h=>?_)))))
 ·refine yG J J (xE (c:=[.bool _,.slice _ _ _,.bool _,.slice _ _ _]) bf34 J (zT (vs:=[.bool _,.slice _ _ _,.bool _,.slice _ _ _]) H kb J J J J J O (fun s4 H=>?_)))
  refine en ?_
  refine yP xC J H.own0 J ?_
  have hz:p=0:=hp0.mp O
  subst hz
  rw[Rat.zero_divInt]
  exact⟨[],_,_,_,_,_,_,_,_,J,(frz3 H).up O,RatK.nil.le O O⟩
 refine yG J J (zN xO J H.own2 J (zN xO J H.own1 J (zF J fc112 J (qy (gcd03_ok hI H.fine (kn3 hK H) hx hy O O Z) (fun s9 D9 n1 a1 m1 c1 Hc h101=>?_)))))
 obtain⟨Φ,ku,kd,H⟩:=qk (K:=K) H Hc
 try replace hx:=hx.mono ku
 try replace hy:=hy.mono ku
 replace h101:=h101.mono kd
 clear Hc ku kd
 refine zS H qU O (fun b5 s5 H=>?_)
 refine zT (vs:=[.bool _,.slice _ _ _]) H qI J J J J J O (fun s6 H=>?_)
 refine zN xO J H.own3 J (zN xO J H.own0 J (zF J fc113 J (callNN (div03_ok hI H.fine (kn4 hK H) hx h101 O (by rw[Int.natAbs_natCast];omega) O Z1 Z) (fun s9 D9 n2 a2 m2 c2 n2r a2r m2r c2r Hc h102a h102b=>?_))))
 obtain⟨Φ,ku,kd,H⟩:=kj (K:=K) H Hc
 try replace hy:=hy.mono ku
 try replace h101:=h101.mono ku
 replace h102a:=h102a.mono kd
 clear Hc ku kd
 refine qo J (yI J J (yI J J (zS H qU O (fun b6 s7 H=>?_))))
 refine zS H qU O (fun b7 s8 H=>?_)
 refine qu (vs:=[.bool _,.slice _ _ _]) H qI J J J J J O (fun s9 H=>?_)
 refine zT (vs:=[.bool _,.slice _ _ _]) H qI J J J J J O (fun s10 H=>?_)
 refine zN xO J H.own4 J (zN xO J H.own2 J (zF J fc113 J (callNN (div03_ok hI H.fine (kn6 hK H) hy h101 O (by rw[Int.natAbs_natCast];omega) O Z1 Z) (fun s9 D9 n3 a3 m3 c3 n3r a3r m3r c3r Hc h103a h103b=>?_))))
 obtain⟨Φ,ku,kd,H⟩:=merge6 (K:=K) H Hc
 try replace h102a:=h102a.mono ku
 replace h103a:=h103a.mono kd
 clear Hc ku kd
 refine qo J (yI J J (yI J J (zS H qU O (fun b8 s11 H=>?_))))
 refine zS H qU O (fun b9 s12 H=>?_)
 refine qu (vs:=[.bool _,.slice _ _ _]) H qI J J J J J O (fun s13 H=>?_)
 refine zT (vs:=[.bool _,.slice _ _ _]) H qI J J J J J O (fun s14 H=>?_)
 have hyp:0<q / (Nat.gcd p.natAbs q.natAbs:Int):=Int.ediv_pos_of_pos_of_dvd hq0 O hgq
 have hnf:n3=false:=by rw[h103a.1];simp;omega
 subst hnf
 refine zB xD J (zJ sh4 J H.own1 J (zN xO J H.own1 J (zF J fc114 J (callB (one04_ok hI H.fine (kn8 hK H) h103a Z) (fun hb4 s9 Hc=>?_) (fun hb4 s9 Hc=>?_)))))
 ·have H:=H.call0 Hc
  clear Hc
  refine zN xO J H.own3 J (zN xO J H.own1 J (xE (c:=[.bool _,.slice _ _ _,.bool _,.slice _ _ _]) bf34 J (op_store5 (vs:=[.bool _,.slice _ _ _,.bool _,.slice _ _ _]) H kb J J J J J O (fun s15 H=>?_))))
  refine en ?_
  refine yP xC J H.own5 J ?_
  exact⟨Φ,_,_,_,_,_,_,_,_,J,(frz8 H).up O,rat_both hq0 hpN hqM h102a h103a (by simpa using hb4)⟩
 have H:=H.call0 Hc
 clear Hc
 refine zN xO J H.own3 J (xE (c:=[.bool _,.slice _ _ _,.bool _,.slice _ _ _]) bf34 J (op_store5 (vs:=[.bool _,.slice _ _ _,.bool _,.slice _ _ _]) H kb J J J J J O (fun s16 H=>?_)))
 refine en ?_
 refine yP xC J H.own5 J ?_
 exact⟨Φ,_,_,_,_,_,_,_,_,J,(frz8 H).up O,rat_whole hq0 hpN hqM h102a (by simpa using hb4)⟩
set_option maxHeartbeats 4000000 in
set_option maxRecDepth 10000 in
theorem wS(hI:xA I)(hf:Fine s)(hpN:p.natAbs≤N)(hqM:q.natAbs≤M)(hN:N<1000000000000000000)(hM:M<1000000000000000000)(hq0:0<q)(hK:Kn s K)(hroom:s.next+1100≤yC) :
  ∃v' s',xN Tryz.prog I 20 #[.int .i64 p,.int .i64 q] s v' s'∧PostQ K s 1100 (Rat.divInt p q) N M v' s':=by
 have H:=hf.hl
 refine zX 2 (hI 20 U U) Tryz.func20 J fb20 J ?_
 refine zS H wB O (fun b4 s1 H=>?_)
 refine zC J (zF J fc59 J (qy (of03_ok hI H.fine (K:=KX K []) Y Z) (fun s9 D9 n1 a1 m1 c1 Hc h101=>?_)))
 obtain⟨Φ,ku,kd,H⟩:=ko (K:=K) H Hc
 replace h101:=h101.mono kd
 clear Hc ku kd
 refine zC J (zF J fc59 J (qy (of03_ok hI H.fine (K:=KX K Φ) Y Z) (fun s9 D9 n2 a2 m2 c2 Hc h102=>?_)))
 obtain⟨Φ,ku,kd,H⟩:=ko (K:=K) H Hc
 try replace h101:=h101.mono ku
 replace h102:=h102.mono kd
 clear Hc ku kd
 refine zF J fc58 J (qe (make04_ok hI H.fine (kn1 hK H) h101 h102 hpN hqM hN hM hq0 Z) (fun s9 D9 n3 a3 m3 c3 n3d a3d m3d c3d Hc h103=>?_))
 obtain⟨Φ,ku,kd,H⟩:=ko (K:=K) H Hc
 replace h103:=h103.mono kd
 clear Hc ku kd
 refine zT (vs:=[.bool _,.slice _ _ _,.bool _,.slice _ _ _]) H kb J J J J J O (fun s2 H=>?_)
 refine en ?_
 refine yP xC J H.own0 J ?_
 exact⟨Φ,_,_,_,_,_,_,_,_,J,(frz1 H).up O,h103⟩
end Go.Proofs.YtocnbjjmmgolfaaGreat
namespace Go.Proofs.YtocnbjjmmgolfaaGreat
open Go Go.M Go.Proofs.C14
theorem fb36:xK Tryz.f36 (Tryz.f36.body.getD .skip) 2=true:=by kernel_rfl
theorem fc94:xJ Tryz.prog 94=true:=by kernel_rfl
theorem fc95:xJ Tryz.prog 95=true:=by kernel_rfl
theorem fc96:xJ Tryz.prog 96=true:=by kernel_rfl
theorem qL:wZ Tryz.prog 34 0=some 0:=by kernel_rfl
theorem fb38:xK Tryz.f38 (Tryz.f38.body.getD .skip) 1=true:=by kernel_rfl
theorem fc97:xJ Tryz.prog 97=true:=by kernel_rfl
theorem fb98:xK Tryz.f98 (Tryz.f98.body.getD .skip) 2=true:=by kernel_rfl
theorem fc36:xJ Tryz.prog 36=true:=by kernel_rfl
theorem fc38:xJ Tryz.prog 38=true:=by kernel_rfl
theorem fb99:xK Tryz.f99 (Tryz.f99.body.getD .skip) 2=true:=by kernel_rfl
theorem fb135:xK Tryz.f135 (Tryz.f135.body.getD .skip) 2=true:=by kernel_rfl
theorem fb80:xK Tryz.f80 (Tryz.f80.body.getD .skip) 1=true:=by kernel_rfl
theorem fc140:xJ Tryz.prog 140=true:=by kernel_rfl
theorem fb109:xK Tryz.f109 (Tryz.f109.body.getD .skip) 2=true:=by kernel_rfl
theorem fc187:xJ Tryz.prog 187=true:=by kernel_rfl
theorem fb110:xK Tryz.f110 (Tryz.f110.body.getD .skip) 1=true:=by kernel_rfl
theorem fc188:xJ Tryz.prog 188=true:=by kernel_rfl
theorem lenB{n N:Nat}(h:n≤N)(hN:N<1000000000000000000000000000000000000000000000000000000):(dg n).length≤1000:=Nat.le_trans (dg_len 6 n O) U
def dz(q:Rat):Int:=if q.den=1 then 0 else(q.den:Int)
theorem dz_dd(q:Rat):dg (dz q).natAbs=dd q:=by
 unfold dz dd
 split
 ·simp[kY]
 ·rw[Int.natAbs_natCast]
theorem dz_ne(q:Rat):dz q≠1:=by unfold dz;split<;>omega
theorem dz_bd{q:Rat}{N M:Nat}(h:Bd q N M):(dz q).natAbs≤M:=by have:=h.2;unfold dz;split<;>omega
theorem rat_eq{a b:Rat}:a=b↔a.num=b.num∧dz a=dz b:=by
 constructor
 ·rintro rfl;exact⟨rfl,rfl⟩
 ·rintro⟨h1,h2⟩
  refine Rat.ext h1 ?_
  have:=a.den_pos
  have:=b.den_pos
  unfold dz at h2
  split at h2<;>split at h2<;>omega
variable{x:Int}{I:xP}{s:St}{n3 n4:Bool}{a3 a4:Option Addr}{c3 c4 m3 m4:Nat}
section
variable{K K':Kw}{n n1 n2:Bool}{a a1 a2:Option Addr}{m c m1 c1 m2 c2:Nat}{q q':Rat}{N M N' M':Nat}
theorem RatK.pp(h:RatK K n1 a1 m1 c1 n2 a2 m2 c2 q N M):NumK K n1 a1 m1 c1 q.num:=h.1
theorem RatK.qq(h:RatK K n1 a1 m1 c1 n2 a2 m2 c2 q N M):NumK K n2 a2 m2 c2 (dz q):=by
 refine⟨?_,by rw[dz_dd];exact h.2.1.2.1,by rw[dz_dd];exact h.2.1.2.2⟩
 rw[h.2.1.1]
 unfold dz
 split<;>simp<;>omega
theorem RatK.bd(h:RatK K n1 a1 m1 c1 n2 a2 m2 c2 q N M)(hb:Bd q N' M'):RatK K n1 a1 m1 c1 n2 a2 m2 c2 q N' M':=⟨h.1,h.2.1,hb⟩
theorem RatK.mk(h1:NumK K n1 a1 m1 c1 q.num)(h2:NumK K n2 a2 m2 c2 (dz q))(hb:Bd q N M):RatK K n1 a1 m1 c1 n2 a2 m2 c2 q N M:=by
 obtain⟨e1,e2,e3⟩:=h2
 rw[dz_dd]at e2 e3
 refine⟨h1,⟨?_,e2,e3⟩,hb⟩
 rw[e1]
 unfold dz
 split<;>simp<;>omega
end
section
variable{a b:Rat}{N1 M1 N2 M2:Nat}
theorem _root_.Go.Proofs.C14.Bd.m1(h:Bd a N1 M1):1≤M1:=by have:=a.den_pos;have:=h.2;omega
theorem mulb{y:Int}{N M:Nat}(h:x.natAbs≤N)(h2:y.natAbs≤M):(x*y).natAbs≤N*M:=by rw[Int.natAbs_mul];exact Nat.mul_le_mul h h2
theorem den_nat(a:Rat):((a.den:Int)).natAbs=a.den:=Int.natAbs_natCast _
theorem add_facts(ha:Bd a N1 M1)(hb:Bd b N2 M2)(h1:N1*M2+N2*M1<1000000000000000000)(h2:M1*M2<1000000000000000000) :
  (dg a.num.natAbs).length≤1000∧(dg b.num.natAbs).length≤1000∧(dg ((a.den:Int)).natAbs).length≤1000∧(dg ((b.den:Int)).natAbs).length≤1000∧(dg (a.num*(b.den:Int)).natAbs).length≤1000∧(dg (b.num*(a.den:Int)).natAbs).length≤1000 ∧
  (a.num*(b.den:Int)+b.num*(a.den:Int)).natAbs≤N1*M2+N2*M1∧((a.den:Int)*(b.den:Int)).natAbs≤M1*M2∧0<(a.den:Int)*(b.den:Int)∧Rat.divInt (a.num*(b.den:Int)+b.num*(a.den:Int)) ((a.den:Int)*(b.den:Int))=a+b:=by
 have e1:=Nat.le_mul_of_pos_right N1 hb.m1
 have e2:=Nat.le_mul_of_pos_right N2 ha.m1
 have e3:=Nat.le_mul_of_pos_right M1 hb.m1
 have e4:=Nat.le_mul_of_pos_left M2 ha.m1
 have da:((a.den:Int)).natAbs≤M1:=by rw[den_nat];exact ha.2
 have db:((b.den:Int)).natAbs≤M2:=by rw[den_nat];exact hb.2
 have p1:=mulb ha.1 db
 have p2:=mulb hb.1 da
 refine⟨lenb ha.1 O,lenb hb.1 O,lenb da O,lenb db O,lenb p1 O,lenb p2 O,Nat.le_trans (Int.natAbs_add_le _ _) O,mulb da db,?_,?_⟩
 ·exact Int.mul_pos (by have:=a.den_pos;omega) (by have:=b.den_pos;omega)
 ·rw[Rat.add_def',←Int.natCast_mul,Rat.divInt_ofNat]
theorem mul_facts(ha:Bd a N1 M1)(hb:Bd b N2 M2)(h1:N1*N2<1000000000000000000)(h2:M1*M2<1000000000000000000)(h3:N1<1000000000000000000)(h4:N2<1000000000000000000) :
  (dg a.num.natAbs).length≤1000∧(dg b.num.natAbs).length≤1000∧(dg ((a.den:Int)).natAbs).length≤1000∧(dg ((b.den:Int)).natAbs).length≤1000 ∧
  (a.num*b.num).natAbs≤N1*N2∧((a.den:Int)*(b.den:Int)).natAbs≤M1*M2∧0<(a.den:Int)*(b.den:Int)∧Rat.divInt (a.num*b.num) ((a.den:Int)*(b.den:Int))=a*b:=by
 have e3:=Nat.le_mul_of_pos_right M1 hb.m1
 have e4:=Nat.le_mul_of_pos_left M2 ha.m1
 have da:((a.den:Int)).natAbs≤M1:=by rw[den_nat];exact ha.2
 have db:((b.den:Int)).natAbs≤M2:=by rw[den_nat];exact hb.2
 refine⟨lenb ha.1 h3,lenb hb.1 h4,lenb da O,lenb db O,mulb ha.1 hb.1,mulb da db,?_,?_⟩
 ·exact Int.mul_pos (by have:=a.den_pos;omega) (by have:=b.den_pos;omega)
 ·rw[Rat.mul_def',←Int.natCast_mul,Rat.divInt_ofNat]
theorem cmp_facts(ha:Bd a N1 M1)(hb:Bd b N2 M2)(h1:N1*M2<1000000000000000000000000000000000000000000000000000000)(h2:N2*M1<1000000000000000000000000000000000000000000000000000000)(h3:M1*M2<1000000000000000000000000000000000000000000000000000000) :
  (dg a.num.natAbs).length≤1000∧(dg b.num.natAbs).length≤1000∧(dg ((a.den:Int)).natAbs).length≤1000∧(dg ((b.den:Int)).natAbs).length≤1000∧(dg (a.num*(b.den:Int)).natAbs).length≤1000∧(dg (b.num*(a.den:Int)).natAbs).length≤1000:=by
 have e1:=Nat.le_mul_of_pos_right N1 hb.m1
 have e2:=Nat.le_mul_of_pos_right N2 ha.m1
 have e3:=Nat.le_mul_of_pos_right M1 hb.m1
 have e4:=Nat.le_mul_of_pos_left M2 ha.m1
 have da:((a.den:Int)).natAbs≤M1:=by rw[den_nat];exact ha.2
 have db:((b.den:Int)).natAbs≤M2:=by rw[den_nat];exact hb.2
 exact⟨lenB ha.1 O,lenB hb.1 O,lenB da O,lenB db O,lenB (mulb ha.1 db) O,lenB (mulb hb.1 da) O⟩
end
theorem gcd_dz{a:Rat}(h:dz a≠0):((Nat.gcd a.num.natAbs (dz a).natAbs:Nat):Int)=1:=by
 have e:(dz a).natAbs=a.den:=by
  unfold dz at h ⊢
  split at h
  ·exact(h J).elim
  ·next hd=>rw[if_neg hd,Int.natAbs_natCast]
 rw[e,Nat.coprime_iff_gcd_eq_one.mp a.reduced]
 rfl
theorem one04_no(hI:xA I)(hf:Fine s){K:Kw}(hK:Kn s K){n1:Bool}{a1:Option Addr}{m1 c1:Nat}(hx:NumK K n1 a1 m1 c1 x)(h:x≠1)(hroom:s.next+10≤yC) :
  ∃v' s',xN Tryz.prog I 114 #[.agg ⟨[.bool n1,.slice a1 m1 c1]⟩] s v' s'∧qQ s 10 (.bool false) v' s':=by
 have:=one04_ok hI hf hK hx hroom
 rwa[decide_eq_false h]at this
theorem one04_yes(hI:xA I)(hf:Fine s){K:Kw}(hK:Kn s K){n1:Bool}{a1:Option Addr}{m1 c1:Nat}(hx:NumK K n1 a1 m1 c1 x)(h:x=1)(hroom:s.next+10≤yC) :
  ∃v' s',xN Tryz.prog I 114 #[.agg ⟨[.bool n1,.slice a1 m1 c1]⟩] s v' s'∧qQ s 10 (.bool true) v' s':=by
 have:=one04_ok hI hf hK hx hroom
 rwa[decide_eq_true h]at this
set_option maxHeartbeats 4000000 in
set_option maxRecDepth 10000 in
theorem wQ(hI:xA I)(hf:Fine s){K:Kw}(hK:Kn s K){n1:Bool}{a1:Option Addr}{m1 c1:Nat}{n2:Bool}{a2:Option Addr}{m2 c2:Nat}{a b:Rat}{N1 M1 N2 M2:Nat}(hx:RatK K n1 a1 m1 c1 n2 a2 m2 c2 a N1 M1)(hy:RatK K n3 a3 m3 c3 n4 a4 m4 c4 b N2 M2)(h1:N1*M2+N2*M1<1000000000000000000)(h2:M1*M2<1000000000000000000)(hroom:s.next+15000≤yC) :
  ∃v' s',xN Tryz.prog I 36 #[.agg ⟨[.bool n1,.slice a1 m1 c1,.bool n2,.slice a2 m2 c2]⟩,.agg ⟨[.bool n3,.slice a3 m3 c3,.bool n4,.slice a4 m4 c4]⟩] s v' s'∧PostQ K s 15000 (a+b) (N1*M2+N2*M1) (M1*M2) v' s':=by
 have H:=hf.hl
 obtain⟨l1,l2,l3,l4,l5,l6,l7,l8,l9,l10⟩:=add_facts hx.2.2 hy.2.2 h1 h2
 have hx:=hx.mono (zZ (D:=[]))
 have hy:=hy.mono (zZ (D:=[]))
 have hx1:=hx.pp
 have hx2:=hx.qq
 have hy1:=hy.pp
 have hy2:=hy.qq
 refine zX 2 (hI 36 U U) Tryz.func36 J fb36 J ?_
 refine zY H J O (fun b2 s1 H=>?_)
 refine zY H J O (fun b3 s2 H=>?_)
 refine zS H wB O (fun b4 s3 H=>?_)
 refine yT [⟨0,0,.light,[2]⟩,⟨1,1,.light,[2]⟩,⟨2,0,.light,[1]⟩,⟨3,4,.fresh,[1]⟩,⟨4,15,.fresh,[]⟩,⟨5,0,.fresh,[1,2]⟩,⟨6,63,.whole,[]⟩] Z0 Z0 (zA J J (zB qL J ⟨J,(zQ J J xO J H.own2 Y2 J (zQ J J xC J H.own1 Y1 J (yK J J (zF J fc95 J (qy (den04_ok hI Y9 hy Z) (fun s9 D9 n1 a1 m1 c1 Hc h101=>?_))))))⟩))
 have Hc:=HL.wider H.fine H.fine.wfb Z7 Hc
 obtain⟨Φ,ku,kd,H⟩:=qk (K:=K) H Hc
 try replace hx:=hx.mono ku
 try replace hx1:=hx1.mono ku
 try replace hy:=hy.mono ku
 try replace hy1:=hy1.mono ku
 replace h101:=h101.mono kd
 clear Hc ku kd
 refine yK J J (zF J fc94 J (qy (mul03_ok hI Y9 X3 hx1 h101 Z1 Z1 Z) (fun s9 D9 n2 a2 m2 c2 Hc h102=>?_)))
 have Hc:=HL.wider H.fine H.fine.wfb Z7 Hc
 obtain⟨Φ,ku,kd,H⟩:=qk (K:=K) H Hc
 try replace hx:=hx.mono ku
 try replace hy:=hy.mono ku
 try replace hy1:=hy1.mono ku
 replace h102:=h102.mono kd
 clear Hc ku kd
 refine yK J J (zS (Fine.fresh H.fine).hl qU (H.rm (k:=1) O) (fun b5 s4 Hc=>?_))
 have H:=H.call X6
 clear Hc
 refine xM (vs:=[.bool _,.slice _ _ _]) (fr:=[]) H J J qI J J J J J J Z2 O (fun s5 H=>?_)
 refine zU (yT [⟨0,0,.light,[2]⟩,⟨1,1,.light,[2]⟩,⟨2,0,.light,[1]⟩,⟨3,4,.fresh,[1]⟩,⟨4,15,.fresh,[]⟩,⟨5,0,.fresh,[1,2]⟩,⟨6,63,.whole,[]⟩] Z0 Z0 (zA J J (zB qL J ⟨J,(zQ J J xO J H.own2 Y2 J (zQ J J xC J H.own3 Y3 J (yK J J (zF J fc95 J (qy (den04_ok hI Y9 hx Z) (fun s9 D9 n3 a3 m3 c3 Hc h103=>?_))))))⟩)))
 have Hc:=HL.wider H.fine H.fine.wfb Z7 Hc
 obtain⟨Φ,ku,kd,H⟩:=kj (K:=K) H Hc
 try replace hx:=hx.mono ku
 try replace hy:=hy.mono ku
 try replace hy1:=hy1.mono ku
 try replace h102:=h102.mono ku
 replace h103:=h103.mono kd
 clear Hc ku kd
 refine yK J J (zF J fc94 J (qy (mul03_ok hI Y9 X4 hy1 h103 Z1 Z1 Z) (fun s9 D9 n4 a4 m4 c4 Hc h104=>?_)))
 have Hc:=HL.wider H.fine H.fine.wfb Z7 Hc
 obtain⟨Φ,ku,kd,H⟩:=kj (K:=K) H Hc
 try replace hx:=hx.mono ku
 try replace hy:=hy.mono ku
 try replace h102:=h102.mono ku
 replace h104:=h104.mono kd
 clear Hc ku kd
 refine yK J J (zS (Fine.fresh H.fine).hl qU (H.rm (k:=1) O) (fun b6 s6 Hc=>?_))
 have H:=H.call X6
 clear Hc
 refine xM (vs:=[.bool _,.slice _ _ _]) (fr:=[]) H J J qI J J J J J J Z2 O (fun s7 H=>?_)
 refine zU (yT [⟨0,0,.light,[1,3,5]⟩,⟨1,0,.light,[0,3,5]⟩,⟨3,0,.light,[0,1,5]⟩,⟨5,0,.light,[0,1,3]⟩,⟨2,3,.whole,[3,5]⟩,⟨4,15,.whole,[5]⟩,⟨6,63,.whole,[]⟩,⟨7,127,.whole,[]⟩,⟨8,255,.whole,[]⟩,⟨9,511,.whole,[]⟩] Z0 Z0 (zQ J J xO J H.own1 Y1 J (zQ J J xO J H.own0 Y0 J (zQ J J xC J H.own4 Y4 J (zQ J J xC J H.own3 Y3 J (zM J J (zF J fc96 J (qy (add03_ok hI (Fine.pr H.fine (xW H.lt4 (xW H.lt3 qO))) X5 h102 h104 Z1 Z1 Z) (fun s9 D9 n5 a5 m5 c5 Hc h105=>?_)))))))))
 have Hc:=HL.wider H.fine Z3 Z5 Hc
 obtain⟨Φ,ku,kd,H⟩:=ka (K:=K) H Hc
 try replace hx:=hx.mono ku
 try replace hy:=hy.mono ku
 replace h105:=h105.mono kd
 clear Hc ku kd
 refine zM J J (zF J fc95 J (qy (den04_ok hI (Fine.pr H.fine (xW H.lt3 qO)) hx Z) (fun s9 D9 n6 a6 m6 c6 Hc h106=>?_)))
 have Hc:=HL.wider H.fine Z3 Z5 Hc
 obtain⟨Φ,ku,kd,H⟩:=ka (K:=K) H Hc
 try replace hy:=hy.mono ku
 try replace h105:=h105.mono ku
 replace h106:=h106.mono kd
 clear Hc ku kd
 refine zM J J (zF J fc95 J (qy (den04_ok hI H.fine hy Z) (fun s9 D9 n7 a7 m7 c7 Hc h107=>?_)))
 have Hc:=HL.wider H.fine Z3 Z7 Hc
 obtain⟨Φ,ku,kd,H⟩:=ka (K:=K) H Hc
 try replace h105:=h105.mono ku
 try replace h106:=h106.mono ku
 replace h107:=h107.mono kd
 clear Hc ku kd
 refine zM J J (zF J fc94 J (qy (mul03_ok hI H.fine (kn5 hK H) h106 h107 Z1 Z1 Z) (fun s9 D9 n8 a8 m8 c8 Hc h108=>?_)))
 have Hc:=HL.wider H.fine Z3 Z7 Hc
 obtain⟨Φ,ku,kd,H⟩:=ka (K:=K) H Hc
 try replace h105:=h105.mono ku
 replace h108:=h108.mono kd
 clear Hc ku kd
 refine zM J J (zF J fc58 J (qe (make04_ok hI H.fine (kn5 hK H) h105 h108 Z1 Z1 Z1 Z1 Z1 Z) (fun s9 D9 n9 a9 m9 c9 n9d a9d m9d c9d Hc h109=>?_)))
 have Hc:=HL.wider H.fine Z3 Z7 Hc
 obtain⟨Φ,ku,kd,H⟩:=ka (K:=K) H Hc
 replace h109:=h109.mono kd
 clear Hc ku kd
 refine ke (vs:=[.bool _,.slice _ _ _,.bool _,.slice _ _ _]) (fr:=[]) H J J kb J J J J J J Z2 O (fun s8 H=>?_)
 refine zU (en ?_)
 refine yP xC J H.own2 J ?_
 rw[l10]at h109
 exact⟨Φ,_,_,_,_,_,_,_,_,J,(frz5 H).up O,h109⟩
set_option maxHeartbeats 4000000 in
set_option maxRecDepth 10000 in
theorem neg04_ok(hI:xA I)(hf:Fine s){K:Kw}(hK:Kn s K){n1:Bool}{a1:Option Addr}{m1 c1:Nat}{n2:Bool}{a2:Option Addr}{m2 c2:Nat}{a:Rat}{N1 M1:Nat}(hx:RatK K n1 a1 m1 c1 n2 a2 m2 c2 a N1 M1)(h1:N1<1000000000000000000)(hroom:s.next+30≤yC) :
  ∃v' s',xN Tryz.prog I 38 #[.agg ⟨[.bool n1,.slice a1 m1 c1,.bool n2,.slice a2 m2 c2]⟩] s v' s'∧PostQ K s 30 (-a) N1 M1 v' s':=by
 have H:=hf.hl
 have l1:=lenb hx.2.2.1 h1
 have hb:=hx.2.2.neg
 have hx:=hx.mono (zZ (D:=[]))
 have hx1:=hx.pp
 have hx2:=hx.qq
 refine zX 1 (hI 38 U U) Tryz.func38 J fb38 J ?_
 refine zY H J O (fun b1 s1 H=>?_)
 refine zS H wB O (fun b2 s2 H=>?_)
 refine yT [⟨0,0,.light,[4]⟩,⟨1,1,.light,[4]⟩,⟨3,0,.light,[1]⟩,⟨4,8,.light,[1]⟩,⟨2,3,.whole,[4]⟩,⟨5,31,.light,[]⟩,⟨6,63,.whole,[]⟩] Z0 Z0 (zA J J (zB qL J ⟨J,(zQ J J xO J H.own1 Y1 J (zA J J (zB kI J ⟨J,(zQ J J xO J H.own1 Y1 J (zM J J (zF J fc97 J (qy (neg03_ok hI (Fine.pr H.fine (xW H.lt1 qO)) X2 hx1 Z1 Z) (fun s9 D9 n1 a1 m1 c1 Hc h101=>?_)))))⟩)))⟩))
 have Hc:=HL.wider H.fine Z3 Z5 Hc
 obtain⟨Φ,ku,kd,H⟩:=k8 (K:=K) H Hc
 try replace hx2:=hx2.mono ku
 replace h101:=h101.mono kd
 clear Hc ku kd
 refine zA J J (xE (c:=[.bool _,.slice _ _ _,.bool _,.slice _ _ _]) bf34 J ⟨J,(xM (vs:=[.bool _,.slice _ _ _,.bool _,.slice _ _ _]) (fr:=[]) H J J kb J J J J J J Z2 O (fun s3 H=>?_))⟩)
 refine zU (en ?_)
 refine yP xC J H.own0 J ?_
 exact⟨Φ,_,_,_,_,_,_,_,_,J,(frz2 H).up O,RatK.mk h101 hx2 hb⟩
set_option maxHeartbeats 4000000 in
set_option maxRecDepth 10000 in
theorem sub04_ok(hI:xA I)(hf:Fine s){K:Kw}(hK:Kn s K){n1:Bool}{a1:Option Addr}{m1 c1:Nat}{n2:Bool}{a2:Option Addr}{m2 c2:Nat}{a b:Rat}{N1 M1 N2 M2:Nat}(hx:RatK K n1 a1 m1 c1 n2 a2 m2 c2 a N1 M1)(hy:RatK K n3 a3 m3 c3 n4 a4 m4 c4 b N2 M2)(h1:N1*M2+N2*M1<1000000000000000000)(h2:M1*M2<1000000000000000000)(hroom:s.next+16000≤yC) :
  ∃v' s',xN Tryz.prog I 98 #[.agg ⟨[.bool n1,.slice a1 m1 c1,.bool n2,.slice a2 m2 c2]⟩,.agg ⟨[.bool n3,.slice a3 m3 c3,.bool n4,.slice a4 m4 c4]⟩] s v' s'∧PostQ K s 16000 (a-b) (N1*M2+N2*M1) (M1*M2) v' s':=by
 have H:=hf.hl
 have l1:N2<1000000000000000000:=by have:=Nat.le_mul_of_pos_right N2 hx.2.2.m1;omega
 have hx:=hx.mono (zZ (D:=[]))
 have hy:=hy.mono (zZ (D:=[]))
 refine zX 2 (hI 98 U U) Tryz.func98 J fb98 J ?_
 refine zY H J O (fun b2 s1 H=>?_)
 refine zY H J O (fun b3 s2 H=>?_)
 refine zS H wB O (fun b4 s3 H=>?_)
 refine yT [⟨0,0,.light,[1]⟩,⟨1,0,.light,[0]⟩,⟨2,2,.whole,[0]⟩,⟨3,7,.whole,[]⟩,⟨4,15,.whole,[]⟩] Z0 Z0 (zQ J J xC J H.own2 Y2 J (zQ J J xC J H.own1 Y1 J (zM J J (zF J fc38 J (qe (neg04_ok hI (Fine.pr H.fine (xW H.lt2 qO)) X3 hy Z1 Z) (fun s9 D9 n1 a1 m1 c1 n1d a1d m1d c1d Hc h101=>?_))))))
 have Hc:=HL.wider H.fine Z3 Z5 Hc
 obtain⟨Φ,ku,kd,H⟩:=qk (K:=K) H Hc
 try replace hx:=hx.mono ku
 replace h101:=h101.mono kd
 clear Hc ku kd
 refine zM J J (zF J fc36 J (qe (wQ hI H.fine (kn3 hK H) hx h101 Z1 Z1 Z) (fun s9 D9 n2 a2 m2 c2 n2d a2d m2d c2d Hc h102=>?_)))
 have Hc:=HL.wider H.fine Z3 Z7 Hc
 obtain⟨Φ,ku,kd,H⟩:=qk (K:=K) H Hc
 replace h102:=h102.mono kd
 clear Hc ku kd
 refine xM (vs:=[.bool _,.slice _ _ _,.bool _,.slice _ _ _]) (fr:=[]) H J J kb J J J J J J Z2 O (fun s4 H=>?_)
 refine zU (en ?_)
 refine yP xC J H.own0 J ?_
 rw[←Rat.sub_eq_add_neg]at h102
 exact⟨Φ,_,_,_,_,_,_,_,_,J,(frz3 H).up O,h102⟩
set_option maxHeartbeats 4000000 in
set_option maxRecDepth 10000 in
theorem kF(hI:xA I)(hf:Fine s){K:Kw}(hK:Kn s K){n1:Bool}{a1:Option Addr}{m1 c1:Nat}{n2:Bool}{a2:Option Addr}{m2 c2:Nat}{a b:Rat}{N1 M1 N2 M2:Nat}(hx:RatK K n1 a1 m1 c1 n2 a2 m2 c2 a N1 M1)(hy:RatK K n3 a3 m3 c3 n4 a4 m4 c4 b N2 M2)(h1:N1*N2<1000000000000000000)(h2:M1*M2<1000000000000000000)(h3:N1<1000000000000000000)(h4:N2<1000000000000000000)(hroom:s.next+5000≤yC) :
  ∃v' s',xN Tryz.prog I 99 #[.agg ⟨[.bool n1,.slice a1 m1 c1,.bool n2,.slice a2 m2 c2]⟩,.agg ⟨[.bool n3,.slice a3 m3 c3,.bool n4,.slice a4 m4 c4]⟩] s v' s'∧PostQ K s 5000 (a*b) (N1*N2) (M1*M2) v' s':=by
 have H:=hf.hl
 obtain⟨l1,l2,l3,l4,l7,l8,l9,l10⟩:=mul_facts hx.2.2 hy.2.2 h1 h2 h3 h4
 have hx:=hx.mono (zZ (D:=[]))
 have hy:=hy.mono (zZ (D:=[]))
 have hx1:=hx.pp
 have hx2:=hx.qq
 have hy1:=hy.pp
 have hy2:=hy.qq
 refine zX 2 (hI 99 U U) Tryz.func99 J fb99 J ?_
 refine zY H J O (fun b2 s1 H=>?_)
 refine zY H J O (fun b3 s2 H=>?_)
 refine zS H wB O (fun b4 s3 H=>?_)
 refine yT [⟨0,0,.light,[3,5,7]⟩,⟨1,1,.light,[3,5,7]⟩,⟨2,0,.light,[1,5,7]⟩,⟨3,4,.light,[1,5,7]⟩,⟨5,0,.light,[1,3,7]⟩,⟨7,0,.light,[1,3,5]⟩,⟨4,15,.whole,[5,7]⟩,⟨6,63,.whole,[7]⟩,⟨8,255,.whole,[]⟩,⟨9,511,.whole,[]⟩,⟨10,1023,.whole,[]⟩,⟨11,2047,.whole,[]⟩] Z0 Z0 (zA J J (zB qL J ⟨J,(zQ J J xO J H.own2 Y2 J (zA J J (zB qL J ⟨J,(zQ J J xO J H.own1 Y1 J (zQ J J xC J H.own2 Y2 J (zQ J J xC J H.own1 Y1 J (zM J J (zF J fc94 J (qy (mul03_ok hI (Fine.pr H.fine (xW H.lt2 (xW H.lt1 qO))) X3 hx1 hy1 Z1 Z1 Z) (fun s9 D9 n1 a1 m1 c1 Hc h101=>?_)))))))⟩)))⟩))
 have Hc:=HL.wider H.fine Z3 Z5 Hc
 obtain⟨Φ,ku,kd,H⟩:=qk (K:=K) H Hc
 try replace hx:=hx.mono ku
 try replace hy:=hy.mono ku
 replace h101:=h101.mono kd
 clear Hc ku kd
 refine zM J J (zF J fc95 J (qy (den04_ok hI (Fine.pr H.fine (xW H.lt1 qO)) hx Z) (fun s9 D9 n2 a2 m2 c2 Hc h102=>?_)))
 have Hc:=HL.wider H.fine Z3 Z5 Hc
 obtain⟨Φ,ku,kd,H⟩:=qk (K:=K) H Hc
 try replace hy:=hy.mono ku
 try replace h101:=h101.mono ku
 replace h102:=h102.mono kd
 clear Hc ku kd
 refine zM J J (zF J fc95 J (qy (den04_ok hI H.fine hy Z) (fun s9 D9 n3 a3 m3 c3 Hc h103=>?_)))
 have Hc:=HL.wider H.fine Z3 Z7 Hc
 obtain⟨Φ,ku,kd,H⟩:=qk (K:=K) H Hc
 try replace h101:=h101.mono ku
 try replace h102:=h102.mono ku
 replace h103:=h103.mono kd
 clear Hc ku kd
 refine zM J J (zF J fc94 J (qy (mul03_ok hI H.fine (kn3 hK H) h102 h103 Z1 Z1 Z) (fun s9 D9 n4 a4 m4 c4 Hc h104=>?_)))
 have Hc:=HL.wider H.fine Z3 Z7 Hc
 obtain⟨Φ,ku,kd,H⟩:=qk (K:=K) H Hc
 try replace h101:=h101.mono ku
 replace h104:=h104.mono kd
 clear Hc ku kd
 refine zM J J (zF J fc58 J (qe (make04_ok hI H.fine (kn3 hK H) h101 h104 Z1 Z1 Z1 Z1 Z1 Z) (fun s9 D9 n5 a5 m5 c5 n5d a5d m5d c5d Hc h105=>?_)))
 have Hc:=HL.wider H.fine Z3 Z7 Hc
 obtain⟨Φ,ku,kd,H⟩:=qk (K:=K) H Hc
 replace h105:=h105.mono kd
 clear Hc ku kd
 refine xM (vs:=[.bool _,.slice _ _ _,.bool _,.slice _ _ _]) (fr:=[]) H J J kb J J J J J J Z2 O (fun s4 H=>?_)
 refine zU (en ?_)
 refine yP xC J H.own0 J ?_
 rw[l10]at h105
 exact⟨Φ,_,_,_,_,_,_,_,_,J,(frz3 H).up O,h105⟩
set_option maxHeartbeats 4000000 in
set_option maxRecDepth 10000 in
theorem qH(hI:xA I)(hf:Fine s){K:Kw}(hK:Kn s K){n1:Bool}{a1:Option Addr}{m1 c1:Nat}{n2:Bool}{a2:Option Addr}{m2 c2:Nat}{a b:Rat}{N1 M1 N2 M2:Nat}(hx:RatK K n1 a1 m1 c1 n2 a2 m2 c2 a N1 M1)(hy:RatK K n3 a3 m3 c3 n4 a4 m4 c4 b N2 M2)(h1:N1*M2<1000000000000000000000000000000000000000000000000000000)(h2:N2*M1<1000000000000000000000000000000000000000000000000000000)(h3:M1*M2<1000000000000000000000000000000000000000000000000000000)(hroom:s.next+1000≤yC) :
  ∃v' s',xN Tryz.prog I 135 #[.agg ⟨[.bool n1,.slice a1 m1 c1,.bool n2,.slice a2 m2 c2]⟩,.agg ⟨[.bool n3,.slice a3 m3 c3,.bool n4,.slice a4 m4 c4]⟩] s v' s'∧qQ s 1000 (.int .i64 (cmpQ a b)) v' s':=by
 have H:=hf.hl
 obtain⟨l1,l2,l3,l4,l5,l6⟩:=cmp_facts hx.2.2 hy.2.2 h1 h2 h3
 have hx:=hx.mono (zZ (D:=[]))
 have hy:=hy.mono (zZ (D:=[]))
 have hx1:=hx.pp
 have hx2:=hx.qq
 have hy1:=hy.pp
 have hy2:=hy.qq
 refine zX 2 (hI 135 U U) Tryz.func135 J fb135 J ?_
 refine zY H J O (fun b2 s1 H=>?_)
 refine zY H J O (fun b3 s2 H=>?_)
 refine zG (yT [⟨0,0,.light,[2,6,7]⟩,⟨1,1,.light,[2,6,7]⟩,⟨2,0,.light,[1,6,7]⟩,⟨5,0,.light,[1,2,7]⟩,⟨6,32,.light,[1,2,7]⟩,⟨7,0,.light,[1,2,6]⟩,⟨3,4,.whole,[1,6,7]⟩,⟨4,15,.whole,[6,7]⟩,⟨8,159,.whole,[6]⟩,⟨9,511,.whole,[]⟩,⟨10,1023,.whole,[]⟩,⟨11,2047,.light,[]⟩] Z0 Z0 (zA J J (zB qL J ⟨J,(zQ J J xO J H.own1 Y1 J (zQ J J xC J H.own0 Y0 J (zA J J (zB qL J ⟨J,(zQ J J xO J H.own0 Y0 J (zQ J J xC J H.own1 Y1 J (zM J J (zF J fc95 J (qy (den04_ok hI (Fine.pr H.fine (xW H.lt1 (xW H.lt0 (xW H.lt1 qO)))) hy Z) (fun s9 D9 n1 a1 m1 c1 Hc h101=>?_))))))⟩))))⟩)))
 have Hc:=HL.wider H.fine Z3 Z5 Hc
 obtain⟨Φ,ku,kd,H⟩:=k8 (K:=K) H Hc
 try replace hx:=hx.mono ku
 try replace hx1:=hx1.mono ku
 try replace hy1:=hy1.mono ku
 replace h101:=h101.mono kd
 clear Hc ku kd
 refine zM J J (zF J fc94 J (qy (mul03_ok hI (Fine.pr H.fine (xW H.lt0 (xW H.lt1 qO))) X2 hx1 h101 Z1 Z1 Z) (fun s9 D9 n2 a2 m2 c2 Hc h102=>?_)))
 have Hc:=HL.wider H.fine Z3 Z5 Hc
 obtain⟨Φ,ku,kd,H⟩:=k8 (K:=K) H Hc
 try replace hx:=hx.mono ku
 try replace hy1:=hy1.mono ku
 replace h102:=h102.mono kd
 clear Hc ku kd
 refine zM J J (zF J fc95 J (qy (den04_ok hI (Fine.pr H.fine (xW H.lt0 qO)) hx Z) (fun s9 D9 n3 a3 m3 c3 Hc h103=>?_)))
 have Hc:=HL.wider H.fine Z3 Z5 Hc
 obtain⟨Φ,ku,kd,H⟩:=k8 (K:=K) H Hc
 try replace hy1:=hy1.mono ku
 try replace h102:=h102.mono ku
 replace h103:=h103.mono kd
 clear Hc ku kd
 refine zM J J (zF J fc94 J (qy (mul03_ok hI H.fine (kn2 hK H) hy1 h103 Z1 Z1 Z) (fun s9 D9 n4 a4 m4 c4 Hc h104=>?_)))
 have Hc:=HL.wider H.fine Z3 Z7 Hc
 obtain⟨Φ,ku,kd,H⟩:=k8 (K:=K) H Hc
 try replace h102:=h102.mono ku
 replace h104:=h104.mono kd
 clear Hc ku kd
 refine zM J J (zF J fc207 J (callE (cmp03_ok hI H.fine (kn2 hK H) h102 h104 Z1 Z1 Z) (fun s9 Hc=>?_)))
 have Hc:=HL.wider H.fine Z3 Z7 Hc
 have H:=H.call0 Hc
 clear Hc
 refine zA J J (zL J ⟨J,(zU (en ?_))⟩)
 refine yV (⟨congrArg (Value.int .i64) (cmpQ_eq a b),(H.sub Z9).up O⟩)
set_option maxHeartbeats 4000000 in
set_option maxRecDepth 10000 in
theorem sign04_ok(hI:xA I)(hf:Fine s){K:Kw}(hK:Kn s K){n1:Bool}{a1:Option Addr}{m1 c1:Nat}{n2:Bool}{a2:Option Addr}{m2 c2:Nat}{a:Rat}{N1 M1:Nat}(hx:RatK K n1 a1 m1 c1 n2 a2 m2 c2 a N1 M1)(h1:N1<1000000000000000000000000000000000000000000000000000000)(hroom:s.next+100≤yC) :
  ∃v' s',xN Tryz.prog I 80 #[.agg ⟨[.bool n1,.slice a1 m1 c1,.bool n2,.slice a2 m2 c2]⟩] s v' s'∧qQ s 100 (.int .i64 (cmpI a.num 0)) v' s':=by
 have H:=hf.hl
 have l1:=lenB hx.2.2.1 h1
 have hx:=hx.mono (zZ (D:=[]))
 have hx1:=hx.pp
 have hx2:=hx.qq
 refine zX 1 (hI 80 U U) Tryz.func80 J fb80 J ?_
 refine zY H J O (fun b1 s1 H=>?_)
 refine zG (zB qL J (zN xO J H.own0 J (zF J fc140 J (callE (sign03_ok hI H.fine (kn1 hK H) hx1 Z1 Z) (fun s9 Hc=>?_)))))
 have H:=H.call0 Hc
 clear Hc
 refine zL J (en ?_)
 refine yV (⟨J,(H.sub Z9).up O⟩)
set_option maxHeartbeats 4000000 in
set_option maxRecDepth 10000 in
theorem same04_ok(hI:xA I)(hf:Fine s){K:Kw}(hK:Kn s K){n1:Bool}{a1:Option Addr}{m1 c1:Nat}{n2:Bool}{a2:Option Addr}{m2 c2:Nat}{a b:Rat}{N1 M1 N2 M2:Nat}(hx:RatK K n1 a1 m1 c1 n2 a2 m2 c2 a N1 M1)(hy:RatK K n3 a3 m3 c3 n4 a4 m4 c4 b N2 M2)(h1:N1<1000000000000000000000000000000000000000000000000000000)(h2:N2<1000000000000000000000000000000000000000000000000000000)(h3:M1<1000000000000000000000000000000000000000000000000000000)(h4:M2<1000000000000000000000000000000000000000000000000000000)(hroom:s.next+100≤yC) :
  ∃v' s',xN Tryz.prog I 109 #[.agg ⟨[.bool n1,.slice a1 m1 c1,.bool n2,.slice a2 m2 c2]⟩,.agg ⟨[.bool n3,.slice a3 m3 c3,.bool n4,.slice a4 m4 c4]⟩] s v' s'∧qQ s 100 (.bool (decide (a=b))) v' s':=by
 have H:=hf.hl
 have l1:=lenB hx.2.2.1 h1
 have l2:=lenB hy.2.2.1 h2
 have l3:=lenB (dz_bd hx.2.2) h3
 have l4:=lenB (dz_bd hy.2.2) h4
 have hx:=hx.mono (zZ (D:=[]))
 have hy:=hy.mono (zZ (D:=[]))
 have hx1:=hx.pp
 have hx2:=hx.qq
 have hy1:=hy.pp
 have hy2:=hy.qq
 refine zX 2 (hI 109 U U) Tryz.func109 J fb109 J ?_
 refine zY H J O (fun b2 s1 H=>?_)
 refine zY H J O (fun b3 s2 H=>?_)
 refine zG (zB qL J (zN xO J H.own1 J (zB qL J (zN xO J H.own0 J (zF J fc187 J (callB (same03_ok hI H.fine (kn2 hK H) hx1 hy1 Z1 Z1 Z) (fun hb1 s9 Hc=>?_) (fun hb1 s9 Hc=>?_)))))))
 ·have H:=H.call0 Hc
  clear Hc
  refine zI J (yY J (zK J (en ?_)))
  refine yV (⟨congrArg Value.bool ?_,(H.sub Z9).up O⟩)
  have he:= @rat_eq a b
  simp only[decide_eq_true_eq,decide_eq_false_iff_not]at *
  simp_all
 have H:=H.call0 Hc
 clear Hc
 refine zI J (zB kI J (zN xO J H.own1 J (zB kI J (zN xO J H.own0 J (zF J fc187 J (callB (same03_ok hI H.fine (kn2 hK H) hx2 hy2 Z1 Z1 Z) (fun hb2 s9 Hc=>?_) (fun hb2 s9 Hc=>?_)))))))
 ·have H:=H.call0 Hc
  clear Hc
  refine yD J J (zK J (en ?_))
  refine yV (⟨congrArg Value.bool ?_,(H.sub Z9).up O⟩)
  have he:= @rat_eq a b
  simp only[decide_eq_true_eq,decide_eq_false_iff_not]at *
  simp_all
 have H:=H.call0 Hc
 clear Hc
 refine yD J J (zK J (en ?_))
 refine yV (⟨congrArg Value.bool ?_,(H.sub Z9).up O⟩)
 have he:= @rat_eq a b
 simp only[decide_eq_true_eq,decide_eq_false_iff_not]at *
 simp_all
set_option maxHeartbeats 4000000 in
set_option maxRecDepth 10000 in
theorem valid04_ok(hI:xA I)(hf:Fine s){K:Kw}(hK:Kn s K){n1:Bool}{a1:Option Addr}{m1 c1:Nat}{n2:Bool}{a2:Option Addr}{m2 c2:Nat}{a:Rat}{N1 M1:Nat}(hx:RatK K n1 a1 m1 c1 n2 a2 m2 c2 a N1 M1)(h1:N1<1000000000000000000)(h2:M1<1000000000000000000)(hroom:s.next+1000≤yC) :
  ∃v' s',xN Tryz.prog I 110 #[.agg ⟨[.bool n1,.slice a1 m1 c1,.bool n2,.slice a2 m2 c2]⟩] s v' s'∧qQ s 1000 (.bool true) v' s':=by
 have H:=hf.hl
 have l1:=lenb hx.2.2.1 h1
 have l2:=lenb (dz_bd hx.2.2) h2
 have hdne:=dz_ne a
 have hb1:=hx.2.2.1
 have hb2:=dz_bd hx.2.2
 have hred:=a.reduced
 have hz0:=hx.qq.zero
 have hn2:n2=false:=hx.2.1.1
 subst hn2
 have hx:=hx.mono (zZ (D:=[]))
 have hx1:=hx.pp
 have hx2:=hx.qq
 refine zX 1 (hI 110 U U) Tryz.func110 J fb110 J ?_
 refine zY H J O (fun b1 s1 H=>?_)
 refine zG (zB qL J (zN xO J H.own0 J (zF J fc188 J (callE (valid03_ok hI H.fine (kn1 hK H) hx1 Z1 Z) (fun s9 Hc=>?_)))))
 have H:=H.call0 Hc
 clear Hc
 refine qt J (zI J (zB kI J (zN xO J H.own0 J (zF J fc188 J (callE (valid03_ok hI H.fine (kn1 hK H) hx2 Z1 Z) (fun s9 Hc=>?_))))))
 have H:=H.call0 Hc
 clear Hc
 refine qt J (yG J J (zI J (zB kI J (zB xD J (zJ sh4 J H.own0 J (yG J J (zI J (zB kI J (zN xO J H.own0 J (zF J fc114 J (callE (one04_no hI H.fine (kn1 hK H) hx2 Z1 Z) (fun s9 Hc=>?_))))))))))))
 have H:=H.call0 Hc
 clear Hc
 refine yG J J (zB kI J (zB yM J (zJ xQ J H.own0 J (yF xV J J J (qh J J (fun h=>?_) (fun h=>?_))))))
 ·refine zG (en ?_)
  refine yV ?_
  exact⟨J,(H.sub Z9).up O⟩
 refine zB qL J (zN xO J H.own0 J (zB kI J (zN xO J H.own0 J (zF J fc112 J (qy (gcd03_ok hI H.fine (kn1 hK H) hx1 hx2 O O Z) (fun s9 D9 n4 a4 m4 c4 Hc h104=>?_))))))
 obtain⟨Φ,ku,kd,H⟩:=ko (K:=K) H Hc
 replace h104:=h104.mono kd
 clear Hc ku kd
 refine zF J fc114 J (callE (one04_yes hI H.fine (kn1 hK H) h104 (gcd_dz (fun h0=>by have:=hz0.mpr h0;omega)) Z) (fun s9 Hc=>?_))
 have H:=H.call0 Hc
 clear Hc
 refine zK J (en ?_)
 refine yV ?_
 exact⟨J,(H.sub Z9).up O⟩
end Go.Proofs.YtocnbjjmmgolfaaGreat
namespace Go.M
variable{dst e src t yt:TypeId}{x y:Operand}{a b:Int}{kd kd':IntKind}{u:TypeDesc}{by_ cap m sz:Nat}{c z:List Value}
section
variable{P:Program}{I:xP}{F:FF}{s:St}{Q:FF→St→Prop}{d:Option Tmp}{ty:TypeId}{pos:String}{af:Array Edge}{g:Option (Nat×Bool)}{W:List Nat}{s0:St}{L:Hp'}{n:Nat}
def InU(n:Int):Prop:=0≤n∧n<18446744073709551616
theorem wrapU_in{n:Int}(h:InU n):IntKind.u64.wrap n=n:=by
 obtain⟨h1,h2⟩:=h
 have:IntKind.u64.wrap n=n % 18446744073709551616:=by
  unfold IntKind.wrap
  rfl
 rw[this]
 omega
theorem op_mulU(hx:yQ F x=.int .u64 a)(hy:yQ F y=.int .u64 b)(h:InU (a*b))(k:Q (upd F d (.int .u64 (a*b))) s):OpW P I ⟨d,.binOp .mul t x y yt,ty,pos,af,g⟩ F s Q:=by
 refine qf (v:=.int .u64 (a*b)) (s':=s) ?_ k
 simp only[yX,jc,hx,hy,jf,Go.binOp,Op.intArith]
 rw[if_neg U,wrapU_in h]
 rfl
theorem op_remU(hx:yQ F x=.int .u64 a)(hy:yQ F y=.int .u64 b)(h:b≠0)(k:Q (upd F d (.int .u64 (a.tmod b))) s):OpW P I ⟨d,.binOp .rem t x y yt,ty,pos,af,g⟩ F s Q:=by
 refine qf (v:=.int .u64 (a.tmod b)) (s':=s) ?_ k
 simp only[yX,jc,hx,hy,jf,Go.binOp,Op.intDiv,if_neg h]
 rfl
theorem op_quoU(hx:yQ F x=.int .u64 a)(hy:yQ F y=.int .u64 b)(h:b≠0)(h2:InU (a.tdiv b))(k:Q (upd F d (.int .u64 (a.tdiv b))) s):OpW P I ⟨d,.binOp .quo t x y yt,ty,pos,af,g⟩ F s Q:=by
 refine qf (v:=.int .u64 (a.tdiv b)) (s':=s) ?_ k
 simp only[yX,jc,hx,hy,jf,Go.binOp,Op.intDiv,if_neg h,wrapU_in h2]
 rfl
theorem op_lssU(hx:yQ F x=.int .u64 a)(hy:yQ F y=.int .u64 b)(k1:a<b→Q (upd F d (.bool true)) s)(k0:¬(a<b)→Q (upd F d (.bool false)) s):OpW P I ⟨d,.binOp .lss t x y yt,ty,pos,af,g⟩ F s Q:=by
 by_cases h:a<b
 ·refine qf (v:=.bool true) (s':=s) ?_ (k1 h)
  simp only[yX,jc,hx,hy,jf,Go.binOp,Op.intCmp,decide_eq_true h];rfl
 ·refine qf (v:=.bool false) (s':=s) ?_ (k0 h)
  simp only[yX,jc,hx,hy,jf,Go.binOp,Op.intCmp,decide_eq_false h];rfl
theorem op_eqlU(hx:yQ F x=.int .u64 a)(hy:yQ F y=.int .u64 b)(k1:a=b→Q (upd F d (.bool true)) s)(k0:¬(a=b)→Q (upd F d (.bool false)) s):OpW P I ⟨d,.binOp .eql t x y yt,ty,pos,af,g⟩ F s Q:=by
 by_cases h:a=b
 ·refine qf (v:=.bool true) (s':=s) ?_ (k1 h)
  simp only[yX,jc,hx,hy,jf,Go.binOp,Op.intCmp]
  have:(a==b)=true:=by simpa using h
  simp[h];rfl
 ·refine qf (v:=.bool false) (s':=s) ?_ (k0 h)
  simp only[yX,jc,hx,hy,jf,Go.binOp,Op.intCmp]
  have:(a==b)=false:=by simpa using h
  simp[this];rfl
theorem op_negU(hx:yQ F x=.int .u64 a)(k:Q (upd F d (.int .u64 (IntKind.u64.wrap (0-a)))) s):OpW P I ⟨d,.unOp .neg t x,ty,pos,af,g⟩ F s Q:=
 qf (v:=.int .u64 (IntKind.u64.wrap (0-a))) (s':=s) (by simp only[yX,unM,hx,Op.unary];rfl) k
theorem op_convertI(hu:P.underlying src=some u)(hd:P.underlying dst=some (.int kd'))(hx:yQ F x=.int kd a)(k:Q (upd F d (.int kd' (kd'.wrap a))) s):OpW P I ⟨d,.convert src dst x,ty,pos,af,g⟩ F s Q:=by
 refine qf (v:=.int kd' (kd'.wrap a)) (s':=s) ?_ k
 simp only[yX,convertM,hu,hd,hx]
 cases u<;>rfl
theorem wI(hu:P.underlying src=some u)(hd:P.underlying dst=some (.int .u64))(hx:yQ F x=.int kd a)(h:InU a)(k:Q (upd F d (.int .u64 a)) s):OpW P I ⟨d,.convert src dst x,ty,pos,af,g⟩ F s Q:=
 op_convertI hu hd hx (by rw[wrapU_in h];exact k)
theorem op_negU2(hx:yQ F x=.int .u64 a)(h:IntKind.u64.wrap (0-a)=b)(k:Q (upd F d (.int .u64 b)) s):OpW P I ⟨d,.unOp .neg t x,ty,pos,af,g⟩ F s Q:=op_negU hx (by rw[h];exact k)
theorem wrapU(x:Int):IntKind.u64.wrap x=x % 18446744073709551616:=by unfold IntKind.wrap;rfl
theorem op_sliceHM{hi mx:Operand}{b off len:Nat}{a':Int}(hs:q6 P t=some (e,sz,by_,z))(hx:yQ F x=.slice (some ⟨b,off,none⟩) len cap)(hh:yQ F hi=.int kd a)(hh2:yQ F mx=.int kd' a')(hm:a=(m:Int))(hm':a'=(m:Int))(hg:s.get b=some (.cells c e))(h0:0<m)(h1:m≤cap / 2)
  (k:Q (upd F d (.slice (some ⟨b,off,none⟩) m (2*m))) s):OpW P I ⟨d,.slice t x none (some hi) (some mx),ty,pos,af,g⟩ F s Q:=by
 obtain⟨hu,inf,z',hi',rfl,rfl,hz,hz1,hz2⟩:=kz hs
 subst hm
 subst hm'
 refine qf (v:=.slice (some ⟨b,off,none⟩) m (2*m)) (s':=s) ?_ k
 have hb:(Nat.ble 0 m&&Nat.ble m m&&Nat.ble m (cap / 2)&&((some (Value.int kd (m:Int))).isSome || !(some (Value.int kd' (m:Int))).isSome))=true:=by
  simp only[Bool.and_eq_true]
  exact⟨⟨⟨Nat.ble_eq_true_of_le O,Nat.ble_eq_true_of_le Z3⟩,Nat.ble_eq_true_of_le h1⟩,J⟩
 have hrow:rowB e (some ⟨b,off,none⟩) cap s=true:=by
  simp only[rowB,hg,Nat.beq_refl]
  split<;>rfl
 have hq:Nat.beq m 0=false:=by cases m with|zero=>omega|succ m=>rfl
 simp only[yX,sliceM,hu,hi',hx,Option.map_none,Option.map_some,hh,hh2]
 rcases Nat.mod_two_eq_zero_or_one cap with h|h
 ·rw[h]
  simp only[jp,kv (v:=none) (d:=0) (m:=0) (.inl ⟨rfl,rfl⟩),kv (v:=some (.int kd (m:Int))) (d:=len) (m:=m) (.inr ⟨kd,rfl⟩),kv (v:=some (.int kd' (m:Int))) (d:=cap / 2) (m:=m) (.inr ⟨kd',rfl⟩),hb,Bool.true_or,Nat.sub_zero,hq]
  simp[Addr.add,okV]
 ·rw[h]
  simp only[hrow,jp,kv (v:=none) (d:=0) (m:=0) (.inl ⟨rfl,rfl⟩),kv (v:=some (.int kd (m:Int))) (d:=len) (m:=m) (.inr ⟨kd,rfl⟩),kv (v:=some (.int kd' (m:Int))) (d:=cap / 2) (m:=m) (.inr ⟨kd',rfl⟩),hb,Bool.false_or,Nat.sub_zero,hq]
  simp[Addr.add,okV]
theorem op_copy0{ag:Array Operand}{ts:Array TypeId}{tr:List TypeId}{b:Nat}{l c':List Value}(H:HL W s0 s ((b,.cells c e)::L) n)(hs:q6 P t=some (e,sz,by_,z))
  (ht:ts.toList=t::tr) (ha:ag.toList=[x,y]) (hx:yQ F x=.slice (some ⟨b,0,none⟩) m cap) (he:jC s sz (yQ F y) m l) (hl:ky 0 l c=some c') (hp:l.all plainCell=true) (hr:s0.next+n≤yC)
  (k:∀s',HL W s0 s' ((b,.cells c' e)::L) n→Q (upd F d (.int .i64 (m:Int))) s'):OpW P I ⟨d,.call ⟨.builtin .copy,ag,ts⟩,ty,pos,af,g⟩ F s Q:=by
 obtain⟨hu,inf,z',hi',rfl,rfl,hz,hz1,hz2⟩:=kz hs
 obtain⟨⟨a,cp,hv⟩,hf⟩:=he
 refine qf (v:=.int .i64 (m:Int)) (s':=s.put b (some (.cells c' e))) ?_ (k _ (H.put0 _ hr))
 have hlen:lenV (yQ F y)=some m:=by rw[hv];rfl
 have hmay:=(H.own (b,.cells c e) Y8).2.2.1
 have hst:kZ b 0 l s=.ok .skip (s.put b (some (.cells c' e))):=by
  simp only[kZ,H.own0,hl,hmay,hp]
  rfl
 have hmin:Nat.min m m=m:=Nat.min_self m
 simp only[yX,kO,ht,ha,vJ,copyM,hx,hu,hi',hlen,hmin,hf,hst]
 rfl
end
end Go.M
