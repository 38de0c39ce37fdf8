/- The reference of integers: products. -/
/- The reference of integers: sums, signs, comparisons. -/
/- The reference of integers: quotients and divisors of numbers of at most two digits. -/
import Derived.Test.YtocnbjjmmgolfaaGreatA25
namespace Go.Proofs.YtocnbjjmmgolfaaGreat
open Go Go.M Go.Proofs.C14
theorem fb94:xK Tryz.f94 (Tryz.f94.body.getD .skip) 2=true:=by kernel_rfl
theorem xD:wZ Tryz.prog 32 0=some 0:=by kernel_rfl
theorem yM:wZ Tryz.prog 32 1=some 1:=by kernel_rfl
theorem xQ:qw Tryz.prog 22=some (none):=by kernel_rfl
theorem sh4:qw Tryz.prog 4=some (none):=by kernel_rfl
theorem sz3:kD Tryz.prog 3=some 1:=by kernel_rfl
theorem un4:Tryz.prog.underlying 4=some (.bool):=by kernel_rfl
variable{o:List Int}{i j:Nat}{a b c x y:Int}
theorem mul_step{q:Nat}{T V w:Int}(hlen:i+q<o.length)(h:dv o+1000000000 ^ (i+q)*c=V+1000000000 ^ i*(a*T))(hw:w=o.getD (i+q) 0+a*b+c) :
  dv (o.set (i+q) (w % 1000000000))+1000000000 ^ (i+(q+1))*(w / 1000000000)=V+1000000000 ^ i*(a*(T+1000000000 ^ q*b)):=by
 rw[dv_set hlen,←Nat.add_assoc,Int.pow_succ]
 have e1:=Int.mul_ediv_add_emod w 1000000000
 have e2:(1000000000:Int) ^ (i+q)*1000000000*(w / 1000000000)=1000000000 ^ (i+q)*(1000000000*(w / 1000000000)):=by rw[Int.mul_assoc]
 have e3:(1000000000:Int) ^ (i+q)*(w % 1000000000-o.getD (i+q) 0)+1000000000 ^ (i+q)*(1000000000*(w / 1000000000))=1000000000 ^ (i+q)*(a*b+c):=by
  rw[←Int.mul_add];congr 1;omega
 have e4:(1000000000:Int) ^ (i+q)*(a*b+c)=1000000000 ^ (i+q)*(a*b)+1000000000 ^ (i+q)*c:=Int.mul_add _ _ _
 have e5:(1000000000:Int) ^ (i+q)*(a*b)=1000000000 ^ i*(a*(1000000000 ^ q*b)):=by
  rw[Int.pow_add,Int.mul_assoc];congr 1;rw[←Int.mul_assoc,Int.mul_comm _ a,Int.mul_assoc]
 rw[Int.mul_add a,Int.mul_add (1000000000 ^ i)]
 omega
theorem mul_end{m:Nat}(hlen:i+m<o.length)(h0:o.getD (i+m) 0=0)(h:dv o+1000000000 ^ (i+m)*c=x*y+1000000000 ^ i*(a*y)) :
  dv (o.set (i+m) c)=(x+1000000000 ^ i*a)*y:=by
 rw[dv_set hlen,h0,Int.sub_zero,h,Int.add_mul,Int.mul_assoc]
theorem mul_bound{o:Int}(ha:0≤a∧a<1000000000)(hb:0≤b∧b<1000000000)(ho:0≤o∧o<1000000000)(hc:0≤c∧c<1000000000) :
  0≤a*b∧a*b≤999999998000000001∧0≤(o+a*b+c) / 1000000000∧(o+a*b+c) / 1000000000<1000000000:=by
 have h1:a*b≤999999999*999999999:=Int.mul_le_mul O O O O
 have h2:0≤a*b:=Int.mul_nonneg ha.1 hb.1
 omega
theorem mul_sign(x y:Int):x*y=if (!(decide (x<0)==decide (y<0)))=true then -((x.natAbs:Int)*(y.natAbs:Int))else(x.natAbs:Int)*(y.natAbs:Int):=by
 by_cases hx:x<0<;>by_cases hy:y<0
 ·rw[show(x.natAbs:Int) = -x by omega,show(y.natAbs:Int) = -y by omega,Int.neg_mul_neg];simp[hx,hy]
 ·rw[show(x.natAbs:Int) = -x by omega,show(y.natAbs:Int)=y by omega];simp[hx,hy,Int.neg_mul]
 ·rw[show(x.natAbs:Int)=x by omega,show(y.natAbs:Int) = -y by omega];simp[hx,hy,Int.mul_neg]
 ·rw[show(x.natAbs:Int)=x by omega,show(y.natAbs:Int)=y by omega];simp[hx,hy]
theorem zeros_getD{n:Nat}:(List.replicate n (0:Int)).getD j 0=0:=by
 rw[List.getD_eq_getElem?_getD,List.getElem?_replicate]
 split<;>rfl
theorem qD{k:Nat}(h:k≠j):(o.set k x).getD j 0=o.getD j 0:=by
 rw[List.getD_eq_getElem?_getD,List.getElem?_set,if_neg h,List.getD_eq_getElem?_getD]
set_option maxHeartbeats 4000000 in
set_option maxRecDepth 10000 in
theorem mul03_ok{I:xP}(hI:xA I){s:St}(hf:Fine s){K:Kw}(hK:Kn s K){n1 n2:Bool}{a1 a2:Option Addr}{m1 c1 m2 c2:Nat}(hx:NumK K n1 a1 m1 c1 x)(hy:NumK K n2 a2 m2 c2 y)(hlx:(dg x.natAbs).length≤1000)(hly:(dg y.natAbs).length≤1000)(hroom:s.next+10≤yC) :
  ∃v' s',xN Tryz.prog I 94 #[.agg ⟨[.bool n1,.slice a1 m1 c1]⟩,.agg ⟨[.bool n2,.slice a2 m2 c2]⟩] s v' s'∧wR K s 10 (x*y) v' s':=by
 have H:=hf.hl
 obtain⟨hn1,rfl,hk1⟩:=hx
 obtain⟨hn2,rfl,hk2⟩:=hy
 have ha:=hK _ _ hk1
 have hb:=hK _ _ hk2
 have hda:=kq x.natAbs
 have hdb:=kq y.natAbs
 have hva:=dv_dg x.natAbs
 have hvb:=dv_dg y.natAbs
 generalize dg x.natAbs=la at *
 generalize dg y.natAbs=lb at *
 refine zX 2 (hI 94 U U) Tryz.func94 J fb94 J ?_
 refine zY H J O (fun b2 s1 H=>?_)
 refine zY H J O (fun b3 s2 H=>?_)
 refine zS H qU O (fun b4 s3 H=>?_)
 refine zB yM J (zJ xQ J H.own2 J (yF xV J J J (zB yM J (zJ xQ J H.own1 J (yF xV J J J (yH J J Y (kW (a:=la.length+lb.length) (b:=la.length+lb.length) H kg J J Z3 O O (fun b17 s17 H=>?_))))))))
 refine yU J ?_
 rw[repL_ints]at H
 refine zG (xR (fun k F s1=>∃(G:FF) (i:Nat) (o:List Int),F=lay G [(2,.pointer (some ⟨b2,0,none⟩)),(3,.pointer (some ⟨b3,0,none⟩)),(4,.pointer (some ⟨b4,0,none⟩)),(5,.slice (some ⟨b17,0,none⟩) (la.length+lb.length) (2*(la.length+lb.length))),(6,.int .i64 (i:Int))]∧HL [] s s1 [(b17,.cells (qm o) 3),(b4,.cells [.bool false,.slice none 0 0] 32),(b3,.cells [.bool n2,.slice a2 lb.length c2] 32),(b2,.cells [.bool n1,.slice a1 la.length c1] 32)] 4∧i≤la.length∧k=la.length-i∧o.length=la.length+lb.length∧Dig o∧dv o=dv (la.take i)*dv lb∧∀j,i+lb.length≤j→o.getD j 0=0) ?_ la.length _ _ ?_)
 rotate_left
 ·exact⟨_,0,List.replicate (la.length+lb.length) 0,yZ ⟨J,J,J,J,J,trivial⟩,H,by omega,by omega,by simp,dig_zeros _,by rw[dv_zeros,List.take_zero];simp[dv],fun j _=>zeros_getD⟩
 rintro k F s1 ⟨G,i,o,rfl,H,hi,rfl,ho1,hd1,hv1,hz1⟩
 refine zC J (zB yM J (zJ xQ J H.own3 J (yF xV J J J (xB J J (fun h=>?_) (fun h=>?_)))))
 ·refine zG (zG (xR (fun k F s1=>∃(G:FF) (q:Nat) (o2:List Int) (c:Int),F=lay G [(2,.pointer (some ⟨b2,0,none⟩)),(3,.pointer (some ⟨b3,0,none⟩)),(4,.pointer (some ⟨b4,0,none⟩)),(5,.slice (some ⟨b17,0,none⟩) (la.length+lb.length) (2*(la.length+lb.length))),(6,.int .i64 (i:Int)),(7,.int .i64 c),(8,.int .i64 (q:Int))]∧HL [] s s1 [(b17,.cells (qm o2) 3),(b4,.cells [.bool false,.slice none 0 0] 32),(b3,.cells [.bool n2,.slice a2 lb.length c2] 32),(b2,.cells [.bool n1,.slice a1 la.length c1] 32)] 4∧q≤lb.length∧k=lb.length-q∧o2.length=la.length+lb.length∧Dig o2∧0≤c∧c<1000000000∧dv o2+1000000000 ^ (i+q)*c=dv (la.take i)*dv lb+1000000000 ^ i*(la.getD i 0*dv (lb.take q))∧∀j,i+lb.length≤j→o2.getD j 0=0) ?_ lb.length _ _ ?_))
  rotate_left
  ·exact⟨_,0,o,0,yZ ⟨J,J,J,J,J,J,J,trivial⟩,H,by omega,by omega,ho1,hd1,by decide,by decide,by simp[dv,hv1],hz1⟩
  rintro k F s1 ⟨G,q,o2,c,rfl,H,hq,rfl,ho2,hd2,hc0,hc1',hv2,hz2⟩
  refine zC J (zB yM J (zJ xQ J H.own2 J (yF xV J J J (xB J J (fun h=>?_) (fun h=>?_)))))
  ·have hdq:=hdb.at q
   have hdi:=hda.at i
   have hdo:=hd2.at (i+q)
   have hbd:=mul_bound hdi hdq hdo ⟨hc0,hc1'⟩
   have hout:qG (qm o2) (0+((i:Int)+(q:Int)).toNat*1)=some (.int .i64 (o2.getD (i+q) 0)):=wK O O
   obtain⟨b1,off1,c1_,rfl,hg1,hb1,hc1⟩:=(ha.kept H).atD (i:=(i:Int)) (k:=i) rfl O
   have hl1:b1<yC:=by have:=H.most;omega
   obtain⟨b22,off2,c2_,rfl,hg2,hb2,hc2⟩:=(hb.kept H).atD (i:=(q:Int)) (k:=q) rfl O
   have hl2:b22<yC:=by have:=H.most;omega
   refine yT [⟨0,0,.light,[7,10,12,15]⟩,⟨1,0,.light,[7,10,12,15]⟩,⟨2,0,.light,[7,10,12,15]⟩,⟨3,6,.light,[7,10,12,15]⟩,⟨4,15,.light,[7,10,12,15]⟩,⟨5,31,.light,[7,10,12,15]⟩,⟨6,0,.light,[5,12,15]⟩,⟨7,64,.light,[5,12,15]⟩,⟨8,0,.light,[5,7,12,15]⟩,⟨9,448,.light,[5,12,15]⟩,⟨10,960,.light,[5,12,15]⟩,⟨11,0,.light,[5,7,10]⟩,⟨12,2048,.light,[5,7,10]⟩,⟨13,0,.light,[5,7,10,12]⟩,⟨14,14336,.light,[5,7,10]⟩,⟨15,30720,.light,[5,7,10]⟩,⟨16,65472,.light,[5]⟩,⟨17,131071,.light,[]⟩,⟨18,0,.light,[5,7,10,12,15]⟩,⟨19,524287,.light,[]⟩,⟨20,1048575,.light,[]⟩] Z0 Z0 (zA J J (zH J ⟨J,(zA J J (zC J ⟨J,(zA J J (zC J ⟨J,(zA J J (yH J J Y ⟨J,(zA J J (zP qn J J O O ⟨J,(zV J J sh3 J H.own0 Y0 hout (zA J J (zB yM J ⟨J,(zV J J xQ J H.own3 Y3 J (zA J J (zC J ⟨J,(zA J J (zP qn J J O O ⟨J,(zV J J sh3 J hg1 hl1 hc1 ?_)⟩))⟩)))⟩)))⟩))⟩))⟩))⟩))⟩))
   refine zA J J (zB yM J ⟨J,(zV J J xQ J H.own2 Y2 J (zA J J (zC J ⟨J,(zA J J (zP qn J J O O ⟨J,(zV J J sh3 J hg2 hl2 hc2 (zA J J (op_mul J J (by show qp (la.getD i 0*lb.getD q 0);unfold qp;omega) ⟨J,(zA J J (yH J J (by show qp (o2.getD (i+q) 0+la.getD i 0*lb.getD q 0);unfold qp;omega) ⟨J,(zA J J (zC J ⟨J,(zA J J (yH J J (by show qp (o2.getD (i+q) 0+la.getD i 0*lb.getD q 0+c);unfold qp;omega) ⟨J,(zA J J (zL J ⟨J,(zU (zH J ?_))⟩))⟩))⟩))⟩))⟩)))⟩))⟩)))⟩)
   refine zC J (zC J (yH J J Y (zC J (kE J J O (zP qn J J O O (zT H sz3 J J J J (qE (o:=o2) (k:=i+q) O O) O (fun s58 H=>?_)))))))
   refine zC J (wY J J U (by rw[(tdm (w:=(o2.getD (i+q) 0+la.getD i 0*lb.getD q 0+c)) O).1];unfold qp;omega) (zL J (zC J (yH J J Y (zL J (en ?_))))))
   have htd:=tdm (w:=(o2.getD (i+q) 0+la.getD i 0*lb.getD q 0+c)) O
   refine⟨lb.length-(q+1),by omega,_,q+1,o2.set (i+q) ((o2.getD (i+q) 0+la.getD i 0*lb.getD q 0+c) % 1000000000),(o2.getD (i+q) 0+la.getD i 0*lb.getD q 0+c) / 1000000000,yZ ⟨J,J,J,J,J,by show Value.int .i64 ((o2.getD (i+q) 0+la.getD i 0*lb.getD q 0+c).tdiv 1000000000)=_;rw[htd.1],J,trivial⟩,by rw[←htd.2];exact H,by omega,J,by rw[List.length_set];exact ho2,hd2.set O O,by omega,by omega,?_,fun j hj=>by rw[qD O];exact hz2 j hj⟩
   rw[qg lb q]
   exact mul_step O hv2 J
  have hq2:q=lb.length:=by omega
  subst hq2
  rw[List.take_length]at hv2
  refine zH J (zC J (zB yM J (zJ xQ J H.own2 J (yF xV J J J (yH J J Y (zC J (zP qn J J O O (zT H sz3 J J J J (qE (o:=o2) (k:=i+lb.length) O O) O (fun s68 H=>?_)))))))))
  refine zC J (yH J J Y (zL J (en ?_)))
  refine⟨la.length-(i+1),by omega,_,i+1,o2.set (i+lb.length) c,yZ ⟨J,J,J,J,J,trivial⟩,H,by omega,J,by rw[List.length_set];exact ho2,hd2.set hc0 hc1',?_,fun j hj=>by rw[qD O];exact hz2 j O⟩
  rw[mul_end O (hz2 _ O) hv2,qg]
 have hi2:i=la.length:=by omega
 subst hi2
 rw[List.take_length]at hv1
 have hsl:SlIn [(b17,.cells (qm o) 3)] (.slice (some ⟨b17,0,none⟩) o.length (2*(la.length+lb.length))) o:=(Own.slIn (len:=o.length) (.block b17 (2*(la.length+lb.length)) _ _ (by simp[qm]) O)).2
 have hdval:(kK o:Int)=(x.natAbs:Int)*(y.natAbs:Int):=by rw[←dv_dval hd1,hv1,hva,hvb]
 refine zB xD J (zJ sh4 J H.own3 J (zB xD J (zJ sh4 J H.own2 J (kR un4 J J (zH J (zF J fc115 J ?_))))))
 obtain⟨_,s9,hr,Dn,n9,a9,m9,c9,rfl,Hc,hz9⟩:=normal_n (K:=KX K [(b17,.cells (qm o) 3)]) (neg:= !(n1==n2)) (z:=x*y) (l:=o) (a:=some ⟨b17,0,none⟩) (cap:=2*(la.length+lb.length)) hI H.fine (hsl.sl H Y8) hd1 (by rw[hdval,hn1,hn2];exact mul_sign x y) (fun m h0 hm=>.inr (hsl.cut h0 hm)) O Y7
 rw[ho1]at hr
 refine⟨_,_,hr,?_⟩
 clear hr
 have H:=H.callE Hc
 clear Hc
 simp only[List.cons_append,List.nil_append]at H
 refine qu (vs:=[.bool _,.slice _ _ _]) H qI J J J J J O (fun s4 H=>?_)
 refine en ?_
 refine yP xO J H.own1 J (⟨(b17,.cells (qm o) 3)::Dn,_,_,_,_,J,(H.sub (.cons_cons _ (.cons _ (.cons _ (.cons _ (.refl _)))))).up O,hz9.mono (kx_in Y8 Y8)⟩)
end Go.Proofs.YtocnbjjmmgolfaaGreat
namespace Go.Proofs.YtocnbjjmmgolfaaGreat
open Go Go.M Go.Proofs.C14
theorem fb96:xK Tryz.f96 (Tryz.f96.body.getD .skip) 2=true:=by kernel_rfl
theorem fc168:xJ Tryz.prog 168=true:=by kernel_rfl
theorem fc169:xJ Tryz.prog 169=true:=by kernel_rfl
theorem fc170:xJ Tryz.prog 170=true:=by kernel_rfl
theorem fb97:xK Tryz.f97 (Tryz.f97.body.getD .skip) 1=true:=by kernel_rfl
theorem fb207:xK Tryz.f207 (Tryz.f207.body.getD .skip) 2=true:=by kernel_rfl
theorem fb140:xK Tryz.f140 (Tryz.f140.body.getD .skip) 1=true:=by kernel_rfl
theorem fc207:xJ Tryz.prog 207=true:=by kernel_rfl
theorem fb187:xK Tryz.f187 (Tryz.f187.body.getD .skip) 2=true:=by kernel_rfl
theorem fb188:xK Tryz.f188 (Tryz.f188.body.getD .skip) 1=true:=by kernel_rfl
variable{c1 c2 m m1 m2 n:Nat}{I:xP}{s:St}{K:Kw}{n1 n2:Bool}{a1 a2:Option Addr}{x y:Int}
theorem jB(h:m≤n):(dg m).length≤(dg n).length:=by
 apply Decidable.byContradiction
 intro hn
 have:=dg_len_lt (m:=n) (n:=m) O
 omega
theorem cmpN_lt:cmpN m n<0↔m<n:=by unfold cmpN;split<;>(try split)<;>omega
theorem nlen_dg(n:Nat):vI (dg n) (dg n).length=(dg n).length:=by rw[nlen_eq (kq n),dval_dg]
theorem normal_d(hI:xA I)(hf:Fine s){a:Option Addr}{cap:Nat}{neg:Bool}{z:Int}(hl:SlD s (.slice a (dg n).length cap) (dg n))(hz:z=if neg then -(n:Int)else(n:Int))
  (hres:K (.slice a (dg n).length cap) (dg n)) (hlen:(dg n).length≤10000) (hroom:s.next+1≤yC) :
  ∃v' s',xN Tryz.prog I 115 #[.bool neg,.slice a (dg n).length cap] s v' s'∧wR K s 1 z v' s':=by
 obtain⟨v',s',hr,rfl,H⟩:=normal_ok (neg:=neg) hI hf hl hlen hroom
 rw[nlen_dg]at hr
 have hzn:z.natAbs=n:=by rw[hz];cases neg<;>simp
 have hv:∃a' c',nv a (dg n).length cap=.slice a' (dg n).length c'∧KX K [] (.slice a' (dg n).length c') (dg n):=by
  unfold nv
  split
  ·next h=>rw[h];exact⟨none,0,rfl,.inr (.nil 0 rfl (List.length_eq_zero_iff.mp h))⟩
  ·exact⟨a,cap,J,.inl hres⟩
 obtain⟨a',c',hv1,hv2⟩:=hv
 refine⟨_,_,hr,[],_,a',_,c',by rw[hv1],H,?_,by rw[hzn],by rw[hzn];exact hv2⟩
 have h0:= @dg_len0 n
 by_cases h:(dg n).length=0
 ·rw[if_pos h]
  have:=h0.mp h
  subst hz
  cases neg<;>simp[this]
 ·rw[if_neg h]
  have:n≠0:=fun e=>h (h0.mpr e)
  subst hz
  cases neg<;>simp<;>omega
set_option maxHeartbeats 4000000 in
set_option maxRecDepth 10000 in
theorem add03_ok(hI:xA I)(hf:Fine s)(hK:Kn s K)(hx:NumK K n1 a1 m1 c1 x)(hy:NumK K n2 a2 m2 c2 y)(hlx:(dg x.natAbs).length≤1000)(hly:(dg y.natAbs).length≤1000)(hroom:s.next+4000≤yC) :
  ∃v' s',xN Tryz.prog I 96 #[.agg ⟨[.bool n1,.slice a1 m1 c1]⟩,.agg ⟨[.bool n2,.slice a2 m2 c2]⟩] s v' s'∧wR K s 4000 (x+y) v' s':=by
 have H:=hf.hl
 obtain⟨hn1,rfl,hk1⟩:=hx
 obtain⟨hn2,rfl,hk2⟩:=hy
 have ha:=hK _ _ hk1
 have hb:=hK _ _ hk2
 have hda:=kq x.natAbs
 have hdb:=kq y.natAbs
 have hva:=dv_dg x.natAbs
 have hvb:=dv_dg y.natAbs
 cases n1
 ·cases n2
  ·refine zX 2 (hI 96 U U) Tryz.func96 J fb96 J ?_
   refine zY H J O (fun b2 s1 H=>?_)
   refine zY H J O (fun b3 s2 H=>?_)
   refine zS H qU O (fun b4 s3 H=>?_)
   refine zB xD J (zJ sh4 J H.own2 J (zB xD J (zJ sh4 J H.own1 J (op_eqb un4 J J (yT [⟨0,0,.light,[3,5]⟩,⟨1,1,.light,[3,5]⟩,⟨2,0,.light,[1,5]⟩,⟨3,4,.light,[1,5]⟩,⟨4,0,.light,[1,3]⟩,⟨5,16,.light,[1,3]⟩,⟨6,60,.whole,[1]⟩,⟨7,127,.whole,[]⟩,⟨8,255,.whole,[]⟩] Z0 Z0 (zA J J (zB xD J ⟨J,(zV J J sh4 J H.own2 Y2 J (zA J J (zB yM J ⟨J,(zV J J xQ J H.own2 Y2 J (zA J J (zB yM J ⟨J,(zV J J xQ J H.own1 Y1 J ?_)⟩)))⟩)))⟩)))))))
   refine zM J J (zF J fc168 J ?_)
   obtain⟨_,s9,hr,Dp,out,Hc,hsl,hdo,hvo,hlo⟩:=plus_ok hI (Fine.pr H.fine (xW H.lt2 qO)) ((ha.kept H).prot (X:=[b2])) ((hb.kept H).prot (X:=[b2])) hda hdb hlx hly Z
   refine⟨_,_,hr,?_⟩
   clear hr
   have Hc:=HL.wider H.fine Z3 Z5 Hc
   have H:=H.callE Hc
   clear Hc
   simp only[List.cons_append,List.nil_append,List.append_assoc]at H
   refine zM J J (zF J fc115 J ?_)
   obtain⟨ap,mp,cp,rfl,hmp⟩:=hsl.isSlice
   subst hmp
   obtain⟨_,s9,hr,Dn,n9,a9,m9,c9,rfl,Hc,hz9⟩:=normal_n (K:=KX K Dp) (neg:=false) (z:=x+y) (l:=out) hI H.fine W4 hdo W5 (fun m h0 hm=>.inr (hsl.cut h0 hm)) O Y7
   refine⟨_,_,hr,?_⟩
   clear hr
   have Hc:=HL.wider H.fine Z3 Z7 Hc
   have H:=H.callE Hc
   clear Hc
   simp only[List.cons_append,List.nil_append,List.append_assoc]at H
   refine xM (vs:=[.bool _,.slice _ _ _]) (fr:=[]) H J J qI J J J J J J Z2 O (fun s4 H=>?_)
   refine zU (en ?_)
   refine yP xO J H.own0 J ?_
   exact⟨Dp++Dn,_,_,_,_,J,H.drop0.drop0.drop0.up O,hz9.mono X0⟩
  ·refine zX 2 (hI 96 U U) Tryz.func96 J fb96 J ?_
   refine zY H J O (fun b2 s1 H=>?_)
   refine zY H J O (fun b3 s2 H=>?_)
   refine zS H qU O (fun b4 s3 H=>?_)
   refine zB xD J (zJ sh4 J H.own2 J (zB xD J (zJ sh4 J H.own1 J (op_eqb un4 J J (zB yM J (zJ xQ J H.own2 J (zB yM J (zJ xQ J H.own1 J (zF J fc169 J ?_)))))))))
   obtain⟨_,_,hr,rfl,rfl⟩:=compared_n hI (ha.kept H) (hb.kept H) O Y7
   refine⟨_,_,hr,?_⟩
   clear hr
   refine xB J J (fun h=>?_) (fun h=>?_)
   ·refine yT [⟨0,0,.light,[3,5]⟩,⟨1,1,.light,[3,5]⟩,⟨2,0,.light,[1,5]⟩,⟨3,4,.light,[1,5]⟩,⟨4,0,.light,[1,3]⟩,⟨5,16,.light,[1,3]⟩,⟨6,60,.whole,[1]⟩,⟨7,127,.whole,[]⟩,⟨8,255,.whole,[]⟩] Z0 Z0 (zA J J (zB xD J ⟨J,(zV J J sh4 J H.own1 Y1 J (zA J J (zB yM J ⟨J,(zV J J xQ J H.own1 Y1 J (zA J J (zB yM J ⟨J,(zV J J xQ J H.own2 Y2 J (zM J J (zF J fc170 J ?_)))⟩)))⟩)))⟩))
    have hlt:=cmpN_lt.mp h
    obtain⟨_,s9,hr,Dp,out,Hc,hsl,hdo,hvo,hlo⟩:=minus_ok hI (Fine.pr H.fine (xW H.lt1 qO)) ((hb.kept H).prot (X:=[b3])) ((ha.kept H).prot (X:=[b3])) hdb hda hly (jB O) O Z
    refine⟨_,_,hr,?_⟩
    clear hr
    have Hc:=HL.wider H.fine Z3 Z5 Hc
    have H:=H.callE Hc
    clear Hc
    simp only[List.cons_append,List.nil_append,List.append_assoc]at H
    refine zM J J (zF J fc115 J ?_)
    obtain⟨ap,mp,cp,rfl,hmp⟩:=hsl.isSlice
    subst hmp
    obtain⟨_,s9,hr,Dn,n9,a9,m9,c9,rfl,Hc,hz9⟩:=normal_n (K:=KX K Dp) (neg:=true) (z:=x+y) (l:=out) hI H.fine W4 hdo W5 (fun m h0 hm=>.inr (hsl.cut h0 hm)) O Y7
    refine⟨_,_,hr,?_⟩
    clear hr
    have Hc:=HL.wider H.fine Z3 Z7 Hc
    have H:=H.callE Hc
    clear Hc
    simp only[List.cons_append,List.nil_append,List.append_assoc]at H
    refine xM (vs:=[.bool _,.slice _ _ _]) (fr:=[]) H J J qI J J J J J J Z2 O (fun s4 H=>?_)
    refine zU (en ?_)
    refine yP xO J H.own0 J ?_
    exact⟨Dp++Dn,_,_,_,_,J,H.drop0.drop0.drop0.up O,hz9.mono X0⟩
   refine yT [⟨0,0,.light,[3,5]⟩,⟨1,1,.light,[3,5]⟩,⟨2,0,.light,[1,5]⟩,⟨3,4,.light,[1,5]⟩,⟨4,0,.light,[1,3]⟩,⟨5,16,.light,[1,3]⟩,⟨6,60,.whole,[1]⟩,⟨7,127,.whole,[]⟩,⟨8,255,.whole,[]⟩] Z0 Z0 (zA J J (zB xD J ⟨J,(zV J J sh4 J H.own2 Y2 J (zA J J (zB yM J ⟨J,(zV J J xQ J H.own2 Y2 J (zA J J (zB yM J ⟨J,(zV J J xQ J H.own1 Y1 J (zM J J (zF J fc170 J ?_)))⟩)))⟩)))⟩))
   have hlt:¬x.natAbs<y.natAbs:=fun hh=>h (cmpN_lt.mpr hh)
   obtain⟨_,s9,hr,Dp,out,Hc,hsl,hdo,hvo,hlo⟩:=minus_ok hI (Fine.pr H.fine (xW H.lt2 qO)) ((ha.kept H).prot (X:=[b2])) ((hb.kept H).prot (X:=[b2])) hda hdb hlx (jB O) O Z
   refine⟨_,_,hr,?_⟩
   clear hr
   have Hc:=HL.wider H.fine Z3 Z5 Hc
   have H:=H.callE Hc
   clear Hc
   simp only[List.cons_append,List.nil_append,List.append_assoc]at H
   refine zM J J (zF J fc115 J ?_)
   obtain⟨ap,mp,cp,rfl,hmp⟩:=hsl.isSlice
   subst hmp
   obtain⟨_,s9,hr,Dn,n9,a9,m9,c9,rfl,Hc,hz9⟩:=normal_n (K:=KX K Dp) (neg:=false) (z:=x+y) (l:=out) hI H.fine W4 hdo W5 (fun m h0 hm=>.inr (hsl.cut h0 hm)) O Y7
   refine⟨_,_,hr,?_⟩
   clear hr
   have Hc:=HL.wider H.fine Z3 Z7 Hc
   have H:=H.callE Hc
   clear Hc
   simp only[List.cons_append,List.nil_append,List.append_assoc]at H
   refine xM (vs:=[.bool _,.slice _ _ _]) (fr:=[]) H J J qI J J J J J J Z2 O (fun s5 H=>?_)
   refine zU (en ?_)
   refine yP xO J H.own0 J ?_
   exact⟨Dp++Dn,_,_,_,_,J,H.drop0.drop0.drop0.up O,hz9.mono X0⟩
 ·cases n2
  ·refine zX 2 (hI 96 U U) Tryz.func96 J fb96 J ?_
   refine zY H J O (fun b2 s1 H=>?_)
   refine zY H J O (fun b3 s2 H=>?_)
   refine zS H qU O (fun b4 s3 H=>?_)
   refine zB xD J (zJ sh4 J H.own2 J (zB xD J (zJ sh4 J H.own1 J (op_eqb un4 J J (zB yM J (zJ xQ J H.own2 J (zB yM J (zJ xQ J H.own1 J (zF J fc169 J ?_)))))))))
   obtain⟨_,_,hr,rfl,rfl⟩:=compared_n hI (ha.kept H) (hb.kept H) O Y7
   refine⟨_,_,hr,?_⟩
   clear hr
   refine xB J J (fun h=>?_) (fun h=>?_)
   ·refine yT [⟨0,0,.light,[3,5]⟩,⟨1,1,.light,[3,5]⟩,⟨2,0,.light,[1,5]⟩,⟨3,4,.light,[1,5]⟩,⟨4,0,.light,[1,3]⟩,⟨5,16,.light,[1,3]⟩,⟨6,60,.whole,[1]⟩,⟨7,127,.whole,[]⟩,⟨8,255,.whole,[]⟩] Z0 Z0 (zA J J (zB xD J ⟨J,(zV J J sh4 J H.own1 Y1 J (zA J J (zB yM J ⟨J,(zV J J xQ J H.own1 Y1 J (zA J J (zB yM J ⟨J,(zV J J xQ J H.own2 Y2 J (zM J J (zF J fc170 J ?_)))⟩)))⟩)))⟩))
    have hlt:=cmpN_lt.mp h
    obtain⟨_,s9,hr,Dp,out,Hc,hsl,hdo,hvo,hlo⟩:=minus_ok hI (Fine.pr H.fine (xW H.lt1 qO)) ((hb.kept H).prot (X:=[b3])) ((ha.kept H).prot (X:=[b3])) hdb hda hly (jB O) O Z
    refine⟨_,_,hr,?_⟩
    clear hr
    have Hc:=HL.wider H.fine Z3 Z5 Hc
    have H:=H.callE Hc
    clear Hc
    simp only[List.cons_append,List.nil_append,List.append_assoc]at H
    refine zM J J (zF J fc115 J ?_)
    obtain⟨ap,mp,cp,rfl,hmp⟩:=hsl.isSlice
    subst hmp
    obtain⟨_,s9,hr,Dn,n9,a9,m9,c9,rfl,Hc,hz9⟩:=normal_n (K:=KX K Dp) (neg:=false) (z:=x+y) (l:=out) hI H.fine W4 hdo W5 (fun m h0 hm=>.inr (hsl.cut h0 hm)) O Y7
    refine⟨_,_,hr,?_⟩
    clear hr
    have Hc:=HL.wider H.fine Z3 Z7 Hc
    have H:=H.callE Hc
    clear Hc
    simp only[List.cons_append,List.nil_append,List.append_assoc]at H
    refine xM (vs:=[.bool _,.slice _ _ _]) (fr:=[]) H J J qI J J J J J J Z2 O (fun s4 H=>?_)
    refine zU (en ?_)
    refine yP xO J H.own0 J ?_
    exact⟨Dp++Dn,_,_,_,_,J,H.drop0.drop0.drop0.up O,hz9.mono X0⟩
   refine yT [⟨0,0,.light,[3,5]⟩,⟨1,1,.light,[3,5]⟩,⟨2,0,.light,[1,5]⟩,⟨3,4,.light,[1,5]⟩,⟨4,0,.light,[1,3]⟩,⟨5,16,.light,[1,3]⟩,⟨6,60,.whole,[1]⟩,⟨7,127,.whole,[]⟩,⟨8,255,.whole,[]⟩] Z0 Z0 (zA J J (zB xD J ⟨J,(zV J J sh4 J H.own2 Y2 J (zA J J (zB yM J ⟨J,(zV J J xQ J H.own2 Y2 J (zA J J (zB yM J ⟨J,(zV J J xQ J H.own1 Y1 J (zM J J (zF J fc170 J ?_)))⟩)))⟩)))⟩))
   have hlt:¬x.natAbs<y.natAbs:=fun hh=>h (cmpN_lt.mpr hh)
   obtain⟨_,s9,hr,Dp,out,Hc,hsl,hdo,hvo,hlo⟩:=minus_ok hI (Fine.pr H.fine (xW H.lt2 qO)) ((ha.kept H).prot (X:=[b2])) ((hb.kept H).prot (X:=[b2])) hda hdb hlx (jB O) O Z
   refine⟨_,_,hr,?_⟩
   clear hr
   have Hc:=HL.wider H.fine Z3 Z5 Hc
   have H:=H.callE Hc
   clear Hc
   simp only[List.cons_append,List.nil_append,List.append_assoc]at H
   refine zM J J (zF J fc115 J ?_)
   obtain⟨ap,mp,cp,rfl,hmp⟩:=hsl.isSlice
   subst hmp
   obtain⟨_,s9,hr,Dn,n9,a9,m9,c9,rfl,Hc,hz9⟩:=normal_n (K:=KX K Dp) (neg:=true) (z:=x+y) (l:=out) hI H.fine W4 hdo W5 (fun m h0 hm=>.inr (hsl.cut h0 hm)) O Y7
   refine⟨_,_,hr,?_⟩
   clear hr
   have Hc:=HL.wider H.fine Z3 Z7 Hc
   have H:=H.callE Hc
   clear Hc
   simp only[List.cons_append,List.nil_append,List.append_assoc]at H
   refine xM (vs:=[.bool _,.slice _ _ _]) (fr:=[]) H J J qI J J J J J J Z2 O (fun s5 H=>?_)
   refine zU (en ?_)
   refine yP xO J H.own0 J ?_
   exact⟨Dp++Dn,_,_,_,_,J,H.drop0.drop0.drop0.up O,hz9.mono X0⟩
  ·refine zX 2 (hI 96 U U) Tryz.func96 J fb96 J ?_
   refine zY H J O (fun b2 s1 H=>?_)
   refine zY H J O (fun b3 s2 H=>?_)
   refine zS H qU O (fun b4 s3 H=>?_)
   refine zB xD J (zJ sh4 J H.own2 J (zB xD J (zJ sh4 J H.own1 J (op_eqb un4 J J (yT [⟨0,0,.light,[3,5]⟩,⟨1,1,.light,[3,5]⟩,⟨2,0,.light,[1,5]⟩,⟨3,4,.light,[1,5]⟩,⟨4,0,.light,[1,3]⟩,⟨5,16,.light,[1,3]⟩,⟨6,60,.whole,[1]⟩,⟨7,127,.whole,[]⟩,⟨8,255,.whole,[]⟩] Z0 Z0 (zA J J (zB xD J ⟨J,(zV J J sh4 J H.own2 Y2 J (zA J J (zB yM J ⟨J,(zV J J xQ J H.own2 Y2 J (zA J J (zB yM J ⟨J,(zV J J xQ J H.own1 Y1 J ?_)⟩)))⟩)))⟩)))))))
   refine zM J J (zF J fc168 J ?_)
   obtain⟨_,s9,hr,Dp,out,Hc,hsl,hdo,hvo,hlo⟩:=plus_ok hI (Fine.pr H.fine (xW H.lt2 qO)) ((ha.kept H).prot (X:=[b2])) ((hb.kept H).prot (X:=[b2])) hda hdb hlx hly Z
   refine⟨_,_,hr,?_⟩
   clear hr
   have Hc:=HL.wider H.fine Z3 Z5 Hc
   have H:=H.callE Hc
   clear Hc
   simp only[List.cons_append,List.nil_append,List.append_assoc]at H
   refine zM J J (zF J fc115 J ?_)
   obtain⟨ap,mp,cp,rfl,hmp⟩:=hsl.isSlice
   subst hmp
   obtain⟨_,s9,hr,Dn,n9,a9,m9,c9,rfl,Hc,hz9⟩:=normal_n (K:=KX K Dp) (neg:=true) (z:=x+y) (l:=out) hI H.fine W4 hdo W5 (fun m h0 hm=>.inr (hsl.cut h0 hm)) O Y7
   refine⟨_,_,hr,?_⟩
   clear hr
   have Hc:=HL.wider H.fine Z3 Z7 Hc
   have H:=H.callE Hc
   clear Hc
   simp only[List.cons_append,List.nil_append,List.append_assoc]at H
   refine xM (vs:=[.bool _,.slice _ _ _]) (fr:=[]) H J J qI J J J J J J Z2 O (fun s4 H=>?_)
   refine zU (en ?_)
   refine yP xO J H.own0 J ?_
   exact⟨Dp++Dn,_,_,_,_,J,H.drop0.drop0.drop0.up O,hz9.mono X0⟩
set_option maxHeartbeats 4000000 in
set_option maxRecDepth 10000 in
theorem neg03_ok(hI:xA I)(hf:Fine s)(hK:Kn s K)(hx:NumK K n1 a1 m1 c1 x)(hlx:(dg x.natAbs).length≤1000)(hroom:s.next+10≤yC) :
  ∃v' s',xN Tryz.prog I 97 #[.agg ⟨[.bool n1,.slice a1 m1 c1]⟩] s v' s'∧wR K s 10 (-x) v' s':=by
 have H:=hf.hl
 obtain⟨hn1,rfl,hk1⟩:=hx
 have ha:=hK _ _ hk1
 have hda:=kq x.natAbs
 have hva:=dv_dg x.natAbs
 cases n1
 ·refine zX 1 (hI 97 U U) Tryz.func97 J fb97 J ?_
  refine zY H J O (fun b1 s1 H=>?_)
  refine zS H qU O (fun b2 s2 H=>?_)
  refine zB xD J (zJ sh4 J H.own1 J (qt J (zB yM J (zJ xQ J H.own1 J (zF J fc115 J ?_)))))
  obtain⟨_,s9,hr,Dn,n9,a9,m9,c9,rfl,Hc,hz9⟩:=normal_d (K:=K) (neg:=true) (z:= -x) hI H.fine (ha.kept H) (by simp at hn1 ⊢;omega) hk1 O Y7
  refine⟨_,_,hr,?_⟩
  clear hr
  have H:=H.callE Hc
  clear Hc
  simp only[List.cons_append,List.nil_append,List.append_assoc]at H
  refine zT (vs:=[.bool _,.slice _ _ _]) H qI J J J J J O (fun s3 H=>?_)
  refine en ?_
  refine yP xO J H.own0 J ?_
  exact⟨Dn,_,_,_,_,J,H.drop0.drop0.up O,hz9⟩
 ·refine zX 1 (hI 97 U U) Tryz.func97 J fb97 J ?_
  refine zY H J O (fun b1 s1 H=>?_)
  refine zS H qU O (fun b2 s2 H=>?_)
  refine zB xD J (zJ sh4 J H.own1 J (qt J (zB yM J (zJ xQ J H.own1 J (zF J fc115 J ?_)))))
  obtain⟨_,s9,hr,Dn,n9,a9,m9,c9,rfl,Hc,hz9⟩:=normal_d (K:=K) (neg:=false) (z:= -x) hI H.fine (ha.kept H) (by simp at hn1 ⊢;omega) hk1 O Y7
  refine⟨_,_,hr,?_⟩
  clear hr
  have H:=H.callE Hc
  clear Hc
  simp only[List.cons_append,List.nil_append,List.append_assoc]at H
  refine zT (vs:=[.bool _,.slice _ _ _]) H qI J J J J J O (fun s3 H=>?_)
  refine en ?_
  refine yP xO J H.own0 J ?_
  exact⟨Dn,_,_,_,_,J,H.drop0.drop0.up O,hz9⟩
set_option maxHeartbeats 4000000 in
set_option maxRecDepth 10000 in
theorem cmp03_ok(hI:xA I)(hf:Fine s)(hK:Kn s K)(hx:NumK K n1 a1 m1 c1 x)(hy:NumK K n2 a2 m2 c2 y)(hlx:(dg x.natAbs).length≤1000)(hly:(dg y.natAbs).length≤1000)(hroom:s.next+10≤yC) :
  ∃v' s',xN Tryz.prog I 207 #[.agg ⟨[.bool n1,.slice a1 m1 c1]⟩,.agg ⟨[.bool n2,.slice a2 m2 c2]⟩] s v' s'∧qQ s 10 (.int .i64 (cmpI x y)) v' s':=by
 have H:=hf.hl
 obtain⟨hn1,rfl,hk1⟩:=hx
 obtain⟨hn2,rfl,hk2⟩:=hy
 have ha:=hK _ _ hk1
 have hb:=hK _ _ hk2
 have hda:=kq x.natAbs
 have hdb:=kq y.natAbs
 have hva:=dv_dg x.natAbs
 have hvb:=dv_dg y.natAbs
 cases n1
 ·cases n2
  ·refine zX 2 (hI 207 U U) Tryz.func207 J fb207 J ?_
   refine zY H J O (fun b2 s1 H=>?_)
   refine zY H J O (fun b3 s2 H=>?_)
   refine zG (zB xD J (zJ sh4 J H.own1 J (zB xD J (zJ sh4 J H.own0 J (kR un4 J J (zB xD J (zJ sh4 J H.own1 J (zB yM J (zJ xQ J H.own1 J (zB yM J (zJ xQ J H.own0 J ?_)))))))))))
   refine zF J fc169 J ?_
   obtain⟨_,_,hr,rfl,rfl⟩:=compared_n hI (ha.kept H) (hb.kept H) O Y7
   refine⟨_,_,hr,?_⟩
   clear hr
   refine zL J (en ?_)
   refine yV (⟨congrArg (Value.int .i64) ?_,H.drop0.drop0.up O⟩)
   simp at hn1 hn2
   unfold cmpI
   try unfold cmpN
   repeat' split
   all_goals omega
  ·refine zX 2 (hI 207 U U) Tryz.func207 J fb207 J ?_
   refine zY H J O (fun b2 s1 H=>?_)
   refine zY H J O (fun b3 s2 H=>?_)
   refine zG (zB xD J (zJ sh4 J H.own1 J (zB xD J (zJ sh4 J H.own0 J (kR un4 J J (zB xD J (zJ sh4 J H.own1 J (zG (en ?_)))))))))
   refine yV (⟨congrArg (Value.int .i64) ?_,H.drop0.drop0.up O⟩)
   simp at hn1 hn2
   unfold cmpI
   try unfold cmpN
   repeat' split
   all_goals omega
 ·cases n2
  ·refine zX 2 (hI 207 U U) Tryz.func207 J fb207 J ?_
   refine zY H J O (fun b2 s1 H=>?_)
   refine zY H J O (fun b3 s2 H=>?_)
   refine zG (zB xD J (zJ sh4 J H.own1 J (zB xD J (zJ sh4 J H.own0 J (kR un4 J J (zB xD J (zJ sh4 J H.own1 J (zG (en ?_)))))))))
   refine yV (⟨congrArg (Value.int .i64) ?_,H.drop0.drop0.up O⟩)
   simp at hn1 hn2
   unfold cmpI
   try unfold cmpN
   repeat' split
   all_goals omega
  ·refine zX 2 (hI 207 U U) Tryz.func207 J fb207 J ?_
   refine zY H J O (fun b2 s1 H=>?_)
   refine zY H J O (fun b3 s2 H=>?_)
   refine zG (zB xD J (zJ sh4 J H.own1 J (zB xD J (zJ sh4 J H.own0 J (kR un4 J J (zB xD J (zJ sh4 J H.own1 J (zB yM J (zJ xQ J H.own0 J (zB yM J (zJ xQ J H.own1 J ?_)))))))))))
   refine zF J fc169 J ?_
   obtain⟨_,_,hr,rfl,rfl⟩:=compared_n hI (hb.kept H) (ha.kept H) O Y7
   refine⟨_,_,hr,?_⟩
   clear hr
   refine zL J (en ?_)
   refine yV (⟨congrArg (Value.int .i64) ?_,H.drop0.drop0.up O⟩)
   simp at hn1 hn2
   unfold cmpI
   try unfold cmpN
   repeat' split
   all_goals omega
set_option maxHeartbeats 4000000 in
set_option maxRecDepth 10000 in
theorem sign03_ok(hI:xA I)(hf:Fine s)(hK:Kn s K)(hx:NumK K n1 a1 m1 c1 x)(hlx:(dg x.natAbs).length≤1000)(hroom:s.next+20≤yC) :
  ∃v' s',xN Tryz.prog I 140 #[.agg ⟨[.bool n1,.slice a1 m1 c1]⟩] s v' s'∧qQ s 20 (.int .i64 (cmpI x 0)) v' s':=by
 have H:=hf.hl
 have hx:=hx.mono (zZ (D:=[]))
 refine zX 1 (hI 140 U U) Tryz.func140 J fb140 J ?_
 refine zY H J O (fun b1 s1 H=>?_)
 refine zG (zN xO J H.own0 J (xE (c:=[.bool _,.slice _ _ _]) bf32 J (zF J fc207 J (callE (cmp03_ok hI H.fine (kn1 hK H) hx NumK.nil O (by rw[Int.natAbs_zero,kY];decide) Z) (fun s9 Hc=>?_)))))
 have H:=H.call0 Hc
 clear Hc
 refine zL J (en ?_)
 refine yV ?_
 exact⟨J,H.drop0.up O⟩
theorem dg_last(h:(dg n).length≠0):(dg n).getD ((dg n).length-1) 0≠0:=by
 have h1:=nlen_dg n
 obtain⟨m,hm⟩:∃m,(dg n).length=m+1:=⟨(dg n).length-1,by omega⟩
 rw[hm]at h1
 simp only[vI]at h1
 split at h1
 ·have:=nlen_le (dg n) m;omega
 ·rw[hm,Nat.add_sub_cancel];assumption
theorem ext_take{la lb:List Int}(hl:la.length=lb.length):∀k,k≤la.length→(∀i,i<k→la.getD i 0=lb.getD i 0)→la.take k=lb.take k
 |0,_,_=>by simp
 |k+1,hk,h=>by
  have ih:=ext_take hl k O fun i hi=>h i O
  have:=h k O
  simp only[List.getD_eq_getElem?_getD,List.getElem?_eq_getElem (show k<la.length by omega),List.getElem?_eq_getElem (show k<lb.length by omega),Option.getD_some]at this
  rw[List.take_succ_eq_append_getElem (show k<la.length by omega),List.take_succ_eq_append_getElem (show k<lb.length by omega),ih,this]
set_option maxHeartbeats 4000000 in
set_option maxRecDepth 10000 in
theorem same03_ok(hI:xA I)(hf:Fine s)(hK:Kn s K)(hx:NumK K n1 a1 m1 c1 x)(hy:NumK K n2 a2 m2 c2 y)(hlx:(dg x.natAbs).length≤1000)(hly:(dg y.natAbs).length≤1000)(hroom:s.next+10≤yC) :
  ∃v' s',xN Tryz.prog I 187 #[.agg ⟨[.bool n1,.slice a1 m1 c1]⟩,.agg ⟨[.bool n2,.slice a2 m2 c2]⟩] s v' s'∧qQ s 10 (.bool (decide (x=y))) v' s':=by
 have H:=hf.hl
 obtain⟨hn1,rfl,hk1⟩:=hx
 obtain⟨hn2,rfl,hk2⟩:=hy
 have ha:=hK _ _ hk1
 have hb:=hK _ _ hk2
 have hda:=kq x.natAbs
 have hdb:=kq y.natAbs
 have hva:=dv_dg x.natAbs
 have hvb:=dv_dg y.natAbs
 cases n1
 ·cases n2
  ·refine zX 2 (hI 187 U U) Tryz.func187 J fb187 J ?_
   refine zY H J O (fun b2 s1 H=>?_)
   refine zY H J O (fun b3 s2 H=>?_)
   refine zG (zB xD J (zJ sh4 J H.own1 J (zB xD J (zJ sh4 J H.own0 J (kR un4 J J (zI J (zB yM J (zJ xQ J H.own1 J (yF xV J J J (zB yM J (zJ xQ J H.own0 J ?_)))))))))))
   refine yF xV J J J (k6 J J (fun h=>?_) (fun h=>?_))
   ·refine yG J J (zG (en ?_))
    refine yV (⟨congrArg Value.bool ?_,H.drop0.drop0.up O⟩)
    simp only[decide_eq_true_eq,Bool.true_eq,Bool.false_eq,decide_eq_false_iff_not]at hn1 hn2 ⊢
    intro he
    subst he
    omega
   refine yG J J (zG (xR (fun k F s1=>∃(G:FF) (i:Nat),F=lay G [(2,.pointer (some ⟨b2,0,none⟩)),(3,.pointer (some ⟨b3,0,none⟩)),(5,.int .i64 (i:Int))]∧HL [] s s1 [(b3,.cells [.bool false,.slice a2 (dg y.natAbs).length c2] 32),(b2,.cells [.bool false,.slice a1 (dg x.natAbs).length c1] 32)] 2∧i≤(dg x.natAbs).length∧k=(dg x.natAbs).length-i∧∀j,j<i→(dg x.natAbs).getD j 0=(dg y.natAbs).getD j 0) ?_ (dg x.natAbs).length _ _ ?_))
   rotate_left
   ·exact⟨_,0,yZ ⟨J,J,J,trivial⟩,H,by omega,by omega,fun j hj=>by omega⟩
   rintro k F s1 ⟨G,i,rfl,H,hi,rfl,hall⟩
   refine zC J (zB yM J (zJ xQ J H.own1 J (yF xV J J J (xB J J (fun h=>?_) (fun h=>?_)))))
   ·have hle2:(dg x.natAbs).length=(dg y.natAbs).length:=by omega
    obtain⟨b1,off1,c1_,rfl,hg1,hb1,hc1⟩:=(ha.kept H).atD (i:=(i:Int)) (k:=i) rfl O
    have hl1:b1<yC:=by have:=H.most;omega
    obtain⟨b22,off2,c2_,rfl,hg2,hb2,hc2⟩:=(hb.kept H).atD (i:=(i:Int)) (k:=i) rfl O
    have hl2:b22<yC:=by have:=H.most;omega
    refine yT [⟨0,0,.light,[6,9]⟩,⟨1,1,.light,[6,9]⟩,⟨2,0,.light,[1,6,9]⟩,⟨3,7,.light,[6,9]⟩,⟨4,15,.light,[6,9]⟩,⟨5,0,.light,[1,4]⟩,⟨6,32,.light,[1,4]⟩,⟨7,0,.light,[1,4,6]⟩,⟨8,224,.light,[1,4]⟩,⟨9,480,.light,[1,4]⟩,⟨10,1023,.light,[]⟩] Z0 Z0 (zA J J (zB yM J ⟨J,(zV J J xQ J H.own1 Y1 J (zA J J (zC J ⟨J,(zA J J (zP qn J J O O ⟨J,(zV J J sh3 J hg1 hl1 hc1 (zA J J (zB yM J ⟨J,(zV J J xQ J H.own0 Y0 J (zA J J (zC J ⟨J,(zA J J (zP qn J J O O ⟨J,(zV J J sh3 J hg2 hl2 hc2 (zA J J (k6 J J (fun h=>⟨J,?_⟩) (fun h=>⟨J,?_⟩))))⟩))⟩)))⟩)))⟩))⟩)))⟩))
    ·refine zU (zG (en ?_))
     refine yV (⟨congrArg Value.bool ?_,H.drop0.drop0.up O⟩)
     simp only[decide_eq_true_eq,Bool.true_eq,Bool.false_eq,decide_eq_false_iff_not]at hn1 hn2 ⊢
     intro he
     subst he
     omega
    refine zU (zC J (yH J J Y (zL J (en ?_))))
    have hq:(dg x.natAbs).getD i 0=(dg y.natAbs).getD i 0:=by omega
    refine⟨(dg x.natAbs).length-(i+1),by omega,_,i+1,yZ ⟨J,J,J,trivial⟩,H,by omega,J,fun j hj=>?_⟩
    by_cases hji:j=i
    ·rw[hji];exact hq
    ·exact hall j O
   refine zG (en ?_)
   refine yV (⟨congrArg Value.bool ?_,H.drop0.drop0.up O⟩)
   simp only[decide_eq_true_eq,Bool.true_eq,Bool.false_eq,decide_eq_false_iff_not]at hn1 hn2 ⊢
   have hle2:(dg x.natAbs).length=(dg y.natAbs).length:=by omega
   have he:=ext_take hle2 _ Z3 (fun j hj=>hall j O)
   rw[List.take_length,List.take_of_length_le O]at he
   have:=dg_inj he
   omega
  ·refine zX 2 (hI 187 U U) Tryz.func187 J fb187 J ?_
   refine zY H J O (fun b2 s1 H=>?_)
   refine zY H J O (fun b3 s2 H=>?_)
   refine zG (zB xD J (zJ sh4 J H.own1 J (zB xD J (zJ sh4 J H.own0 J (kR un4 J J (zI J (xS J (zG (en ?_)))))))))
   refine yV (⟨congrArg Value.bool ?_,H.drop0.drop0.up O⟩)
   simp only[decide_eq_true_eq,Bool.true_eq,Bool.false_eq,decide_eq_false_iff_not]at hn1 hn2 ⊢
   intro he
   subst he
   omega
 ·cases n2
  ·refine zX 2 (hI 187 U U) Tryz.func187 J fb187 J ?_
   refine zY H J O (fun b2 s1 H=>?_)
   refine zY H J O (fun b3 s2 H=>?_)
   refine zG (zB xD J (zJ sh4 J H.own1 J (zB xD J (zJ sh4 J H.own0 J (kR un4 J J (zI J (xS J (zG (en ?_)))))))))
   refine yV (⟨congrArg Value.bool ?_,H.drop0.drop0.up O⟩)
   simp only[decide_eq_true_eq,Bool.true_eq,Bool.false_eq,decide_eq_false_iff_not]at hn1 hn2 ⊢
   intro he
   subst he
   omega
  ·refine zX 2 (hI 187 U U) Tryz.func187 J fb187 J ?_
   refine zY H J O (fun b2 s1 H=>?_)
   refine zY H J O (fun b3 s2 H=>?_)
   refine zG (zB xD J (zJ sh4 J H.own1 J (zB xD J (zJ sh4 J H.own0 J (kR un4 J J (zI J (zB yM J (zJ xQ J H.own1 J (yF xV J J J (zB yM J (zJ xQ J H.own0 J ?_)))))))))))
   refine yF xV J J J (k6 J J (fun h=>?_) (fun h=>?_))
   ·refine yG J J (zG (en ?_))
    refine yV (⟨congrArg Value.bool ?_,H.drop0.drop0.up O⟩)
    simp only[decide_eq_true_eq,Bool.true_eq,Bool.false_eq,decide_eq_false_iff_not]at hn1 hn2 ⊢
    intro he
    subst he
    omega
   refine yG J J (zG (xR (fun k F s1=>∃(G:FF) (i:Nat),F=lay G [(2,.pointer (some ⟨b2,0,none⟩)),(3,.pointer (some ⟨b3,0,none⟩)),(5,.int .i64 (i:Int))]∧HL [] s s1 [(b3,.cells [.bool true,.slice a2 (dg y.natAbs).length c2] 32),(b2,.cells [.bool true,.slice a1 (dg x.natAbs).length c1] 32)] 2∧i≤(dg x.natAbs).length∧k=(dg x.natAbs).length-i∧∀j,j<i→(dg x.natAbs).getD j 0=(dg y.natAbs).getD j 0) ?_ (dg x.natAbs).length _ _ ?_))
   rotate_left
   ·exact⟨_,0,yZ ⟨J,J,J,trivial⟩,H,by omega,by omega,fun j hj=>by omega⟩
   rintro k F s1 ⟨G,i,rfl,H,hi,rfl,hall⟩
   refine zC J (zB yM J (zJ xQ J H.own1 J (yF xV J J J (xB J J (fun h=>?_) (fun h=>?_)))))
   ·have hle2:(dg x.natAbs).length=(dg y.natAbs).length:=by omega
    obtain⟨b1,off1,c1_,rfl,hg1,hb1,hc1⟩:=(ha.kept H).atD (i:=(i:Int)) (k:=i) rfl O
    have hl1:b1<yC:=by have:=H.most;omega
    obtain⟨b22,off2,c2_,rfl,hg2,hb2,hc2⟩:=(hb.kept H).atD (i:=(i:Int)) (k:=i) rfl O
    have hl2:b22<yC:=by have:=H.most;omega
    refine yT [⟨0,0,.light,[6,9]⟩,⟨1,1,.light,[6,9]⟩,⟨2,0,.light,[1,6,9]⟩,⟨3,7,.light,[6,9]⟩,⟨4,15,.light,[6,9]⟩,⟨5,0,.light,[1,4]⟩,⟨6,32,.light,[1,4]⟩,⟨7,0,.light,[1,4,6]⟩,⟨8,224,.light,[1,4]⟩,⟨9,480,.light,[1,4]⟩,⟨10,1023,.light,[]⟩] Z0 Z0 (zA J J (zB yM J ⟨J,(zV J J xQ J H.own1 Y1 J (zA J J (zC J ⟨J,(zA J J (zP qn J J O O ⟨J,(zV J J sh3 J hg1 hl1 hc1 (zA J J (zB yM J ⟨J,(zV J J xQ J H.own0 Y0 J (zA J J (zC J ⟨J,(zA J J (zP qn J J O O ⟨J,(zV J J sh3 J hg2 hl2 hc2 (zA J J (k6 J J (fun h=>⟨J,?_⟩) (fun h=>⟨J,?_⟩))))⟩))⟩)))⟩)))⟩))⟩)))⟩))
    ·refine zU (zG (en ?_))
     refine yV (⟨congrArg Value.bool ?_,H.drop0.drop0.up O⟩)
     simp only[decide_eq_true_eq,Bool.true_eq,Bool.false_eq,decide_eq_false_iff_not]at hn1 hn2 ⊢
     intro he
     subst he
     omega
    refine zU (zC J (yH J J Y (zL J (en ?_))))
    have hq:(dg x.natAbs).getD i 0=(dg y.natAbs).getD i 0:=by omega
    refine⟨(dg x.natAbs).length-(i+1),by omega,_,i+1,yZ ⟨J,J,J,trivial⟩,H,by omega,J,fun j hj=>?_⟩
    by_cases hji:j=i
    ·rw[hji];exact hq
    ·exact hall j O
   refine zG (en ?_)
   refine yV (⟨congrArg Value.bool ?_,H.drop0.drop0.up O⟩)
   simp only[decide_eq_true_eq,Bool.true_eq,Bool.false_eq,decide_eq_false_iff_not]at hn1 hn2 ⊢
   have hle2:(dg x.natAbs).length=(dg y.natAbs).length:=by omega
   have he:=ext_take hle2 _ Z3 (fun j hj=>hall j O)
   rw[List.take_length,List.take_of_length_le O]at he
   have:=dg_inj he
   omega
set_option maxHeartbeats 4000000 in
set_option maxRecDepth 10000 in
theorem valid03_ok(hI:xA I)(hf:Fine s)(hK:Kn s K)(hx:NumK K n1 a1 m1 c1 x)(hlx:(dg x.natAbs).length≤1000)(hroom:s.next+10≤yC) :
  ∃v' s',xN Tryz.prog I 188 #[.agg ⟨[.bool n1,.slice a1 m1 c1]⟩] s v' s'∧qQ s 10 (.bool true) v' s':=by
 have H:=hf.hl
 obtain⟨hn1,rfl,hk1⟩:=hx
 have ha:=hK _ _ hk1
 have hda:=kq x.natAbs
 have hl0:= @dg_len0 x.natAbs
 cases n1
 ·refine zX 1 (hI 188 U U) Tryz.func188 J fb188 J ?_
  refine zY H J O (fun b1 s1 H=>?_)
  refine zG (zG (xR (fun k F s1=>∃(G:FF) (i:Nat),F=lay G [(1,.pointer (some ⟨b1,0,none⟩)),(3,.int .i64 (i:Int))]∧HL [] s s1 [(b1,.cells [.bool false,.slice a1 (dg x.natAbs).length c1] 32)] 1∧i≤(dg x.natAbs).length∧k=(dg x.natAbs).length-i) ?_ (dg x.natAbs).length _ _ ?_))
  rotate_left
  ·exact⟨_,0,yZ ⟨J,J,trivial⟩,H,by omega,by omega⟩
  rintro k F s1 ⟨G,i,rfl,H,hi,rfl⟩
  refine zC J (zB yM J (zJ xQ J H.own0 J (yF xV J J J (xB J J (fun h=>?_) (fun h=>?_)))))
  ·have hdi:=hda.at i
   obtain⟨b11,off1,c1_,rfl,hg1,hb1,hc1⟩:=(ha.kept H).atD (i:=(i:Int)) (k:=i) rfl O
   refine zB yM J (zJ xQ J H.own0 J (zC J (zP qn J J O O (zJ sh3 J hg1 hc1 (xB J J (fun h=>False.elim (by have h2:(dg x.natAbs).getD i 0<0:=h;omega)) (fun h=>?_))))))
   refine zI J (zB yM J (zJ xQ J H.own0 J (zC J (zP qn J J O O (zJ sh3 J hg1 hc1 (k7 J J (fun h=>False.elim (by have h2:(1000000000:Int)≤(dg x.natAbs).getD i 0:=h;omega)) (fun h=>?_)))))))
   refine yG J J (zC J (yH J J Y (zL J (en ?_))))
   exact⟨(dg x.natAbs).length-(i+1),by omega,_,i+1,yZ ⟨J,J,trivial⟩,H,by omega,J⟩
  refine zB yM J (zJ xQ J H.own0 J (yF xV J J J (qh J J (fun h=>?_) (fun h=>?_))))
  ·refine zB xD J (zJ sh4 J H.own0 J (qt J (zK J (en ?_))))
   refine yV ?_
   simp only[Bool.true_eq,Bool.false_eq,decide_eq_true_eq,decide_eq_false_iff_not]at hn1
   exact⟨J,H.drop0.up O⟩
  have hne:(dg x.natAbs).length≠0:=by omega
  have hlast:=dg_last hne
  obtain⟨b11,off1,c1_,rfl,hg1,hb1,hc1⟩:=(ha.kept H).atD (i:=((dg x.natAbs).length:Int)-1) (k:=(dg x.natAbs).length-1) O O
  refine zB yM J (zJ xQ J H.own0 J (zB yM J (zJ xQ J H.own0 J (yF xV J J J (qC J J Y (zP qn J J O O (zJ sh3 J hg1 hc1 (k6 J J (fun h=>?_) (fun h=>False.elim (h hlast))))))))))
  refine zK J (en ?_)
  refine yV ?_
  simp only[Bool.true_eq,Bool.false_eq,decide_eq_true_eq,decide_eq_false_iff_not]at hn1
  exact⟨J,H.drop0.up O⟩
 ·refine zX 1 (hI 188 U U) Tryz.func188 J fb188 J ?_
  refine zY H J O (fun b1 s1 H=>?_)
  refine zG (zG (xR (fun k F s1=>∃(G:FF) (i:Nat),F=lay G [(1,.pointer (some ⟨b1,0,none⟩)),(3,.int .i64 (i:Int))]∧HL [] s s1 [(b1,.cells [.bool true,.slice a1 (dg x.natAbs).length c1] 32)] 1∧i≤(dg x.natAbs).length∧k=(dg x.natAbs).length-i) ?_ (dg x.natAbs).length _ _ ?_))
  rotate_left
  ·exact⟨_,0,yZ ⟨J,J,trivial⟩,H,by omega,by omega⟩
  rintro k F s1 ⟨G,i,rfl,H,hi,rfl⟩
  refine zC J (zB yM J (zJ xQ J H.own0 J (yF xV J J J (xB J J (fun h=>?_) (fun h=>?_)))))
  ·have hdi:=hda.at i
   obtain⟨b11,off1,c1_,rfl,hg1,hb1,hc1⟩:=(ha.kept H).atD (i:=(i:Int)) (k:=i) rfl O
   refine zB yM J (zJ xQ J H.own0 J (zC J (zP qn J J O O (zJ sh3 J hg1 hc1 (xB J J (fun h=>False.elim (by have h2:(dg x.natAbs).getD i 0<0:=h;omega)) (fun h=>?_))))))
   refine zI J (zB yM J (zJ xQ J H.own0 J (zC J (zP qn J J O O (zJ sh3 J hg1 hc1 (k7 J J (fun h=>False.elim (by have h2:(1000000000:Int)≤(dg x.natAbs).getD i 0:=h;omega)) (fun h=>?_)))))))
   refine yG J J (zC J (yH J J Y (zL J (en ?_))))
   exact⟨(dg x.natAbs).length-(i+1),by omega,_,i+1,yZ ⟨J,J,trivial⟩,H,by omega,J⟩
  refine zB yM J (zJ xQ J H.own0 J (yF xV J J J (qh J J (fun h=>?_) (fun h=>?_))))
  ·refine zB xD J (zJ sh4 J H.own0 J (qt J (zK J (en ?_))))
   refine yV ?_
   simp only[Bool.true_eq,Bool.false_eq,decide_eq_true_eq,decide_eq_false_iff_not]at hn1
   omega
  have hne:(dg x.natAbs).length≠0:=by omega
  have hlast:=dg_last hne
  obtain⟨b11,off1,c1_,rfl,hg1,hb1,hc1⟩:=(ha.kept H).atD (i:=((dg x.natAbs).length:Int)-1) (k:=(dg x.natAbs).length-1) O O
  refine zB yM J (zJ xQ J H.own0 J (zB yM J (zJ xQ J H.own0 J (yF xV J J J (qC J J Y (zP qn J J O O (zJ sh3 J hg1 hc1 (k6 J J (fun h=>?_) (fun h=>False.elim (h hlast))))))))))
  refine zK J (en ?_)
  refine yV ?_
  simp only[Bool.true_eq,Bool.false_eq,decide_eq_true_eq,decide_eq_false_iff_not]at hn1
  exact⟨J,H.drop0.up O⟩
end Go.Proofs.YtocnbjjmmgolfaaGreat
namespace Go.Proofs.YtocnbjjmmgolfaaGreat
open Go Go.M Go.Proofs.C14
theorem fb190:xK Tryz.f190 (Tryz.f190.body.getD .skip) 2=true:=by kernel_rfl
theorem fc189:xJ Tryz.prog 189=true:=by kernel_rfl
theorem fc59:xJ Tryz.prog 59=true:=by kernel_rfl
theorem fb113:xK Tryz.f113 (Tryz.f113.body.getD .skip) 2=true:=by kernel_rfl
theorem fc190:xJ Tryz.prog 190=true:=by kernel_rfl
theorem fb112:xK Tryz.f112 (Tryz.f112.body.getD .skip) 2=true:=by kernel_rfl
theorem tdv(x y:Nat):(x:Int).tdiv (y:Int)=((x / y:Nat):Int):=(Int.ofNat_tdiv x y).symm
theorem tmv(x y:Nat):(x:Int).tmod (y:Int)=((x % y:Nat):Int):=(Int.ofNat_tmod x y).symm
theorem tdv64{x y:Nat}(h:x<1000000000000000000):qp ((x:Int).tdiv (y:Int)):=by
 rw[tdv];have:=Nat.div_le_self x y;generalize x / y=z at *;unfold qp;omega
theorem tmv64{x y:Nat}(h:x<1000000000000000000):qp ((x:Int).tmod (y:Int)):=by
 rw[tmv];have:=Nat.mod_le x y;generalize x % y=z at *;unfold qp;omega
def PostDD(K:Kw)(s:St)(k:Nat)(y z:Nat)(v:Value)(s':St):Prop:=∃D a m c a2 m2 c2,v=.tuple ⟨[.slice a m c,.slice a2 m2 c2]⟩∧HL [] s s' D k∧(m=(dg y).length∧KX K D (.slice a m c) (dg y))∧(m2=(dg z).length∧KX K D (.slice a2 m2 c2) (dg z))
variable{x y:Int}{I:xP}{s:St}{K:Kw}{n1 n2:Bool}{a1 a2:Option Addr}{c1 c2 m1 m2:Nat}
theorem abs_ok(hI:xA I)(hf:Fine s)(hK:Kn s K)(hx:NumK K n1 a1 m1 c1 x)(hlx:(dg x.natAbs).length≤1000)(hroom:s.next+1≤yC) :
  ∃v' s',xN Tryz.prog I 115 #[.bool false,.slice a1 m1 c1] s v' s'∧wR K s 1 (x.natAbs:Int) v' s':=by
 obtain⟨_,rfl,hk⟩:=hx
 exact normal_d hI hf (hK _ _ hk) Y8 hk O hroom
theorem quo_sign(hd:y∣x):x / y=if (!(decide (x<0)==decide (y<0)))=true then -((x.natAbs / y.natAbs:Nat):Int)else((x.natAbs / y.natAbs:Nat):Int):=by
 obtain⟨k,rfl⟩:=hd
 by_cases hy:y=0
 ·subst hy;simp
 ·rw[Int.mul_ediv_cancel_left k hy,Int.natAbs_mul,Nat.mul_div_cancel_left _ O]
  by_cases h1:y<0<;>by_cases h2:k<0
  ·have:¬y*k<0:=by have:=Int.mul_pos_of_neg_of_neg h1 h2;omega
   simp[h1,this];omega
  ·by_cases h3:k=0
   ·subst h3;simp[h1]
   ·have:=Int.mul_neg_of_neg_of_pos h1 (by omega:0<k)
    simp[h1,this];omega
  ·have:=Int.mul_neg_of_pos_of_neg (by omega:0<y) h2
   simp[h1,this];omega
  ·have:¬y*k<0:=by have:=Int.mul_nonneg (by omega:0≤y) (by omega:0≤k);omega
   simp[h1,this];omega
theorem mod_dvd(hd:y∣x):x.natAbs % y.natAbs=0:=Nat.mod_eq_zero_of_dvd (Int.natAbs_dvd_natAbs.mpr hd)
set_option maxHeartbeats 4000000 in
set_option maxRecDepth 10000 in
theorem divided_ok(hI:xA I)(hf:Fine s)(hK:Kn s K){x y:Nat}(hm1:m1=(dg x).length)(hm2:m2=(dg y).length)(hx:K (.slice a1 m1 c1) (dg x))(hy:K (.slice a2 m2 c2) (dg y))(hx18:x<1000000000000000000)(hy18:y<1000000000000000000)(hy0:y≠0)(hroom:s.next+40≤yC) :
  ∃v' s',xN Tryz.prog I 190 #[.slice a1 m1 c1,.slice a2 m2 c2] s v' s'∧PostDD K s 40 (x / y) (x % y) v' s':=by
 have H:=hf.hl
 subst hm1
 subst hm2
 have ha:=hK _ _ hx
 have hb:=hK _ _ hy
 have hl1:=jl hx18
 have hl2:=jl hy18
 refine zX 2 (hI 190 U U) Tryz.func190 J fb190 J ?_
 refine zG (zG (zH J (yF xV J J J ?_)))
 refine op_leq J J (fun h=>?_) Y6
 refine zI J (zH J (yF xV J J J ?_))
 refine op_leq J J (fun h=>?_) Y6
 refine yD J J (zH J (zF J fc189 J ?_))
 obtain⟨_,_,hr,rfl,rfl⟩:=tiny_ok hI (ha.kept H) O
 refine⟨_,_,hr,?_⟩
 clear hr
 refine zH J (zF J fc189 J ?_)
 obtain⟨_,_,hr,rfl,rfl⟩:=tiny_ok hI (hb.kept H) O
 refine⟨_,_,hr,?_⟩
 clear hr
 refine wY J J O (tdv64 hx18) (zF J fc59 J (qy (of03_ok hI H.fine (K:=KX K []) (tdv64 hx18) Z) (fun s9 D9 n1 a1 m1 c1 Hc h101=>?_)))
 obtain⟨Φ,ku,kd,H⟩:=merge0 (K:=K) H Hc
 replace h101:=h101.mono kd
 clear Hc ku kd
 refine zS H qU O (fun b6 s1 H=>?_)
 refine zT (vs:=[.bool _,.slice _ _ _]) H qI J J J J J O (fun s2 H=>?_)
 refine zH J (zF J fc189 J ?_)
 obtain⟨_,_,hr,rfl,rfl⟩:=tiny_ok hI (ha.kept H) O
 refine⟨_,_,hr,?_⟩
 clear hr
 refine zH J (zF J fc189 J ?_)
 obtain⟨_,_,hr,rfl,rfl⟩:=tiny_ok hI (hb.kept H) O
 refine⟨_,_,hr,?_⟩
 clear hr
 refine kE J J O (zF J fc59 J (qy (of03_ok hI H.fine (K:=KX K Φ) (tmv64 hx18) Z) (fun s9 D9 n2 a2 m2 c2 Hc h102=>?_)))
 obtain⟨Φ,ku,kd,H⟩:=ko (K:=K) H Hc
 try replace h101:=h101.mono ku
 replace h102:=h102.mono kd
 clear Hc ku kd
 refine zS H qU O (fun b7 s3 H=>?_)
 refine zT (vs:=[.bool _,.slice _ _ _]) H qI J J J J J O (fun s4 H=>?_)
 refine yT [⟨0,0,.light,[3]⟩,⟨1,1,.light,[3]⟩,⟨2,0,.light,[1]⟩,⟨3,4,.light,[1]⟩,⟨4,3,.light,[3]⟩,⟨5,31,.light,[]⟩] Z0 Z0 (zA J J (zB yM J ⟨J,(zV J J xQ J H.own1 Y1 J (zA J J (zB yM J ⟨J,(zV J J xQ J H.own0 Y0 J (zA J J (yU J ⟨J,(zA J J (yU J ⟨J,(zU (en ?_))⟩))⟩)))⟩)))⟩))
 refine end_tt J J ?_
 rw[tdv]at h101
 rw[tmv]at h102
 obtain⟨_,hm1,hk1⟩:=h101
 obtain⟨_,hm2,hk2⟩:=h102
 rw[Int.natAbs_natCast]at hm1 hk1 hm2 hk2
 exact⟨Φ,_,_,_,_,_,_,J,H.drop0.drop0.up O,⟨hm1,hk1⟩,⟨hm2,hk2⟩⟩
set_option maxHeartbeats 4000000 in
set_option maxRecDepth 10000 in
theorem div03_ok(hI:xA I)(hf:Fine s)(hK:Kn s K)(hx:NumK K n1 a1 m1 c1 x)(hy:NumK K n2 a2 m2 c2 y)(hx18:x.natAbs<1000000000000000000)(hy18:y.natAbs<1000000000000000000)(hy0:y≠0)(hd:y∣x)(hroom:s.next+100≤yC) :
  ∃v' s',xN Tryz.prog I 113 #[.agg ⟨[.bool n1,.slice a1 m1 c1]⟩,.agg ⟨[.bool n2,.slice a2 m2 c2]⟩] s v' s'∧PostNN K s 100 (x / y) 0 v' s':=by
 have H:=hf.hl
 have hx0:=hx
 have hy0':=hy
 have hne:m2≠0:=fun h=>hy0 (hy.zero.mp h)
 have hsgn:=quo_sign hd
 have hmod:=mod_dvd hd
 obtain⟨hn1,hm1,hk1⟩:=hx
 obtain⟨hn2,hm2,hk2⟩:=hy
 cases n1
 ·refine zX 2 (hI 113 U U) Tryz.func113 J fb113 J ?_
  refine zY H J O (fun b2 s1 H=>?_)
  refine zY H J O (fun b3 s2 H=>?_)
  refine zS H qU O (fun b4 s3 H=>?_)
  refine zS H qU O (fun b5 s4 H=>?_)
  refine zB yM J (zJ xQ J H.own2 J (yF xV J J J (qh J J Y6 (fun h=>?_))))
  refine zB yM J (zJ xQ J H.own3 J (zB yM J (zJ xQ J H.own2 J (zF J fc190 J ?_))))
  obtain⟨_,s9,hr,D1,aq,mq,cq,ar,mr,cr,rfl,Hc,⟨hmq,hkq⟩,⟨hmr,hkr⟩⟩:=divided_ok (K:=KX K []) hI H.fine (kn4 hK H) hm1 hm2 (.inl hk1) (.inl hk2) hx18 hy18 O Y7
  refine⟨_,_,hr,?_⟩
  clear hr
  obtain⟨Φ,ku,kd,H⟩:=kj (K:=K) H Hc
  have hkq:=kd _ _ hkq
  have hkr:=kd _ _ hkr
  clear ku kd Hc
  have hlq:=jl (Nat.lt_of_le_of_lt (Nat.div_le_self x.natAbs y.natAbs) hx18)
  have hlr:(dg (x.natAbs % y.natAbs)).length≤2:=by rw[hmod,kY];decide
  subst hmq
  subst hmr
  refine qo J (yI J J (yI J J (yU J (yU J (zB xD J (zJ sh4 J H.own3 J (zB xD J (zJ sh4 J H.own2 J (kR un4 J J (zH J (zF J fc115 J ?_)))))))))))
  obtain⟨_,s9,hr,D2,n9,a9,m9,c9,rfl,Hc,hz1⟩:=normal_d (K:=KX K Φ) (z:=x / y) hI H.fine ((kn4 hK H) _ _ hkq) (by rw[hsgn,←hn1,←hn2]) hkq O Y7
  refine⟨_,_,hr,?_⟩
  clear hr
  obtain⟨Φ,ku,kd,H⟩:=kj (K:=K) H Hc
  have hz1:=hz1.mono kd
  replace hkr:=ku _ _ hkr
  clear ku kd Hc
  refine zS H qU O (fun b8 s5 H=>?_)
  refine zT (vs:=[.bool _,.slice _ _ _]) H qI J J J J J O (fun s6 H=>?_)
  refine zH J (zF J fc115 J ?_)
  obtain⟨_,s9,hr,D2,n9,a9,m9,c9,rfl,Hc,hz2⟩:=normal_d (K:=KX K Φ) (neg:=false) (z:=0) hI H.fine ((kn5 hK H) _ _ hkr) (by simp[hmod]) hkr O Y7
  refine⟨_,_,hr,?_⟩
  clear hr
  obtain⟨Φ,ku,kd,H⟩:=ka (K:=K) H Hc
  have hz2:=hz2.mono kd
  replace hz1:=hz1.mono ku
  clear ku kd Hc
  refine zS H qU O (fun b9 s7 H=>?_)
  refine zT (vs:=[.bool _,.slice _ _ _]) H qI J J J J J O (fun s8 H=>?_)
  refine zB xD J (zJ sh4 J H.own5 J (zI J (yY J (yT [⟨0,0,.light,[1]⟩,⟨1,0,.light,[0]⟩,⟨2,1,.whole,[1]⟩,⟨3,7,.whole,[]⟩] Z0 Z0 (zQ J J xO J H.own1 Y1 J (zQ J J xO J H.own0 Y0 J (vU (vs:=[.bool _,.slice _ _ _]) (fr:=[_]) H J J qI J J J J J J Z2 O (fun s9 H=>?_))))))))
  refine ke (vs:=[.bool _,.slice _ _ _]) (fr:=[]) H J J qI J J J J J J Z2 O (fun s10 H=>?_)
  refine zU (en ?_)
  refine end_cc xO J H.own3 J xO J H.own2 J ?_
  exact⟨Φ,_,_,_,_,_,_,_,_,J,(frz6 H).up O,hz1,hz2⟩
 ·refine zX 2 (hI 113 U U) Tryz.func113 J fb113 J ?_
  refine zY H J O (fun b2 s1 H=>?_)
  refine zY H J O (fun b3 s2 H=>?_)
  refine zS H qU O (fun b4 s3 H=>?_)
  refine zS H qU O (fun b5 s4 H=>?_)
  refine zB yM J (zJ xQ J H.own2 J (yF xV J J J (qh J J Y6 (fun h=>?_))))
  refine zB yM J (zJ xQ J H.own3 J (zB yM J (zJ xQ J H.own2 J (zF J fc190 J ?_))))
  obtain⟨_,s9,hr,D1,aq,mq,cq,ar,mr,cr,rfl,Hc,⟨hmq,hkq⟩,⟨hmr,hkr⟩⟩:=divided_ok (K:=KX K []) hI H.fine (kn4 hK H) hm1 hm2 (.inl hk1) (.inl hk2) hx18 hy18 O Y7
  refine⟨_,_,hr,?_⟩
  clear hr
  obtain⟨Φ,ku,kd,H⟩:=kj (K:=K) H Hc
  have hkq:=kd _ _ hkq
  have hkr:=kd _ _ hkr
  clear ku kd Hc
  have hlq:=jl (Nat.lt_of_le_of_lt (Nat.div_le_self x.natAbs y.natAbs) hx18)
  have hlr:(dg (x.natAbs % y.natAbs)).length≤2:=by rw[hmod,kY];decide
  subst hmq
  subst hmr
  refine qo J (yI J J (yI J J (yU J (yU J (zB xD J (zJ sh4 J H.own3 J (zB xD J (zJ sh4 J H.own2 J (kR un4 J J (zH J (zF J fc115 J ?_)))))))))))
  obtain⟨_,s9,hr,D2,n9,a9,m9,c9,rfl,Hc,hz1⟩:=normal_d (K:=KX K Φ) (z:=x / y) hI H.fine ((kn4 hK H) _ _ hkq) (by rw[hsgn,←hn1,←hn2]) hkq O Y7
  refine⟨_,_,hr,?_⟩
  clear hr
  obtain⟨Φ,ku,kd,H⟩:=kj (K:=K) H Hc
  have hz1:=hz1.mono kd
  replace hkr:=ku _ _ hkr
  clear ku kd Hc
  refine zS H qU O (fun b8 s5 H=>?_)
  refine zT (vs:=[.bool _,.slice _ _ _]) H qI J J J J J O (fun s6 H=>?_)
  refine zH J (zF J fc115 J ?_)
  obtain⟨_,s9,hr,D2,n9,a9,m9,c9,rfl,Hc,hz2⟩:=normal_d (K:=KX K Φ) (neg:=false) (z:=0) hI H.fine ((kn5 hK H) _ _ hkr) (by simp[hmod]) hkr O Y7
  refine⟨_,_,hr,?_⟩
  clear hr
  obtain⟨Φ,ku,kd,H⟩:=ka (K:=K) H Hc
  have hz2:=hz2.mono kd
  replace hz1:=hz1.mono ku
  clear ku kd Hc
  refine zS H qU O (fun b9 s7 H=>?_)
  refine zT (vs:=[.bool _,.slice _ _ _]) H qI J J J J J O (fun s8 H=>?_)
  refine zB xD J (zJ sh4 J H.own5 J (zI J (zB yM J (zJ xQ J H.own0 J (yF xV J J J (qv J J (fun h=>False.elim (by have:=hz2.zero.mpr J;omega)) (fun h=>?_)))))))
  refine yD J J (yT [⟨0,0,.light,[1]⟩,⟨1,0,.light,[0]⟩,⟨2,1,.whole,[1]⟩,⟨3,7,.whole,[]⟩] Z0 Z0 (zQ J J xO J H.own1 Y1 J (zQ J J xO J H.own0 Y0 J (vU (vs:=[.bool _,.slice _ _ _]) (fr:=[_]) H J J qI J J J J J J Z2 O (fun s9 H=>?_)))))
  refine ke (vs:=[.bool _,.slice _ _ _]) (fr:=[]) H J J qI J J J J J J Z2 O (fun s10 H=>?_)
  refine zU (en ?_)
  refine end_cc xO J H.own3 J xO J H.own2 J ?_
  exact⟨Φ,_,_,_,_,_,_,_,_,J,(frz6 H).up O,hz1,hz2⟩
set_option maxHeartbeats 4000000 in
set_option maxRecDepth 10000 in
theorem gcd03_ok(hI:xA I)(hf:Fine s)(hK:Kn s K)(hx:NumK K n1 a1 m1 c1 x)(hy:NumK K n2 a2 m2 c2 y)(hx18:x.natAbs<1000000000000000000)(hy18:y.natAbs<1000000000000000000)(hroom:s.next+100≤yC) :
  ∃v' s',xN Tryz.prog I 112 #[.agg ⟨[.bool n1,.slice a1 m1 c1]⟩,.agg ⟨[.bool n2,.slice a2 m2 c2]⟩] s v' s'∧wR K s 100 ((Nat.gcd x.natAbs y.natAbs:Nat):Int) v' s':=by
 have H:=hf.hl
 have hl1:=jl hx18
 have hl2:=jl hy18
 have hx:=hx.mono (zZ (D:=[]))
 have hy:=hy.mono (zZ (D:=[]))
 refine zX 2 (hI 112 U U) Tryz.func112 J fb112 J ?_
 refine zY H J O (fun b2 s1 H=>?_)
 refine zY H J O (fun b3 s2 H=>?_)
 refine zS H qU O (fun b4 s3 H=>?_)
 refine zB yM J (zJ xQ J H.own2 J (zF J fc115 J (qy (abs_ok hI H.fine (kn3 hK H) hx O Z) (fun s9 D9 n1 a1 m1 c1 Hc h101=>?_))))
 obtain⟨Φ,ku,kd,H⟩:=qk (K:=K) H Hc
 try replace hy:=hy.mono ku
 replace h101:=h101.mono kd
 clear Hc ku kd
 refine zS H qU O (fun b5 s4 H=>?_)
 refine zT (vs:=[.bool _,.slice _ _ _]) H qI J J J J J O (fun s5 H=>?_)
 refine zB yM J (zJ xQ J H.own2 J (zF J fc115 J (qy (abs_ok hI H.fine (kn4 hK H) hy O Z) (fun s9 D9 n2 a2 m2 c2 Hc h102=>?_))))
 obtain⟨Φ,ku,kd,H⟩:=kj (K:=K) H Hc
 try replace h101:=h101.mono ku
 replace h102:=h102.mono kd
 clear Hc ku kd
 refine zS H qU O (fun b6 s6 H=>?_)
 refine zT (vs:=[.bool _,.slice _ _ _]) H qI J J J J J O (fun s7 H=>?_)
 refine kf (zB yM J (zJ xQ J H.own0 J (yF xV J J J (qv J J (fun h=>?_) (fun h=>?_)))))
 ·refine zB yM J (zJ xQ J H.own1 J (yF xV J J J (op_leq J J (fun h=>?_) (fun h=>False.elim (by have h2:=h101.2.1;rw[Int.natAbs_natCast]at h2;omega)))))
  refine zI J (zB yM J (zJ xQ J H.own0 J (yF xV J J J (op_leq J J (fun h=>?_) (fun h=>False.elim (by have h2:=h102.2.1;rw[Int.natAbs_natCast]at h2;omega))))))
  refine yD J J ?_
  have hg1:=(kn5 hK H) _ _ h101.2.2
  have hg2:=(kn5 hK H) _ _ h102.2.2
  rw[Int.natAbs_natCast]at hg1 hg2
  refine zB yM J (zJ xQ J H.own1 J (zF J fc189 J ?_))
  obtain⟨_,_,hr,rfl,rfl⟩:=tiny_ok hI hg1 O
  refine⟨_,_,hr,?_⟩
  clear hr
  refine zL J (zB yM J (zJ xQ J H.own0 J (zF J fc189 J ?_)))
  obtain⟨_,_,hr,rfl,rfl⟩:=tiny_ok hI hg2 O
  refine⟨_,_,hr,?_⟩
  clear hr
  refine zL J (xR (fun k F s1=>∃(G:FF) (m n:Nat),F=lay G [(4,.pointer (some ⟨b4,0,none⟩)),(7,.int .i64 (m:Int)),(8,.int .i64 (n:Int))]∧HL [] s s1 ((b4,.cells [.bool false,.slice none 0 0] 32)::Φ) 10∧k=n∧Nat.gcd m n=Nat.gcd x.natAbs y.natAbs∧m<1000000000000000000∧n<1000000000000000000) ?_ y.natAbs _ _ ?_)
  rotate_left
  ·exact⟨_,x.natAbs,y.natAbs,yZ ⟨J,J,J,trivial⟩,H.drop0.drop0.drop1.drop1.up O,J,J,hx18,hy18⟩
  rintro k F s1 ⟨G,m,n,rfl,H,rfl,hgcd,hm18,hn18⟩
  refine zC J (qv J J (fun h=>?_) (fun h=>?_))
  ·refine zC J (zC J (kE J J O (zL J (zC J (zL J (zC J (zL J (en ?_))))))))
   refine⟨m % k,Nat.mod_lt _ O,_,k,m % k,yZ ⟨J,J,by show Value.int .i64 ((m:Int).tmod (k:Int))=_;rw[tmv],trivial⟩,H,J,by rw[←hgcd,Nat.gcd_comm k,←Nat.gcd_rec,Nat.gcd_comm],hn18,by have:=Nat.mod_lt m (by omega:0<k);omega⟩
  refine zC J (zF J fc59 J (qy (of03_ok hI H.fine (K:=KX K Φ) Y Z) (fun s9 D9 n3 a3 m3 c3 Hc h103=>?_)))
  obtain⟨Φ,ku,kd,H⟩:=ko (K:=K) H Hc
  replace h103:=h103.mono kd
  clear Hc ku kd
  refine zT (vs:=[.bool _,.slice _ _ _]) H qI J J J J J O (fun s8 H=>?_)
  refine en ?_
  refine yP xO J H.own0 J ?_
  have hn0:k=0:=by omega
  subst hn0
  rw[Nat.gcd_zero_right]at hgcd
  subst hgcd
  exact⟨Φ,_,_,_,_,J,(frz1 H).up O,h103⟩
 refine zN xO J H.own1 J (vQ (vs:=[.bool _,.slice _ _ _]) H qI J J J J J O (fun s9 H=>?_))
 refine en ?_
 refine yP xO J H.own2 J ?_
 have hy0:y.natAbs=0:=by have:=h102.zero;omega
 rw[hy0,Nat.gcd_zero_right]
 exact⟨Φ,_,_,_,_,J,(frz5 H).up O,h101⟩
end Go.Proofs.YtocnbjjmmgolfaaGreat
