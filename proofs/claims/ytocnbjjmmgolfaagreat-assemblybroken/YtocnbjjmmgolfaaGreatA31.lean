/- The program: the first negative cycle (bounds.system.cycle). -/
import Derived.Test.YtocnbjjmmgolfaaGreatA30
set_option linter.unusedSimpArgs false
set_option linter.unusedVariables false
set_option linter.unusedSectionVars false
namespace Go.Proofs.YtocnbjjmmgolfaaGreat
open Go Go.M Go.Proofs.C14
theorem Rr:wM Tryz.prog 223=some (true,0,1):=by kernel_rfl
theorem EU:wM Tryz.prog 224=some (true,0,1):=by kernel_rfl
theorem Nt:wM Tryz.prog 226=some (true,0,5):=by kernel_rfl
theorem Nx:vM Tryz.f138 (Tryz.f138.body.getD .skip) 1=true:=by kernel_rfl
theorem NN:xE Tryz.prog 193=true:=by kernel_rfl
theorem NO:xE Tryz.prog 205=true:=by kernel_rfl
theorem NP:xE Tryz.prog 210=true:=by kernel_rfl
theorem NQ:xE Tryz.prog 211=true:=by kernel_rfl
theorem NR:xE Tryz.prog 212=true:=by kernel_rfl
theorem zau:ZI Tryz.prog 166 0=some 0:=by kernel_rfl
theorem AY:ZI Tryz.prog 229 0=some 0:=by kernel_rfl
theorem AZ:ZI Tryz.prog 229 1=some 1:=by kernel_rfl
theorem rT:z3 Tryz.prog 166=some (some 2):=by kernel_rfl
theorem rU:z3 Tryz.prog 224=some (none):=by kernel_rfl
theorem Fi:z3 Tryz.prog 226=some (none):=by kernel_rfl
theorem OV:z3 Tryz.prog 229=some (some 5):=by kernel_rfl
theorem sh4:z3 Tryz.prog 4=some (none):=by kernel_rfl
theorem OY:qg Tryz.prog 223=some (224,1,24,[.slice none 0 0]):=by kernel_rfl
theorem Fj:qg Tryz.prog 224=some (226,1,24,[.slice none 0 0]):=by kernel_rfl
theorem Fp:qV Tryz.prog 224=some 1:=by kernel_rfl
theorem O9:qV Tryz.prog 229=some 5:=by kernel_rfl
theorem sr:Tryz.prog.underlying 223=some (.slice 224):=by kernel_rfl
theorem P4:Tryz.prog.underlying 224=some (.slice 226):=by kernel_rfl
theorem Rv:jy Tryz.prog 229=some [.bool false,.bool false,.slice none 0 0,.bool false,.slice none 0 0]:=by kernel_rfl
section
variable(S:Int×List mY)
noncomputable def GF:Nat->Int->List ic->Option (List ic)
 |0,_,ts=>some ts
 |k+1,v,ts=>(mR S v).bind λt=>GF k (v+1) (ts.set v.toNat t)
noncomputable def GG(bj:Int):Nat->Int->List ic->Option (List ic)
 |0,_,ts=>some ts
 |k+1,v,ts=>(ae ts v).bind λt=>(ae t (bj-1)).bind λw=>(td S w).bind λa=>(app t [a]).bind λt'=>GG bj k (v+1) (ts.set v.toNat t')
noncomputable def Am(bj:Int):Nat->Int->List ic->Option Bool
 |0,_,_=>some false
 |k+1,v,ts=>(ae ts v).bind λt=>(ae t bj).bind λw=>(ae w v).bind λe=>if e.1=true then(qA e.2).bind λr=>if r<0 then some true else Am bj k (v+1) ts else Am bj k (v+1) ts
noncomputable def GH:Nat->Nat->List ic->Option (Nat×List ic)
 |0,q,ts=>some (q,ts)
 |k+1,q,ts=>(GG S ((q:Int)+1) S.1.toNat 0 ts).bind λa=>(Am ((q:Int)+1) S.1.toNat 0 a).bind λb=>if b=true then some (q+1,a)else GH k (q+1) a
noncomputable def oh(bj:Int)(ts:List ic):Nat->Int->List Int->Option (List Int)
 |0,_,out=>some out
 |k+1,v,out=>(ae ts v).bind λt=>(te S t v bj).bind λc=>if c.length=0 then oh bj ts k (v+1) out else if out.length=0 then oh bj ts k (v+1) c else(sY c out).bind λr=>if r<0 then oh bj ts k (v+1) c else oh bj ts k (v+1) out
noncomputable def I3:Option (List Int):=if 0<=S.1/\S.1<=32 then(GF S S.1.toNat 0 (List.replicate S.1.toNat [])).bind λts=>(GH S S.1.toNat 0 ts).bind λx=>oh S x.1 x.2 S.1.toNat 0 []else none
end
theorem S9:qt 211 32387 [uG,jX] jX λx=>td x.1 x.2:=Pe 211 _ rfl
theorem S8:qt 205 67 [S3,S3] (.int .i64) λx=>sY x.1 x.2:=HW 205 _ rfl
theorem S7:qt 193 3 [.rat] (.int .i64) λx=>qA x:=ow
set_option maxHeartbeats 4000000 in
set_option maxRecDepth 10000 in
theorem ou:qt 138 200000000 [uG] S3 λx=>I3 x:=by
 rintro I hI s hf U hK vs ⟨(n:Int),(l:List mY)⟩ ⟨sv,rfl,hS⟩ r e hroom
 replace e:I3 (n,l)=some r:=e
 obtain⟨⟨n0,n32⟩,e⟩:(0<=n/\n<=32)/\_=some r:=by
  unfold I3 at e
  split at e
  .next h=>exact⟨h,e⟩
  .cases e
 obtain⟨ts0,hz0,e⟩:=bind_some e
 obtain⟨⟨m1,u⟩,hz1,hz2⟩:=bind_some e
 clear e
 obtain⟨n,rfl⟩:∃k:Nat,n=(k:Int):=⟨n.toNat,by omega⟩
 rw[show(((n:Int),l):Int×List mY).1.toNat=n from Int.toNat_natCast n]at hz0 hz1 hz2
 obtain⟨c0,rfl,c1,c2,rfl,h1,h2⟩:=hS
 obtain rfl:c1=_:=h1
 obtain⟨al,cl,Ll,rfl,hl⟩:=h2
 have hl:ax U jw [.slice al l.length cl] l:=⟨al,cl,Ll,rfl,hl⟩
 have hS:∀{W:Wd},cu U W->cx W uG (.agg ⟨[.int .i64 (n:Int),.slice al l.length cl]⟩) ((n:Int),l):=λhw=>⟨_,rfl,[_],[_],rfl,rfl,hl.mono hw⟩
 rw[Nat.add_comm]at hroom
 have H:=hf.hl
 refine qz 1 (hI 138) Tryz.func138 rfl Nx rfl ?_
 refine zh (QO H rfl Oz (λO s1 H=>?_))
 refine zQ (zb (n7 (zh (zD zau rfl (ye fu rfl H.own0 rfl (zam (a:=n) (b:=n) H OY rfl rfl (aN _) Oz Oz (λbt s2 H=>?_)))))))
 rw[rz]at H
 refine yv rfl (zb (zO (zh (zD zau rfl (ye fu rfl H.own1 rfl (wJ (zb (yn (kM (λk F s1=>∃(G:FF) (i m:Nat) (es:List (au×Value)) (Φ:au) (ts:List ic),F=fT G [(1,.pointer (some ⟨O,0,none⟩)),(3,.slice (some ⟨bt,0,none⟩) n (2*n)),(19,.int .i64 (n:Int)),(20,.int .i64 (i:Int))]/\HL [] s s1 ((bt,.cells (es.map Prod.snd) 224)::(O,.cells [.int .i64 (n:Int),.slice al l.length cl] 166)::(xz es++Φ)) m/\m<=2+i*3/\i<=n/\k=n-i/\iv (U.x Φ) es ts/\ts.length=n/\(∀v,i<=v->es.getD v E0=E0)/\GF (n,l) (n-i) i ts=some ts0) ?_ n _ _ ?_)))))))))
 rotate_left
 .refine⟨_,0,2,List.replicate n E0,[],List.replicate n [],slots ⟨rfl,rfl,rfl,rfl,trivial⟩,?_,by omega,by omega,by omega,iv.nil n,by simp,λv _=>?_,hz0⟩
  .rw[lB];exact H
  .rw[aB,List.getElem?_replicate];split<;>rfl
 rintro k F s1 ⟨G,i,m,es,Φ,ts,rfl,H,hm,hi,rfl,p,z,hE0,e⟩
 refine zh (kw rfl rfl (λh=>?_) (λh=>?_))
 .refine zb (zO (yI rfl (yq (zn (zO (yn (zh (zg rfl (yb rfl (zb (zW ?_)))))))))))
  refine zC rfl (zg rfl (qo rT rfl H.own1 rfl (zg rfl ?_)))
  rw[show n-i=(n-(i+1))+1 by omega,GF]at e
  obtain⟨t,ht,e⟩:=bind_some e
  rw[Int.toNat_natCast]at e
  refine yo rfl NP rfl ?_
  obtain⟨_,s9,hr,a,n9,cap,D,R,rfl,H',ho⟩:=Av hI H.fine (hK.x H (D:=Φ) Z8) (hS xJ) ht (H.rm Oz)
  refine⟨_,_,hr,?_⟩
  clear hr
  have hie:i<es.length:=by rw[p.len];omega
  have H:=HX (w:=.slice a n9 cap) (H.callE H') hie (hE0 i (aN _))
  refine yd Rr rfl rfl Oz Oz (xp (vs:=[.slice a n9 cap]) H Fp rfl rfl rfl rfl (c':=(es.set i (D,.slice a n9 cap)).map Prod.snd) (by rw[Int.toNat_natCast,cG,cB];exact uv (vl:=undef) hie) Oz (λs8 H=>?_))
  refine zb (xb (zn (zW (xU rfl rfl (by unfold xc;omega) (zg rfl (zb (yB (⟨n-(i+1),by omega,_,i+1,_,_,Φ++R,ts.set i t,slots ⟨rfl,rfl,rfl,rfl,trivial⟩,H,by omega,by omega,rfl,?_,by rw[bR];exact z,λv hv=>?_,e⟩))))))))
  .exact(p.mono (vK (List.subset_append_left _ _))).set Oz (ho.mono (uV (List.subset_append_left _ _) (dK _ _)))
  .rw[wB hie,aD Oz];exact hE0 v Oz
 obtain rfl:i=n:=by omega
 rw[Nat.sub_self,GF]at e
 obtain rfl:=dD e
 clear e hz0 hE0
 refine zb (zO (yh rfl (qr (xD (xq (xF (zn (zh (zQ (zb (zO ?_)))))))))))
 refine n5 (zn (zO (aI.mono (Q:=λo=>∃(G:FF) (m:Nat) (es:List (au×Value)) (Φ:au) (F:FF) (s1:St),o=.normal F s1/\F=fT G [(1,.pointer (some ⟨O,0,none⟩)),(3,.slice (some ⟨bt,0,none⟩) i (2*i)),(5,.int .i64 (m1:Int))]/\HL [] s s1 ((bt,.cells (es.map Prod.snd) 224)::(O,.cells [.int .i64 (i:Int),.slice al l.length cl] 166)::(xz es++Φ)) m/\m<=40000000/\iv (U.x Φ) es u/\u.length=i) ?_ ?_)))
 rotate_left
 .rintro _ ⟨G,m,es,Φ,F,s1,rfl,rfl,H,hm,p,z⟩
  refine zn (zh (zQ (zb (zO (zh (zC rfl (qT sr rfl rfl rfl (wJ (zb ?_)))))))))
  have P:∀v,v<i->∃a k,zH (es.map Prod.snd) v=some (.slice a (u.getD v []).length k)/\ax (U.x (xz es++Φ)) WE [.slice a (u.getD v []).length k] (u.getD v []):=λv hv=>by
   have hve:v<es.length:=by rw[p.len];omega
   obtain⟨a,n9,cap,hsl,ho⟩:=p.own v Oz
   have hn:=ho.1
   subst hn
   exact⟨a,cap,by rw[zN,gZ hve,hsl],ho.rep (dK _ _) ((jR hve).trans (List.subset_append_left _ _))⟩
  have H0:=H
  have hh:(es.map Prod.snd).length=i:=by rw[bI,p.len,z]
  clear H p
  revert H0 P hh
  generalize es.map Prod.snd=cs
  generalize xz es++Φ=Φ
  intro P H hh
  refine yn (kM (λk F s1=>∃(G:FF) (v m:Nat) (Φ:au) (a0:Option Addr) (k0:Nat) (out:List Int),F=fT G [(1,.pointer (some ⟨O,0,none⟩)),(5,.int .i64 (m1:Int)),(11,.slice a0 out.length k0),(80,.slice (some ⟨bt,0,none⟩) i (2*i)),(81,.int .i64 (i:Int)),(82,.int .i64 (v:Int))]/\HL [] s s1 ((bt,.cells cs 224)::(O,.cells [.int .i64 (i:Int),.slice al l.length cl] 166)::Φ) m/\m<=40000000+v*2000100/\v<=i/\k=i-v/\(∀v,v<i->∃a k,zH cs v=some (.slice a (u.getD v []).length k)/\ax (U.x Φ) WE [.slice a (u.getD v []).length k] (u.getD v []))/\ax (U.x Φ) S3 [.slice a0 out.length k0] out/\oh ((i:Int),l) (m1:Int) u (i-v) v out=some r) ?_ i _ _ ?_)
  rotate_left
  .exact⟨_,0,m,Φ,none,0,[],slots ⟨rfl,rfl,rfl,rfl,rfl,rfl,trivial⟩,H,bK hm (Nat.le_add_right _ _),by omega,by omega,P,⟨none,0,[],rfl,.inr (.nil 0 rfl rfl),rfl,λk x h=>nomatch h⟩,hz2⟩
  clear H hm P
  rintro k F s1 ⟨G,v,m,Φ,a0,k0,out,rfl,H,hm,hv,rfl,P,K,e⟩
  refine zh (kw rfl rfl (λh2=>?_) (λh2=>?_))
  .rw[show i-v=(i-(v+1))+1 by omega,oh]at e
   obtain⟨t,ht,e⟩:=bind_some e
   obtain⟨c,hc,e⟩:=bind_some e
   obtain⟨a,k9,hg9,M⟩:=P v Oz
   obtain⟨_,_,L⟩:=zaH (d:=[]) ht
   rw[Int.toNat_natCast]at L
   rw[L]at hg9 M
   have hgg:zH cs (0+(v:Int).toNat*1)=some (.slice a t.length k9):=by rw[Int.toNat_natCast,cG,cB];exact hg9
   refine zb (zO (yI rfl (yq (zn (zO (yn (zh (zg rfl (yd Rr rfl rfl Oz Oz (ye rU rfl H.own0 hgg (yb rfl ?_)))))))))))
   refine yv rfl (zb (zh (qo rT rfl H.own1 rfl (zC rfl (zg rfl (zg rfl (yo rfl NR rfl (jU (oV hI H.fine (hK.x H (D:=Φ) Z8) (hS xJ) M hc (H.rm Oz)) (λv9 s9 D9 Hc J=>?_)))))))))
   obtain⟨E,ku,kd,H⟩:=ZM (U:=U) (A:=[]) [_,_] H Hc
   have H:HL [] s _ (_::_::E) _:=H
   have P:∀v,v<i->∃a k,zH cs v=some (.slice a (u.getD v []).length k)/\ax (U.x E) WE [.slice a (u.getD v []).length k] (u.getD v []):=λv hv=>by
    obtain⟨a,k,h1,h2⟩:=P v hv
    exact⟨a,k,h1,ax.mono (τ:=WE) ku h2⟩
   replace K:=ax.mono (τ:=S3) ku K
   replace J:ax (U.x E) S3 [v9] c:=ax.mono (τ:=S3) kd J
   clear ku kd Hc M
   obtain⟨ac,kc,Lc,hce,hSc⟩:=J
   cases hce
   have hcR:ax (U.x E) S3 [.slice ac c.length kc] c:=⟨ac,kc,Lc,rfl,hSc⟩
   clear hSc
   refine yv rfl (zb (zh (zC rfl (qT Xf rfl rfl rfl (R9 rfl rfl (λh3=>?_) (λh3=>?_))))))
   .rw[aD Oz]at e
    refine xw rfl (zC rfl (qT Xf rfl rfl rfl (Xv rfl rfl (λh4=>?_) (λh4=>?_))))
    .rw[aG Oz]at e
     refine xw rfl (xB rfl (xB rfl (xB rfl (xB rfl (me rfl (vQ rfl rfl (zb (yI rfl (zW (zC rfl (yv rfl ?_)))))))))))
     refine zb (xb (zn (zW (xU rfl rfl (by unfold xc;omega) (zg rfl (zb (yB ?_)))))))
     exact⟨i-(v+1),by omega,_,v+1,_,E,ac,kc,c,slots ⟨rfl,rfl,rfl,rfl,rfl,rfl,trivial⟩,H,by omega,by omega,rfl,P,hcR,e⟩
    rw[aD Oz]at e
    obtain⟨r9,hr9,e⟩:=bind_some e
    refine xw rfl (zC rfl (zC rfl (yo rfl NO rfl (jU (S8 hI H.fine (hK.x H (D:=E) Z8) (x:=(c,out)) ⟨_,_,rfl,hcR,_,rfl,K⟩ hr9 (H.rm Oz)) (λv9 s9 D9 Hc J=>?_)))))
    obtain rfl:v9=_:=J
    have H:=H.callE Hc
    have H:=H.sub (List.sublist_append_left _ _)
    clear Hc
    refine kw rfl rfl (λh5=>?_) (λh5=>?_)
    .rw[aG h5]at e
     refine wz rfl rfl (vQ rfl rfl (zb (yI rfl (zW (zC rfl (yv rfl (zb (xb (zn (zW (xU rfl rfl (by unfold xc;omega) ?_)))))))))))
     refine zg rfl (zb (yB ?_))
     exact⟨i-(v+1),by omega,_,v+1,_,E,ac,kc,c,slots ⟨rfl,rfl,rfl,rfl,rfl,rfl,trivial⟩,H,by omega,by omega,rfl,P,hcR,e⟩
    rw[aD h5]at e
    refine wz rfl rfl (vQ rfl rfl (zb (yh rfl (yq (xb (zn (zW (xU rfl rfl (by unfold xc;omega) (zg rfl (zb (yB ?_)))))))))))
    exact⟨i-(v+1),by omega,_,v+1,_,E,a0,k0,out,slots ⟨rfl,rfl,rfl,rfl,rfl,rfl,trivial⟩,H,by omega,by omega,rfl,P,K,e⟩
   .rw[aG Oz]at e
    refine xw rfl (xB rfl (xB rfl (xB rfl (xB rfl (xB rfl (xB rfl (xB rfl (xB rfl (xB rfl (gU rfl (zb ?_)))))))))))
    refine yh rfl (yq (xb (zn (zW (xU rfl rfl (by unfold xc;omega) (zg rfl (zb (yB ?_))))))))
    exact⟨i-(v+1),by omega,_,v+1,_,E,a0,k0,out,slots ⟨rfl,rfl,rfl,rfl,rfl,rfl,trivial⟩,H,by omega,by omega,rfl,P,K,e⟩
  obtain rfl:v=i:=by omega
  rw[Nat.sub_self,oh]at e
  obtain rfl:=dD e
  refine zb (zO (yh rfl (qr (xD (xq (xF (zn (zh (zC rfl (yv rfl (zb ?_)))))))))))
  refine qE (xA (uL ?_))
  exact⟨Φ,H.drop0.drop0.up Oz,K⟩
 refine yn (kM (λk F s1=>∃(G:FF) (q m:Nat) (es:List (au×Value)) (Φ:au) (ts:List ic),F=fT G [(1,.pointer (some ⟨O,0,none⟩)),(3,.slice (some ⟨bt,0,none⟩) i (2*i)),(5,.int .i64 (q:Int))]/\HL [] s s1 ((bt,.cells (es.map Prod.snd) 224)::(O,.cells [.int .i64 (i:Int),.slice al l.length cl] 166)::(xz es++Φ)) m/\m<=200+q*1200000/\q<=i/\k=i-q/\iv (U.x Φ) es ts/\ts.length=i/\GH ((i:Int),l) (i-q) q ts=some (m1,u)) ?_ i _ _ ?_)
 rotate_left
 .exact⟨_,0,m,es,Φ,ts,slots ⟨rfl,rfl,rfl,trivial⟩,H,by omega,by omega,by omega,p,z,hz1⟩
 clear H hm p hz1 z hi h ts es Φ m
 rintro k F s1 ⟨G,q,m,es,Φ,ts,rfl,H,hm,hi,rfl,p,z,e⟩
 refine zO (zh (zg rfl (zD zau rfl (ye fu rfl H.own1 rfl (kw rfl rfl (λh=>?_) (λh=>?_))))))
 .refine zb (yI rfl (yq (zn (yn (zh (zg rfl (xU rfl rfl (by unfold xc;omega) (yb rfl (zb (zO (zh ?_)))))))))))
  refine zC rfl (qT sr rfl rfl rfl (wJ (zb ?_)))
  rw[show i-q=(i-(q+1))+1 by omega,GH]at e
  obtain⟨ts2,g,e⟩:=bind_some e
  obtain⟨bb,f,e⟩:=bind_some e
  rw[show(((i:Int),l):Int×List mY).1.toNat=i from Int.toNat_natCast i]at g f
  refine yn (kM (λk F s1=>∃(G:FF) (j m:Nat) (es:List (au×Value)) (Φ:au) (ts:List ic),F=fT G [(1,.pointer (some ⟨O,0,none⟩)),(3,.slice (some ⟨bt,0,none⟩) i (2*i)),(5,.int .i64 ((q:Int)+1)),(36,.slice (some ⟨bt,0,none⟩) i (2*i)),(37,.int .i64 (i:Int)),(38,.int .i64 (j:Int))]/\HL [] s s1 ((bt,.cells (es.map Prod.snd) 224)::(O,.cells [.int .i64 (i:Int),.slice al l.length cl] 166)::(xz es++Φ)) m/\m<=200+q*1200000+j*32400/\j<=i/\k=i-j/\iv (U.x Φ) es ts/\ts.length=i/\GG ((i:Int),l) ((q:Int)+1) (i-j) j ts=some ts2) ?_ i _ _ ?_)
  rotate_left
  .exact⟨_,0,m,es,Φ,ts,slots ⟨rfl,rfl,rfl,rfl,rfl,rfl,trivial⟩,H,bK hm (Nat.le_add_right _ _),by omega,by omega,p,z,g⟩
  .clear H hm p g
   rintro k F s1 ⟨G,j,m,es,Φ,ts,rfl,H,hm,hj,rfl,p,z,g⟩
   refine zh (kw rfl rfl (λh2=>?_) (λh2=>?_))
   .refine zb (zO (yI rfl (yq (zn (zO (yn ?_))))))
    rw[show i-j=(i-(j+1))+1 by omega,GG]at g
    obtain⟨t,ht,g⟩:=bind_some g
    obtain⟨w,hw,g⟩:=bind_some g
    obtain⟨nx,hnx,g⟩:=bind_some g
    obtain⟨t',ht',g⟩:=bind_some g
    have Z:j<es.length:=by rw[p.len];omega
    obtain⟨_,_,L⟩:=zaH (d:=[]) ht
    rw[Int.toNat_natCast]at g L
    obtain⟨a,n9,cap,hsl,ho⟩:=p.own j Oz
    rw[L]at ho
    have Y:zH (es.map Prod.snd) (0+(j:Int).toNat*1)=some (.slice a n9 cap):=by rw[Int.toNat_natCast,cG,cB,zN,gZ Z,hsl]
    obtain⟨b,c,C,rfl,hD,hq0,hq1,hC,M⟩:=p9 ho hw
    obtain⟨a2,k2,L2,rfl,V⟩:=M
    have M:ax (U.x Φ) jX [.slice a2 w.length k2] w:=⟨a2,k2,L2,rfl,V⟩
    clear V
    have N:(b,ak.cells c 226)∈xz es:=jR Z (by rw[hD];exact bC.mpr rfl)
    have hgb:=(H.own (b,.cells c 226) (by simp[N])).1
    have hlb:=(H.own (b,.cells c 226) (by simp[N])).2.1
    have hlb:b<zA:=by have:=H.most;omega
    refine zh (zg rfl (yd Rr rfl rfl Oz Oz (ye rU rfl H.own0 Y (yb rfl (yv rfl (zb (uz [⟨0,0,.light,[3,8]⟩,⟨1,0,.light,[3,8]⟩,⟨2,0,.light,[3,8]⟩,⟨3,0,.light,[8]⟩,⟨4,0,.light,[3]⟩,⟨5,0,.light,[3]⟩,⟨6,32,.light,[3]⟩,⟨7,112,.light,[3]⟩,⟨8,240,.light,[3]⟩,⟨9,504,.whole,[]⟩,⟨10,1016,.whole,[]⟩,⟨11,2044,.whole,[]⟩,⟨12,4095,.light,[]⟩,⟨13,8191,.whole,[]⟩] Z0 Z0 (za rfl rfl (zC rfl ⟨rfl,(za rfl rfl (zg rfl ⟨rfl,(za rfl rfl (zC rfl ⟨rfl,(ve rfl rfl rT rfl H.own1 (H.lim1 Oz) rfl ?_)⟩))⟩))⟩)))))))))
    refine za rfl rfl (zC rfl ⟨rfl,(za rfl rfl (zg rfl ⟨rfl,(za rfl rfl (wi rfl rfl (by unfold xc;omega) ⟨rfl,(za rfl rfl (yd EU rfl rfl hq0 hq1 ⟨rfl,(yH rfl rfl Fi rfl hgb hlb (qx hC) (RE rfl rfl rfl H (yo rfl NQ rfl (jU (S9 hI H.fine (hK.x H (D:=Φ) Z8) (x:=(((i:Int),l),w)) ⟨_,_,rfl,hS xJ,_,rfl,M⟩ hnx (H.rm Oz)) (λv9 s9 D9 Hc J=>?_)))))⟩))⟩))⟩))⟩)
    obtain⟨E,ku,kd,H⟩:=ZM (U:=U) (A:=xz es) [_,_] H Hc
    refine⟨⟨_,_,H⟩,?_⟩
    replace p:=p.mono ku
    replace ho:=ho.mono ku
    replace J:=cx.mono kd J
    clear ku kd Hc M
    obtain⟨a3,k3,L3,he3,hS3⟩:=J
    rw[List.cons.injEq]at he3
    obtain rfl:=he3.1
    have M:ax (U.x E) jX [.slice a3 nx.length k3] nx:=⟨a3,k3,L3,rfl,hS3⟩
    clear hS3 he3
    refine RE rfl rfl rfl H (xO (c:=[.slice a3 nx.length k3]) H Fj rfl rfl Oz (λb53 s10 H=>?_))
    refine⟨⟨_,_,H⟩,?_⟩
    have hgt:=H.own0
    have H:=zaL (es:=es) (a:=j) H.drop0 Z
    refine RE rfl rfl rfl H (gV (X:=[[.slice a3 nx.length k3]]) H ho ht' Fj P4 rfl rfl rfl (qD hgt rfl) rfl Uz rfl (λk y h=>by obtain⟨rfl,rfl⟩:=GV h;exact M) Uz Oz (λa5 T b31 c5 s38 H ho=>?_))
    refine⟨⟨_,_,H⟩,?_⟩
    have H:=GP (B:=[_]) (v:=.slice a5 t'.length T) H Z
    refine za rfl rfl (yd Rr rfl rfl Oz Oz ⟨rfl,(RE rfl rfl rfl H (xp (vs:=[.slice a5 t'.length T]) H Fp rfl rfl rfl rfl (c':=(es.set j ([(b31,.cells c5 226)],.slice a5 t'.length T)).map Prod.snd) (by rw[Int.toNat_natCast,cG,cB];exact uv (vl:=undef) Z) Oz (λs8 H=>?_)))⟩)
    refine⟨⟨_,_,H⟩,(yS (xb (zn (zW (xU rfl rfl (by unfold xc;omega) (zg rfl (zb (yB ?_))))))))⟩
    exact⟨i-(j+1),by omega,_,j+1,_,_,E,ts.set j t',slots ⟨rfl,rfl,rfl,rfl,rfl,rfl,trivial⟩,H,by omega,by omega,rfl,p.set Oz ho,by rw[bR];exact z,g⟩
   obtain rfl:j=i:=by omega
   rw[Nat.sub_self,GG]at g
   obtain rfl:=dD g
   clear g
   refine zb (zO (yh rfl (qr (xD (xq (xF (zn (zh (zC rfl (qT sr rfl rfl rfl (wJ ?_)))))))))))
   refine zb (yn (kM (λk F s1=>∃(G:FF) (v m:Nat) (Φ:au),F=fT G [(1,.pointer (some ⟨O,0,none⟩)),(3,.slice (some ⟨bt,0,none⟩) j (2*j)),(5,.int .i64 ((q:Int)+1)),(57,.slice (some ⟨bt,0,none⟩) j (2*j)),(58,.int .i64 (j:Int)),(59,.int .i64 (v:Int))]/\HL [] s s1 ((bt,.cells (es.map Prod.snd) 224)::(O,.cells [.int .i64 (j:Int),.slice al l.length cl] 166)::(xz es++Φ)) m/\m<=200+q*1200000+1036800+v*10/\v<=j/\k=j-v/\iv (U.x Φ) es ts/\Am ((q:Int)+1) (j-v) v ts=some bb) ?_ j _ _ ?_))
   rotate_left
   .exact⟨_,0,m,Φ,slots ⟨rfl,rfl,rfl,rfl,rfl,rfl,trivial⟩,H,by omega,by omega,by omega,p,f⟩
   clear H hm p f
   rintro k F s1 ⟨G,v,m,Φ,rfl,H,hm,hv,rfl,p,f⟩
   refine zh (kw rfl rfl (λh3=>?_) (λh3=>?_))
   .refine zb (zO (yI rfl (yq (zn (zO (yn ?_))))))
    rw[show j-v=(j-(v+1))+1 by omega,Am]at f
    obtain⟨t,ht,f⟩:=bind_some f
    obtain⟨w,hw,f⟩:=bind_some f
    obtain⟨⟨e1,e2⟩,he,f⟩:=bind_some f
    have hve:v<es.length:=by rw[p.len];omega
    obtain⟨_,_,L⟩:=zaH (d:=[]) ht
    rw[Int.toNat_natCast]at L
    obtain⟨a,n9,cap,hsl,ho⟩:=p.own v Oz
    rw[L]at ho
    have Y:zH (es.map Prod.snd) (0+(v:Int).toNat*1)=some (.slice a n9 cap):=by rw[Int.toNat_natCast,cG,cB,zN,gZ hve,hsl]
    obtain⟨b,c,C,rfl,hD,hq0,hq1,hC,M⟩:=p9 ho hw
    obtain⟨a2,k2,L2,rfl,V⟩:=M
    have M:ax (U.x Φ) jX [.slice a2 w.length k2] w:=⟨a2,k2,L2,rfl,V⟩
    clear V
    have N:(b,ak.cells c 226)∈xz es:=jR hve (by rw[hD];exact bC.mpr rfl)
    have hgb:=(H.own (b,.cells c 226) (by simp[N])).1
    have hKx:et _ (U.x Φ):=hK.x H (D:=Φ) Z8
    obtain⟨b2,off2,rfl,hw0,hw1⟩:=M.at hKx he
    obtain⟨c2,C2,hg2,hb2,hc2,hC2⟩:=M.cells hKx he
    have hl5:C2.length=5:=ax.len (τ:=F9) hC2
    have hp5:=ax.plain (τ:=F9) hC2
    obtain⟨d1,d2,rfl,hd1,hd2⟩:=hC2
    obtain rfl:d1=_:=hd1
    have hl4:d2.length=4:=ax.len (τ:=.rat) hd2
    refine zh (zg rfl (yd Rr rfl rfl Oz Oz (ye rU rfl H.own0 Y (yb rfl (yv rfl (zb (zh (zC rfl (zg rfl (yd EU rfl rfl hq0 hq1 (ye Fi rfl hgb (qx hC) ?_)))))))))))
    refine zg rfl (yd Nt rfl rfl hw0 hw1 (qo OV rfl hg2 hc2 (xT H Rv Oz (λb10 s8 H=>?_))))
    refine xp (vs:=[.bool e1]++d2) H O9 rfl rfl (xo hl5) hp5 (yM (by rw[hl5];rfl)) Oz (λs9 H=>?_)
    refine zb (zh (zD AY rfl (ye sh4 rfl H.own0 rfl (xw rfl ?_))))
    cases e1 with
    |true=>
     rw[aG rfl]at f
     obtain⟨r9,hr9,f⟩:=bind_some f
     refine zD AZ rfl (qo HK rfl H.own0 (show y8 4 (xr (0+1) ([.bool true]++d2))=some d2 from xH hl4) (yo rfl NN rfl (jU (S7 hI H.fine (hK.x H (D:=Φ) Z8) (x:=e2) ⟨_,rfl,_,rfl,hd2⟩ hr9 (H.rm Oz)) (λv9 s9 D9 Hc J=>?_))))
     obtain rfl:v9=_:=J
     have H:=H.callE Hc
     have H:=H.sub (List.sublist_append_left _ _)
     clear Hc
     refine kw rfl rfl (λh4=>?_) (λh4=>?_)
     .rw[aG h4]at f
      obtain rfl:=dD f
      rw[aG rfl]at e
      obtain⟨rfl,rfl⟩:=Prod.mk.inj (dD e)
      refine vQ rfl rfl (zb (yI rfl (qr (VW rfl (xD (xq (VW rfl (VW rfl (xq (xF ?_))))))))))
      exact⟨_,_,es,Φ,_,_,rfl,slots ⟨rfl,rfl,rfl,trivial⟩,H.drop0,by omega,p,z⟩
     rw[aD h4]at f
     refine vQ rfl rfl (zb (yh rfl (yq (xb (zn (zW (xU rfl rfl (by unfold xc;omega) (zg rfl (zb (yB ?_))))))))))
     exact⟨j-(v+1),by omega,_,v+1,_,Φ,slots ⟨rfl,rfl,rfl,rfl,rfl,rfl,trivial⟩,H.drop0,by omega,by omega,rfl,p,f⟩
    |false=>
     rw[aD Bool.false_ne_true]at f
     refine xB rfl (xB rfl (xB rfl (xB rfl (gU rfl (zb (yh rfl (yq (xb (zn (zW (xU rfl rfl (by unfold xc;omega) ?_)))))))))))
     refine zg rfl (zb (yB ?_))
     exact⟨j-(v+1),by omega,_,v+1,_,Φ,slots ⟨rfl,rfl,rfl,rfl,rfl,rfl,trivial⟩,H.drop0,by omega,by omega,rfl,p,f⟩
   obtain rfl:v=j:=by omega
   rw[Nat.sub_self,Am]at f
   obtain rfl:=dD f
   rw[aD Uz]at e
   refine zb (zO (yh rfl (qr (xD (xq (xF (xb (yB ?_))))))))
   exact⟨v-(q+1),by omega,_,q+1,_,es,Φ,ts,slots ⟨rfl,rfl,rfl,trivial⟩,H,by omega,by omega,rfl,p,z,e⟩
 obtain rfl:q=i:=by omega
 rw[Nat.sub_self,GH]at e
 obtain⟨rfl,rfl⟩:=Prod.mk.inj (dD e)
 refine zb (yh rfl (qr (xD (xq (xF ?_)))))
 exact⟨_,_,es,Φ,_,_,rfl,slots ⟨rfl,rfl,rfl,trivial⟩,H,by omega,p,z⟩
end Go.Proofs.YtocnbjjmmgolfaaGreat
