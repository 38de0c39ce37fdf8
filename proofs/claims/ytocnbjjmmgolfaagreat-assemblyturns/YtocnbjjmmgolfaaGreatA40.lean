/- The program: the search for a way and a turn vH the tree fits. -/
/- The program: the way and the turn from a piece to another one. -/
/- The program: a tree fit into the forest. -/
/- slices.Sort, for short lists of numbers. -/
import Derived.Test.YtocnbjjmmgolfaaGreatA39
namespace Go.Proofs.YtocnbjjmmgolfaaGreat
open Go Go.M Go.Proofs.C14
theorem el92:elemF Tryz.prog 92=some (false,12,1):=by kernel_rfl
theorem fb104:xK Tryz.f104 (Tryz.f104.body.getD .skip) 7=true:=by kernel_rfl
theorem fc104:xJ Tryz.prog 104=true:=by kernel_rfl
theorem fc105:xJ Tryz.prog 105=true:=by kernel_rfl
theorem fc67:xJ Tryz.prog 67=true:=by kernel_rfl
theorem of94_0:wZ Tryz.prog 94 0=some 0:=by kernel_rfl
theorem of94_1:wZ Tryz.prog 94 1=some 1:=by kernel_rfl
theorem sh145:qw Tryz.prog 145=some (none):=by kernel_rfl
theorem sh91:qw Tryz.prog 91=some (none):=by kernel_rfl
def PostK1(K:Kw)(s:St)(bW:Nat)(W:List Nat)(k:Nat)(r0:List Nat)(r:Option (List Nat))(q:Q2)(v:Value)(s':St):Prop:=∃(D':Hp') (vw':Value) (D:Hp') (t8:List Value),v=.tuple ⟨[.agg ⟨t8⟩,.bool r.isSome]⟩∧HL W s s' ((bW,.cells [vw'] 22)::(D'++D)) k∧Wy D' vw' (r0++r.getD [])∧VecK (KX K D) t8 q.1 q.2 244140625 244140625
theorem pow_step{f:Nat}(h7:f+1≤7):25 ^ (7-(f+1))*25=25 ^ (7-f):=by rw[show 7-f=(7-(f+1))+1 by omega,Nat.pow_succ]
set_option maxHeartbeats 4000000 in
set_option maxRecDepth 10000 in
theorem walk1_ok{I:xP}(hI:xA I){bTo bT bW bS bt:Nat}{vl:Value}{cF:List Value}{va:Int→Value}{l:List Ft}{T:Nat→Q2}{tr:List Nat}{w:Int}(hE:Ends l)(hlt:∀k∈tr,k<l.length)(h6:tr.length≤6)(hc0:qG cF 0=some vl)(hcv:∀v:Int,0≤v→v<12→qG cF (1+v.toNat)=some (va v)):∀(f:Nat) (hf7:f≤7) {s:St} (hf:Fine s) {K:Kw} {Dw:Hp'} {vw:Value} {r0:List Nat} (HA:HL (bW::Dw.map Prod.fst) s s ((bW,.cells [vw] 22)::Dw) 0) (hwy:Wy Dw vw r0) (hr0:r0.length+f≤20) (hK:KnW s (bW::Dw.map Prod.fst) K) (hst:Sts s (bW::Dw.map Prod.fst) (Stat bTo bT bW bS bt vl cF va l tr w)) (hF:FtsK K l T) {at_ last:Int} (h0:0≤at_) (h1:at_<12) {t:Q2} {n1:Bool} {a1:Option Addr} {m1 c1:Nat} {n2:Bool} {a2:Option Addr} {m2 c2:Nat} {n3:Bool} {a3:Option Addr} {m3 c3:Nat} {n4:Bool} {a4:Option Addr} {m4 c4:Nat} (ht:Tn (25 ^ (7-f)) t) (hX:RatK K n1 a1 m1 c1 n2 a2 m2 c2 t.1 (25 ^ (7-f)) (25 ^ (7-f))) (hY:RatK K n3 a3 m3 c3 n4 a4 m4 c4 t.2 (25 ^ (7-f)) (25 ^ (7-f))) (hTm:Tm (ends l) tr f at_ last) (hroom:s.next+cost 110000 f≤yC),
  ∃v' s',xN Tryz.prog I 104 #[.int .i64 at_,.int .i64 last,.agg ⟨[.bool n1,.slice a1 m1 c1,.bool n2,.slice a2 m2 c2,.bool n3,.slice a3 m3 c3,.bool n4,.slice a4 m4 c4]⟩,.pointer (some ⟨bTo,0,none⟩),.pointer (some ⟨bT,0,none⟩),.pointer (some ⟨bW,0,none⟩),.pointer (some ⟨bS,0,none⟩)] s v' s'∧PostK1 K s bW (bW::Dw.map Prod.fst) (cost 110000 f) r0 (dfs (ends l) tr f at_ w last) (wres (ends l) T at_ t (dfs (ends l) tr f at_ w last)) v' s':=by
 intro f
 induction f
 case zero=>intro _ s _ K Dw vw r0 _ _ _ _ _ _ at_ last _ _ t n1 a1 m1 c1 n2 a2 m2 c2 n3 a3 m3 c3 n4 a4 m4 c4 _ _ _ h;exact absurd h id
 rename_i f ih
 intro hf7 s hf K Dw vw r0 HA hwy hr0 hK hst hF at_ last h0 h1 t n1 a1 m1 c1 n2 a2 m2 c2 n3 a3 m3 c3 n4 a4 m4 c4 ht hX hY hTm hroom
 rw[Nat.add_comm]at hroom
 have hcs:cost 110000 (f+1)=7*110000+6*cost 110000 f:=by simp only[cost];omega
 have H:HL (bW::Dw.map Prod.fst) s s ((bW,.cells [vw] 22)::(Dw++[])) 0:=by rw[List.append_nil];exact HA
 have hb2S:=(hst _ _ _ HA).lS
 obtain⟨al,ll,cl,hvle,hll⟩:=(hst _ _ _ HA).sl.isSlice
 subst hvle
 rw[List.length_map]at hll
 subst hll
 replace hX:=hX.mono (zZ (D:=[]))
 replace hY:=hY.mono (zZ (D:=[]))
 refine zX 7 (hI 104 U U) Tryz.func104 J fb104 J ?_
 refine zE (zY H J O (fun b9 s1 H=>?_))
 refine zS H zf36 O (fun b10 s2 H=>?_)
 refine zG (zD (yE (zE (zC J (zJ sh3 J (hst _ _ _ H).gTo J (qh J J (fun h=>?_) (fun h=>?_)))))))
 ·refine zD (yJ rfl (zE (zN kU J H.own1 J (zT (vs:=[.bool _,.slice _ _ _,.bool _,.slice _ _ _,.bool _,.slice _ _ _,.bool _,.slice _ _ _]) H jo J J J J J O (fun s3 H=>?_)))))
  refine zG (zD (yO (xI (yB (end_ct kU J H.own0 J J ?_)))))
  rw[dfs,if_pos (by omega)]
  refine⟨Dw,vw,[],_,J,H.drop0.drop0.up (by omega),by rw[Option.getD_some,List.append_nil];exact hwy,?_⟩
  have hp6:=pow6 (show 7-(f+1)≤6 by omega)
  exact VecK.of (hX.le hp6 hp6) (hY.le hp6 hp6)
 refine zD (yL rfl (yN (zR (yE ?_))))
 have hva:=(hst _ _ _ H).adj at_ h0 h1
 obtain⟨aa,na,ca,hve,hna⟩:=hva.isSlice
 rw[List.length_map,qT]at hna
 subst hna
 have hvw:¬at_=w:=by omega
 have hal:=adj_len (e:=ends l) (tr:=tr) (v:=at_)
 have hvl:∀s9,SlD s9 (va at_) (ki (adj (ends l) tr at_))→SlD s9 (.slice aa (adj (ends l) tr at_).length ca) (ki (adj (ends l) tr at_)):=fun s9 h=>by rw[←hve];exact h
 refine zE (zJ sh91 J (hst _ _ _ H).gT J (zC J (wH J (zB of94_1 J (vR el92 J J O O (zJ xQ J (hst _ _ _ H).gF (by rw[show 0+1+at_.toNat*1=1+at_.toNat by omega];exact hcv at_ h0 h1) ?_))))))
 refine yF xV J J hve (kB (zD (yR (xR (fun k F s1=>∃(G:FF) (i m:Nat) (vw2:Value) (Dw2 Φ:Hp'),F=lay G [(0,.int .i64 at_),(1,.int .i64 last),(3,.pointer (some ⟨bTo,0,none⟩)),(4,.pointer (some ⟨bT,0,none⟩)),(5,.pointer (some ⟨bW,0,none⟩)),(6,.pointer (some ⟨bS,0,none⟩)),(9,.pointer (some ⟨b9,0,none⟩)),(10,.pointer (some ⟨b10,0,none⟩)),(28,.slice aa (adj (ends l) tr at_).length ca),(29,.int .i64 ((adj (ends l) tr at_).length:Int)),(30,.int .i64 (i:Int))]∧HL (bW::Dw.map Prod.fst) s s1 ((b10,.cells [.bool false,.slice none 0 0,.bool false,.slice none 0 0,.bool false,.slice none 0 0,.bool false,.slice none 0 0] 36)::(b9,.cells [.bool n1,.slice a1 m1 c1,.bool n2,.slice a2 m2 c2,.bool n3,.slice a3 m3 c3,.bool n4,.slice a4 m4 c4] 36)::(bW,.cells [vw2] 22)::(Dw2++Φ)) m∧m≤2+i*(110000+cost 110000 f)∧i≤(adj (ends l) tr at_).length∧k=(adj (ends l) tr at_).length-i∧Wy Dw2 vw2 r0∧RatK (KX K Φ) n1 a1 m1 c1 n2 a2 m2 c2 t.1 (25 ^ (7-(f+1))) (25 ^ (7-(f+1)))∧RatK (KX K Φ) n3 a3 m3 c3 n4 a4 m4 c4 t.2 (25 ^ (7-(f+1))) (25 ^ (7-(f+1)))∧(adj (ends l) tr at_).findSome? (stp (ends l) tr f at_ w last)=((adj (ends l) tr at_).drop i).findSome? (stp (ends l) tr f at_ w last)) ?_ (adj (ends l) tr at_).length _ _ ?_))))
 rotate_left
 ·exact⟨_,0,_,_,_,_,yZ ⟨J,J,J,J,J,J,J,J,hve,J,J,trivial⟩,H,by omega,by omega,by omega,hwy,hX,hY,J⟩
 rintro k F s1 ⟨G,i,m,vw2,Dw2,Φ,rfl,H,hm,hi,rfl,hwy,hX,hY,hs⟩
 refine zE (xB J J (fun h=>?_) (fun h=>?_))
 ·refine zD (yE (yJ rfl (yN (zR (yE (yR ?_))))))
  have hii:i<(adj (ends l) tr at_).length:=by omega
  obtain⟨b1,off1,c1_,he1,hg1,hb1,hc1⟩:=(hvl _ ((hst _ _ _ H).adj at_ h0 h1)).atD (i:=(i:Int)) (k:=i) rfl (by rw[qT];omega)
  subst he1
  rw[nats_getD hii]at hc1
  obtain⟨hkm,hinc⟩:=adj_mem (wM (y:=0) hii)
  have hkl:=hlt _ hkm
  generalize hkd:(adj (ends l) tr at_).getD i 0=kk at *
  have hq:=hF.fit kk hkl
  obtain⟨e0,e3,e4⟩:=hE kk hkl
  have e1:(ends l kk).1=(l.getD kk default).a:=rfl
  have e2:(ends l kk).2=(l.getD kk default).b:=rfl
  rw[e1]at e0 e3
  rw[e2]at e3 e4
  have hct:=cells_t hq
  obtain⟨n11,a11,m11,c11,n12,a12,m12,c12,n13,a13,m13,c13,n14,a14,m14,c14,eT,hX1,hY1⟩:=hq.t
  rw[eT]at hct
  replace hX1:=hX1.mono (zZ (D:=Φ))
  replace hY1:=hY1.mono (zZ (D:=Φ))
  unfold Inc at hinc
  rw[e1,e2]at hinc
  have hml:=Nat.mul_le_mul_right (110000+cost 110000 f) (show i≤5 by omega)
  refine zE (zP qn J J O O (zJ sh3 J hg1 hc1 (zL J (zD ?_))))
  obtain⟨b2,off2,c2_,he2,hg2,hb2,hc9,_,_,_⟩:=vT ((hst _ _ _ H).sl) hkl hq
  subst he2
  refine zE (zJ sh91 J (hst _ _ _ H).gT J (wH J (zB of94_0 J (zJ sh24 J (hst _ _ _ H).gF hc0 (zC J (zP el24 J J O O (zN sh40 J hg2 hc9 (zS H zf40 O (fun b14 s4 H=>?_)))))))))
  refine zT (vs:=(l.getD kk default).cells) H sz40 J J (beq_llen hq.len) hq.plain (lput_full (by rw[hq.len];rfl)) (by omega) (fun s9 H=>?_)
  refine zD (yE (zE (zC J (zC J (qh J J (fun h=>?_) (fun h=>?_))))))
  ·refine zD (yJ rfl (ql (xU (xX (zR (yA (yH J J Y (zC J (zD (xG (⟨(adj (ends l) tr at_).length-(i+1),by omega,_,i+1,_,_,_,Φ,yZ ⟨J,J,J,J,J,J,J,J,J,J,J,trivial⟩,H.drop0,by rw[Nat.add_mul,Nat.one_mul];omega,by omega,J,hwy,hX,hY,?_⟩)))))))))))
   refine vA 0 O hs ?_
   rw[hkd]
   exact stp_off (.inl O)
  refine zD (yL rfl (yN (zR (yT [⟨0,0,.light,[3]⟩,⟨1,1,.light,[3]⟩,⟨2,0,.light,[1]⟩,⟨3,4,.light,[1]⟩,⟨4,0,.whole,[1,3]⟩,⟨5,19,.light,[3]⟩,⟨6,63,.whole,[]⟩] Z0 Z0 (zA J J (zB wJ J ⟨J,(zV J J sh3 J H.own0 Y0 J (zA J J (zB of40_5 J ⟨J,(zQ J J kU J H.own0 Y0 hct (zM J J (zS (Fine.pr H.fine (xW H.lt0 (xW H.lt0 qO))).hl zf36 (H.rm (k:=1) O) (fun b16 s5 Hc=>?_))))⟩)))⟩))))))
  have H:=H.call X7
  clear Hc
  refine zA J J (zL J ⟨J,(xM (vs:=[.bool _,.slice _ _ _,.bool _,.slice _ _ _,.bool _,.slice _ _ _,.bool _,.slice _ _ _]) (fr:=[]) H J J jo J J J J J J Z2 O (fun s6 H=>?_))⟩)
  refine zU (yE (zE (zC J (zB wJ J (zJ sh3 J H.own1 J (qh J J (fun h=>?_) (fun h=>?_)))))))
  ·refine zD (yJ rfl (wT [⟨0,0,.light,[3]⟩,⟨1,1,.light,[3]⟩,⟨2,0,.light,[1]⟩,⟨3,4,.light,[1]⟩,⟨4,12,.whole,[1]⟩,⟨5,31,.light,[]⟩,⟨6,63,.whole,[]⟩] Z0 Z0 (zA J J (zB vV J ⟨J,(zV J J sh3 J H.own1 Y1 J (zA J J (zB of40_5 J ⟨J,(zQ J J kU J H.own1 Y1 hct (zM J J (zF J fc105 J (kn (backP_ok hI (Fine.pr H.fine (xW H.lt1 qO)) ((knW5 hK H).heap J Z3) hX1 hY1 Z) (fun s9 D9 n1 a1 m1 c1 n1d a1d m1d c1d n1y a1y m1y c1y n1yd a1yd m1yd c1yd Hc h101a h101b=>?_)))))⟩)))⟩))))
   have Hc:=HL.wider H.fine Z3 Z5 Hc
   obtain⟨Φ,ku,kd,H⟩:=mergeW5 (K:=K) H Hc
   try replace hX:=hX.mono ku
   try replace hY:=hY.mono ku
   try replace hX1:=hX1.mono ku
   try replace hY1:=hY1.mono ku
   replace h101a:=h101a.mono kd
   replace h101b:=h101b.mono kd
   clear Hc ku kd
   refine zA J J (zL J ⟨J,(xM (vs:=[.bool _,.slice _ _ _,.bool _,.slice _ _ _,.bool _,.slice _ _ _,.bool _,.slice _ _ _]) (fr:=[]) H J J jo J J J J J J Z2 O (fun s7 H=>?_))⟩)
   refine zU (zR (zE (zJ xQ J H.own4 J (zC J (yS (c:=[.int _ _]) H kg J J O (fun b59 s8 H=>?_))))))
   have hgt:=H.own0
   have H:=HL.mid (A:=[_,_,_,_,_]) (B:=Dw2) (C:=Φ) H.drop0
   refine op_wyPush H hwy kg xV J J J W0 O O (fun DX v9 s9 hwy H=>?_)
   obtain⟨a9,c9,rfl⟩:=hwy.isSlice
   have H:=HL.mid (A:=DX) (B:=[_,_,_,_,_]) (C:=Φ) H
   simp only[List.cons_append,List.nil_append]at H
   refine jw (vs:=[.slice _ _ _]) H sz22 J J J J J O (fun s9 H=>?_)
   refine zD (yE ?_)
   have hf2:1≤f:=by rcases f with _|f;exact absurd (hTm kk hkm O (by unfold Inc;omega)) id;omega
   have hp5:25 ^ (7-(f+1))≤9765625:=pow5 O
   have hb2:=hb2S
   refine yT [⟨0,0,.light,[3,4,10]⟩,⟨1,0,.light,[0,3,4,10]⟩,⟨2,0,.light,[0,3,4,10]⟩,⟨3,0,.light,[0,4,10]⟩,⟨4,0,.light,[0,3,10]⟩,⟨10,0,.new,[0,3,4]⟩,⟨5,24,.whole,[0,10]⟩,⟨6,63,.whole,[10]⟩,⟨7,127,.light,[10]⟩,⟨8,255,.light,[10]⟩,⟨9,255,.light,[10]⟩,⟨11,1535,.whole,[]⟩,⟨12,4095,.light,[]⟩] Z0 Z0 (zV J J sh145 J (hst _ _ _ H).gS Y7 J (zA J J (zC J ⟨J,(zA J J (zC J ⟨J,(zQ J J kU J H.own3 Y3 J (zQ J J kU J H.own0 Y0 J (dr_new J J H zf36 O (fun b17 s10 H=>?_))))⟩))⟩)))
   refine zM J J (zF J fc67 J (kn (afterP_ok hI (Fine.pr H.fine (xW X9 (xW H.lt0 qO))) ((knW6 hK H).heap J Z3) (hX.le hp5 hp5) (hY.le hp5 hp5) h101a h101b U U U U U U Z) (fun s9 D9 n2 a2 m2 c2 n2d a2d m2d c2d n2y a2y m2y c2y n2yd a2yd m2yd c2yd Hc h102a h102b=>?_)))
   have Hc:=HL.wider H.fine Z3 Z5 Hc
   obtain⟨Φ,ku,kd,H⟩:=mergeW6 (K:=K) H Hc
   try replace hX:=hX.mono ku
   try replace hY:=hY.mono ku
   try replace hX1:=hX1.mono ku
   try replace hY1:=hY1.mono ku
   replace h102a:=h102a.mono kd
   replace h102b:=h102b.mono kd
   clear Hc ku kd
   refine zM J J (zF J fc104 J ?_)
   have H2:=HL.mid (A:=[_,_,_,_,_]) (B:=_::DX) (C:=Φ) H
   have HN:=HL.narrow (D:=_::DX) (X:=[b17]) H2 (by intro q9 hq9 hin;rw[List.mem_singleton]at hin;exact(List.pairwise_cons.mp H.dist).1 q9 (by simp only[List.mem_cons,List.mem_append]at hq9 ⊢;rcases hq9 with h|h<;>simp[h]) hin.symm) (by intro p hp;rw[List.mem_singleton]at hp;subst hp;exact H.lt0)
   have eo:oth (ends l) kk at_=(l.getD kk default).a:=by unfold oth;omega
   have ho9:=hTm kk hkm O (by unfold Inc;omega)
   rw[eo]at ho9
   have ht9:Tn (25 ^ (7-f)) (aft t (bck (T kk))):=by rw[←pow_step hf7];exact ht.aft hq.tn.bck
   obtain⟨_,s9,hr,Dw3,vw3,D8,t8,rfl,Hc,hwy3,hv8⟩:=ih (by omega) HN.fine HN hwy (by rw[List.length_append,List.length_singleton];omega) ((KnW.in hK H2 (Φ:=Φ) (fun _ h=>List.mem_append_right _ h)).narrow H.fine) ((Sts.in hst H2).narrow (fun _ _ h h1 h2=>h.heap h1 h2) H.fine) (hF.mono zZ) (at_:=(l.getD kk default).a) (last:=(kk:Int)) (by omega) (by omega) ht9 ((h102a).bd ht9.bd.1) ((h102b).bd ht9.bd.2) ho9 (H.rm (by omega))
   refine⟨_,_,hr,?_⟩
   clear hr
   have H:=HL.callK (A:=_::DX) (L:=[_,_,_,_,_]++Φ) H2 X7
   clear Hc HN H2
   obtain⟨Φ,ku,kd,H⟩:=walk_merge (K:=K) H
   replace hX:=hX.mono ku
   replace hY:=hY.mono ku
   replace hv8:=hv8.mono kd
   clear ku kd
   obtain⟨n71,a71,m71,c71,n72,a72,m72,c72,n73,a73,m73,c73,n74,a74,m74,c74,rfl,h8X,h8Y⟩:=hv8
   have hst9:=stp_on (tr:=tr) (f:=f) (w:=w) (show(kk:Int)≠last by omega) (show Inc (ends l) kk at_ by unfold Inc;omega)
   rw[eo]at hst9
   rcases hd:dfs (ends l) tr f ((l.getD kk default).a) w (kk:Int)with _|r9
   ·rw[hd]at hwy3 h8X h8Y
    simp only[Option.getD_none,Option.getD_some]at hwy3
    refine zA J J (qo J ⟨J,(zA J J (yI J J ⟨J,(zA J J (yI J J ⟨J,(xM (vs:=[.bool _,.slice _ _ _,.bool _,.slice _ _ _,.bool _,.slice _ _ _,.bool _,.slice _ _ _]) (fr:=[]) H J J jo J J J J J J Z2 O (fun s11 H=>?_))⟩))⟩))⟩)
    refine zA J J (zK J ⟨J,(zU (zE (zI J (zD (yL rfl (yN (zR ?_)))))))⟩)
    rw[List.append_nil]at hwy3
    obtain⟨bw2,cw2,rest2,rfl,rfl,hcw2,hcw3⟩:=hwy3.snoc
    refine yA (zJ xQ J H.own5 J (zJ xQ J H.own5 J (yF xV J J J (qC J J Y (op_sliceHi (m:=r0.length) kg J J O H.own6 O (op_store5 (vs:=[.slice _ _ _]) H sz22 J J J J J O (fun s12 H=>?_)))))))
    refine zD (xF (zR (yA (yH J J Y (zC J (zD (xG (⟨(adj (ends l) tr at_).length-(i+1),by omega,_,i+1,_,_,_,Φ,yZ ⟨J,J,J,J,J,J,J,J,J,J,J,trivial⟩,H.drop0.drop0.drop0,by rw[Nat.add_mul,Nat.one_mul];omega,by omega,J,.block bw2 cw2 _ rest2 r0 J hcw2,hX,hY,?_⟩))))))))
    refine vA 0 O hs ?_
    rw[hkd]
    rw[hst9,hd]
    rfl
   rw[hd]at hwy3 h8X h8Y
   simp only[Option.getD_none,Option.getD_some]at hwy3
   refine zA J J (qo J ⟨J,(zA J J (yI J J ⟨J,(zA J J (yI J J ⟨J,(xM (vs:=[.bool _,.slice _ _ _,.bool _,.slice _ _ _,.bool _,.slice _ _ _,.bool _,.slice _ _ _]) (fr:=[]) H J J jo J J J J J J Z2 O (fun s13 H=>?_))⟩))⟩))⟩)
   refine zA J J (zK J ⟨J,(zU (zE (zI J (zD (yJ rfl (zE (zN kU J H.own0 J (vP (vs:=[.bool _,.slice _ _ _,.bool _,.slice _ _ _,.bool _,.slice _ _ _,.bool _,.slice _ _ _]) H jo J J J J J O (fun s14 H=>?_)))))))))⟩)
   refine zG (zD (yO (xI (qc (xI (kX (qc (xI (yB (end_ct kU J H.own3 J J ?_))))))))))
   have hd2:dfs (ends l) tr (f+1) at_ w last=some (kk::r9):=by rw[dfs_stp hvw,adj_find,findSome_hit 0 (by omega) hs (by rw[hkd,hst9,hd];rfl)]
   rw[hd2]
   refine⟨Dw3,vw3,Φ,_,J,H.drop0.drop0.drop0.drop0.drop0.up (by omega),by rw[Option.getD_some];rw[List.append_assoc]at hwy3;exact hwy3,?_⟩
   have ew:wres (ends l) T at_ t (some (kk::r9))=wres (ends l) T ((l.getD kk default).a) (aft t (bck (T kk))) (some r9):=by show vH (ends l) T (kk::r9) at_ t=_;rw[along_cons,eo,if_neg (by omega)];rfl
   rw[ew]
   exact VecK.of h8X h8Y
  refine zD (yL rfl (yN (zR (zE (zJ xQ J H.own4 J (zC J (yS (c:=[.int _ _]) H kg J J O (fun b59 s15 H=>?_))))))))
  have hgt:=H.own0
  have H:=HL.mid (A:=[_,_,_,_,_]) (B:=Dw2) (C:=Φ) H.drop0
  refine op_wyPush H hwy kg xV J J J W0 O O (fun DX v9 s9 hwy H=>?_)
  obtain⟨a9,c9,rfl⟩:=hwy.isSlice
  have H:=HL.mid (A:=DX) (B:=[_,_,_,_,_]) (C:=Φ) H
  simp only[List.cons_append,List.nil_append]at H
  refine jw (vs:=[.slice _ _ _]) H sz22 J J J J J O (fun s16 H=>?_)
  refine zD (yE ?_)
  have hf2:1≤f:=by rcases f with _|f;exact absurd (hTm kk hkm O (by unfold Inc;omega)) id;omega
  have hp5:25 ^ (7-(f+1))≤9765625:=pow5 O
  have hb2:=hb2S
  refine yT [⟨0,0,.light,[3,4,10]⟩,⟨1,0,.light,[0,3,4,10]⟩,⟨2,0,.light,[0,3,4,10]⟩,⟨3,0,.light,[0,4,10]⟩,⟨4,0,.light,[0,3,10]⟩,⟨10,0,.new,[0,3,4]⟩,⟨5,24,.whole,[0,10]⟩,⟨6,63,.whole,[10]⟩,⟨7,127,.light,[10]⟩,⟨8,255,.light,[10]⟩,⟨9,255,.light,[10]⟩,⟨11,1535,.whole,[]⟩,⟨12,4095,.light,[]⟩] Z0 Z0 (zV J J sh145 J (hst _ _ _ H).gS Y7 J (zA J J (zC J ⟨J,(zA J J (zC J ⟨J,(zQ J J kU J H.own3 Y3 J (zQ J J kU J H.own0 Y0 J (dr_new J J H zf36 O (fun b17 s17 H=>?_))))⟩))⟩)))
  refine zM J J (zF J fc67 J (kn (afterP_ok hI (Fine.pr H.fine (xW X9 (xW H.lt0 qO))) ((knW6 hK H).heap J Z3) (hX.le hp5 hp5) (hY.le hp5 hp5) hX1 hY1 U U U U U U Z) (fun s9 D9 n3 a3 m3 c3 n3d a3d m3d c3d n3y a3y m3y c3y n3yd a3yd m3yd c3yd Hc h103a h103b=>?_)))
  have Hc:=HL.wider H.fine Z3 Z5 Hc
  obtain⟨Φ,ku,kd,H⟩:=mergeW6 (K:=K) H Hc
  try replace hX:=hX.mono ku
  try replace hY:=hY.mono ku
  replace h103a:=h103a.mono kd
  replace h103b:=h103b.mono kd
  clear Hc ku kd
  refine zM J J (zF J fc104 J ?_)
  have H2:=HL.mid (A:=[_,_,_,_,_]) (B:=_::DX) (C:=Φ) H
  have HN:=HL.narrow (D:=_::DX) (X:=[b17]) H2 (by intro q9 hq9 hin;rw[List.mem_singleton]at hin;exact(List.pairwise_cons.mp H.dist).1 q9 (by simp only[List.mem_cons,List.mem_append]at hq9 ⊢;rcases hq9 with h|h<;>simp[h]) hin.symm) (by intro p hp;rw[List.mem_singleton]at hp;subst hp;exact H.lt0)
  have eo:oth (ends l) kk at_=(l.getD kk default).b:=by unfold oth;omega
  have ho9:=hTm kk hkm O (by unfold Inc;omega)
  rw[eo]at ho9
  have ht9:Tn (25 ^ (7-f)) (aft t (T kk)):=by rw[←pow_step hf7];exact ht.aft hq.tn
  obtain⟨_,s9,hr,Dw3,vw3,D8,t8,rfl,Hc,hwy3,hv8⟩:=ih (by omega) HN.fine HN hwy (by rw[List.length_append,List.length_singleton];omega) ((KnW.in hK H2 (Φ:=Φ) (fun _ h=>List.mem_append_right _ h)).narrow H.fine) ((Sts.in hst H2).narrow (fun _ _ h h1 h2=>h.heap h1 h2) H.fine) (hF.mono zZ) (at_:=(l.getD kk default).b) (last:=(kk:Int)) (by omega) (by omega) ht9 ((h103a).bd ht9.bd.1) ((h103b).bd ht9.bd.2) ho9 (H.rm (by omega))
  refine⟨_,_,hr,?_⟩
  clear hr
  have H:=HL.callK (A:=_::DX) (L:=[_,_,_,_,_]++Φ) H2 X7
  clear Hc HN H2
  obtain⟨Φ,ku,kd,H⟩:=walk_merge (K:=K) H
  replace hX:=hX.mono ku
  replace hY:=hY.mono ku
  replace hv8:=hv8.mono kd
  clear ku kd
  obtain⟨n71,a71,m71,c71,n72,a72,m72,c72,n73,a73,m73,c73,n74,a74,m74,c74,rfl,h8X,h8Y⟩:=hv8
  have hst9:=stp_on (tr:=tr) (f:=f) (w:=w) (show(kk:Int)≠last by omega) (show Inc (ends l) kk at_ by unfold Inc;omega)
  rw[eo]at hst9
  rcases hd:dfs (ends l) tr f ((l.getD kk default).b) w (kk:Int)with _|r9
  ·rw[hd]at hwy3 h8X h8Y
   simp only[Option.getD_none,Option.getD_some]at hwy3
   refine zA J J (qo J ⟨J,(zA J J (yI J J ⟨J,(zA J J (yI J J ⟨J,(xM (vs:=[.bool _,.slice _ _ _,.bool _,.slice _ _ _,.bool _,.slice _ _ _,.bool _,.slice _ _ _]) (fr:=[]) H J J jo J J J J J J Z2 O (fun s18 H=>?_))⟩))⟩))⟩)
   refine zA J J (zK J ⟨J,(zU (zE (zI J (zD (yL rfl (yN (zR ?_)))))))⟩)
   rw[List.append_nil]at hwy3
   obtain⟨bw2,cw2,rest2,rfl,rfl,hcw2,hcw3⟩:=hwy3.snoc
   refine yA (zJ xQ J H.own5 J (zJ xQ J H.own5 J (yF xV J J J (qC J J Y (op_sliceHi (m:=r0.length) kg J J O H.own6 O (op_store5 (vs:=[.slice _ _ _]) H sz22 J J J J J O (fun s19 H=>?_)))))))
   refine zD (xF (zR (yA (yH J J Y (zC J (zD (xG (⟨(adj (ends l) tr at_).length-(i+1),by omega,_,i+1,_,_,_,Φ,yZ ⟨J,J,J,J,J,J,J,J,J,J,J,trivial⟩,H.drop0.drop0.drop0,by rw[Nat.add_mul,Nat.one_mul];omega,by omega,J,.block bw2 cw2 _ rest2 r0 J hcw2,hX,hY,?_⟩))))))))
   refine vA 0 O hs ?_
   rw[hkd]
   rw[hst9,hd]
   rfl
  rw[hd]at hwy3 h8X h8Y
  simp only[Option.getD_none,Option.getD_some]at hwy3
  refine zA J J (qo J ⟨J,(zA J J (yI J J ⟨J,(zA J J (yI J J ⟨J,(xM (vs:=[.bool _,.slice _ _ _,.bool _,.slice _ _ _,.bool _,.slice _ _ _,.bool _,.slice _ _ _]) (fr:=[]) H J J jo J J J J J J Z2 O (fun s20 H=>?_))⟩))⟩))⟩)
  refine zA J J (zK J ⟨J,(zU (zE (zI J (zD (yJ rfl (zE (zN kU J H.own0 J (vP (vs:=[.bool _,.slice _ _ _,.bool _,.slice _ _ _,.bool _,.slice _ _ _,.bool _,.slice _ _ _]) H jo J J J J J O (fun s21 H=>?_)))))))))⟩)
  refine zG (zD (yO (xI (qc (xI (kX (qc (xI (yB (end_ct kU J H.own3 J J ?_))))))))))
  have hd2:dfs (ends l) tr (f+1) at_ w last=some (kk::r9):=by rw[dfs_stp hvw,adj_find,findSome_hit 0 (by omega) hs (by rw[hkd,hst9,hd];rfl)]
  rw[hd2]
  refine⟨Dw3,vw3,Φ,_,J,H.drop0.drop0.drop0.drop0.drop0.up (by omega),by rw[Option.getD_some];rw[List.append_assoc]at hwy3;exact hwy3,?_⟩
  have ew:wres (ends l) T at_ t (some (kk::r9))=wres (ends l) T ((l.getD kk default).b) (aft t (T kk)) (some r9):=by show vH (ends l) T (kk::r9) at_ t=_;rw[along_cons,eo,if_pos (by omega)];rfl
  rw[ew]
  exact VecK.of h8X h8Y
 refine zD (yE (yL rfl (ql (xU (xZ (xX (zR ?_)))))))
 have hml:=Nat.mul_le_mul_right (110000+cost 110000 f) (show i≤6 by omega)
 refine zE (xE (c:=[.bool _,.slice _ _ _,.bool _,.slice _ _ _,.bool _,.slice _ _ _,.bool _,.slice _ _ _]) bf36 J (zT (vs:=[.bool _,.slice _ _ _,.bool _,.slice _ _ _,.bool _,.slice _ _ _,.bool _,.slice _ _ _]) H jo J J J J J O (fun s22 H=>?_)))
 refine zG (zD (yO (yB (end_ct kU J H.own0 J J ?_))))
 have hml:=Nat.mul_le_mul_right (110000+cost 110000 f) (show i≤6 by omega)
 have hd2:dfs (ends l) tr (f+1) at_ w last=none:=by rw[dfs_stp hvw,adj_find,findSome_end (by omega) hs]
 rw[hd2]
 refine⟨Dw2,vw2,Φ,_,J,H.drop0.drop0.up (by omega),by rw[Option.getD_none,List.append_nil];exact hwy,(VecK.of RatK.nil RatK.nil).le (by decide) (by decide)⟩
end Go.Proofs.YtocnbjjmmgolfaaGreat
namespace Go.Proofs.YtocnbjjmmgolfaaGreat
open Go Go.M Go.Proofs.C14
theorem fb45:xK Tryz.f45 (Tryz.f45.body.getD .skip) 3=true:=by kernel_rfl
theorem fc65:xJ Tryz.prog 65=true:=by kernel_rfl
theorem sz145:kD Tryz.prog 145=some 1:=by kernel_rfl
theorem zf145:zeroF Tryz.prog 145=some [.nilFunc]:=by kernel_rfl
theorem zf22:zeroF Tryz.prog 22=some [.slice none 0 0]:=by kernel_rfl
variable{s:St}{K:Kw}
theorem Kn.w(h:Kn s K):KnW s [] K:=fun _ _ _ H=>⟨fun v l x=>(h.sl v l x).kept H,h.cap⟩
def PostWk(K:Kw)(s:St)(k:Nat)(r:Option (List Nat))(q:Q2)(v:Value)(s':St):Prop:=∃(Dw:Hp') (vw:Value) (D:Hp') (t8:List Value),v=.tuple ⟨[vw,.agg ⟨t8⟩,.bool r.isSome]⟩∧HL [] s s' (Dw++D) k∧Wy Dw vw (r.getD [])∧VecK (KX K D) t8 q.1 q.2 244140625 244140625
theorem walk_merge2{W:List Nat}{s0:St}{n:Nat}{p q0 q1 q2 q3:Nat×MObj}{A D Φ:Hp'}(H:HL W s0 s ((p::(A++D))++(q0::q1::q2::q3::Φ)) n):∃Φ',KLe (KX K Φ) (KX K Φ')∧KLe (KX (KX K Φ) D) (KX K Φ')∧HL W s0 s (q0::q1::p::(A++Φ')) n:=by
 refine⟨D++Φ,wW W2,kx_in W2 W1,?_⟩
 have H2:=HL.mid (A:=p::(A++D)) (B:=[q0,q1,q2,q3]) (C:=Φ) H
 have e:(p::(A++D))++Φ=p::(A++(D++Φ)):=by simp
 rw[e]at H2
 exact H2.sub (.cons_cons _ (.cons_cons _ (.cons _ (.cons _ (.refl _)))))
set_option maxHeartbeats 4000000 in
set_option maxRecDepth 10000 in
theorem walkP_ok{I:xP}(hI:xA I)(hf:Fine s)(hK:Kn s K){bt:Nat}{vl:Value}{cF:List Value}{va:Int→Value}{l:List Ft}{T:Nat→Q2}{tr:List Nat}(hE:Ends l)(hlt:∀k∈tr,k<l.length)(h6:tr.length≤6)(hFo:Fo (ends l) tr)(hc0:qG cF 0=some vl)(hcv:∀v:Int,0≤v→v<12→qG cF (1+v.toNat)=some (va v))(hgF:s.get bt=some (.cells cF 94))(hlF:bt<s.next)(hadj:∀v:Int,0≤v→v<12→SlD s (va v) (ki (adj (ends l) tr v)))(hl:SlF s vl l)(hF:FtsK K l T){v w:Int}(hv0:0≤v)(hv1:v<12)(hroom:43200000000+s.next≤yC) :
  ∃v' s',xN Tryz.prog I 45 #[.pointer (some ⟨bt,0,none⟩),.int .i64 v,.int .i64 w] s v' s'∧PostWk K s 43200000000 (way (ends l) tr v w) (wres (ends l) T v wC (way (ends l) tr v w)) v' s':=by
 have H:=hf.hl
 have hct:=cost_mono 110000 (show tr.length+1≤7 by omega)
 rw[cost7]at hct
 refine zX 3 (hI 45 U U) Tryz.func45 J fb45 J ?_
 refine zE (op_boxP H J O (fun b3 s1 H=>?_))
 refine op_boxI H J O (fun b5 s2 H=>?_)
 refine zS H zf22 O (fun b6 s3 H=>?_)
 refine zS H zf36 O (fun b7 s4 H=>?_)
 refine zG (zD (zE (zS H zf145 O (fun b9 s5 H=>?_))))
 refine zD (zE (op_makeFunc (zT (vs:=[.func (.func 104) #[] #[.pointer (some ⟨b5,0,none⟩),.pointer (some ⟨b3,0,none⟩),.pointer (some ⟨b6,0,none⟩),.pointer (some ⟨b9,0,none⟩)]]) H sz145 J J J J J O (fun s9 H=>?_))))
 refine zD (yT [⟨0,0,.light,[]⟩,⟨1,0,.light,[0]⟩,⟨2,0,.whole,[0]⟩,⟨3,7,.whole,[]⟩,⟨4,15,.light,[]⟩,⟨5,31,.light,[]⟩,⟨6,31,.light,[]⟩,⟨7,63,.whole,[]⟩,⟨8,255,.light,[]⟩] Z0 Z0 (zV J J sh145 J H.own0 Y0 J (zA J J (zC J ⟨J,(zM J J (zF J fc65 J (kn (stillP_ok hI (Fine.pr H.fine (xW H.lt0 qO)) X5 Z) (fun s9 D9 n1 a1 m1 c1 n1d a1d m1d c1d n1y a1y m1y c1y n1yd a1yd m1yd c1yd Hc h101a h101b=>?_))))⟩))))
 have Hc:=HL.wider H.fine Z3 Z5 Hc
 obtain⟨Φ,ku,kd,H⟩:=ka (K:=K) H Hc
 replace h101a:=h101a.mono kd
 replace h101b:=h101b.mono kd
 clear Hc ku kd
 refine zM J J (zF J fc104 J ?_)
 have H2:=HL.mid (A:=[_,_]) (B:=[_]) (C:=_::_::Φ) H
 have HN:=HL.narrow (D:=[_]) (X:=[]) H2 (by intro q hq hin;cases hin) V1
 have hp9:1≤25 ^ (7-(tr.length+1)):=Nat.one_le_pow _ _ U
 obtain⟨_,s9,hr,Dw3,vw3,D8,t8,rfl,Hc,hwy3,hv8⟩:=walk1_ok hI (bTo:=b5) (bT:=b3) (bW:=b6) (bS:=b9) (bt:=bt) (cF:=cF) (va:=va) (w:=w) (T:=T) hE hlt h6 hc0 hcv (tr.length+1) O HN.fine HN (r0:=[]) .nil (by simp only[List.length_nil];omega) ((KnW.in (Kn.w hK) H2 (Φ:=Φ) Z8).narrow H.fine) (fun s8 L8 n8 H8=>(by have H9:=HL.callK H2 H8;exact⟨(H9.own (b5,_) Y8).1,(H9.own (b3,_) Y8).1,(H9.own (b9,_) Y8).1,(H9.own (b9,.cells [.func (.func 104) #[] #[.pointer (some ⟨b5,0,none⟩),.pointer (some ⟨b3,0,none⟩),.pointer (some ⟨b6,0,none⟩),.pointer (some ⟨b9,0,none⟩)]] 145) Y8).2.1,H9.old hlF hgF,fun v h0 h1=>(hadj v h0 h1).kept H9,hl.kept H9⟩)) (hF.mono zZ) (at_:=v) (last:= -1) hv0 hv1 (tn_still.le hp9) (h101a.le hp9 hp9) (h101b.le hp9 hp9) (hFo.tm v (-1)) Z
 refine⟨_,_,hr,?_⟩
 clear hr
 have H:=HL.callK (A:=[_]) (L:=_::_::_::_::Φ) H2 X8
 clear Hc HN H2
 obtain⟨Φ,ku,kd,H⟩:=walk_merge2 (K:=K) H
 replace hv8:=hv8.mono kd
 clear ku kd
 obtain⟨n71,a71,m71,c71,n72,a72,m72,c72,n73,a73,m73,c73,n74,a74,m74,c74,rfl,h8X,h8Y⟩:=hv8
 rw[List.nil_append]at hwy3
 obtain⟨a9,c9,rfl⟩:=hwy3.isSlice
 refine zA J J (qo J ⟨J,(zA J J (yI J J ⟨J,(zA J J (yI J J ⟨J,(kT (vs:=[.bool _,.slice _ _ _,.bool _,.slice _ _ _,.bool _,.slice _ _ _,.bool _,.slice _ _ _]) (fr:=[]) H J J jo J J J J J J Z2 O (fun s6 H=>?_))⟩))⟩))⟩)
 refine zA J J (zK J ⟨J,(zU (yT [⟨0,0,.light,[1]⟩,⟨1,0,.light,[0]⟩,⟨2,0,.light,[0,1]⟩,⟨3,1,.whole,[1]⟩,⟨4,11,.whole,[]⟩,⟨5,31,.light,[]⟩] Z0 Z0 (zV J J xQ J H.own2 Y2 J (zQ J J kU J H.own1 Y1 J (zA J J (zI J ⟨J,(ke (vs:=[.slice _ _ _]) (fr:=[_]) H J J sz22 J J J J J J Z2 O (fun s7 H=>?_))⟩))))))⟩)
 refine kT (vs:=[.bool _,.slice _ _ _,.bool _,.slice _ _ _,.bool _,.slice _ _ _,.bool _,.slice _ _ _]) (fr:=[]) H J J jo J J J J J J Z2 O (fun s8 H=>?_)
 refine zA J J (zK J ⟨J,(zU (yO (yB (end_sct xQ J H.own2 J kU J H.own1 J J ?_))))⟩)
 exact⟨Dw3,_,Φ,_,J,H.drop0.drop0.drop0.up O,hwy3,VecK.of h8X h8Y⟩
end Go.Proofs.YtocnbjjmmgolfaaGreat
namespace Go.Proofs.YtocnbjjmmgolfaaGreat
open Go Go.M Go.Proofs.C14
theorem fb46:xK Tryz.f46 (Tryz.f46.body.getD .skip) 2=true:=by kernel_rfl
variable{D:Hp'}{tr:List Nat}{x:Int}{v vl:Value}{l:List Ft}{r:Nat→List Int}{k:Nat}
section
variable{P:Program}{I:xP}{F:FF}{s:St}{Q:FF→St→Prop}{W:List Nat}{s0:St}{L:Hp'}{n:Nat}
theorem dr_appendOwn{fr:List Nat}{ops:List Oper}{ix anc:Nat}{free:List Nat}{rest:List Drawn}{d:Option Tmp}{ty:TypeId}{pos:String}{af:Array Edge}{g:Option (Nat×Bool)}{ag:Array Operand}{ts:Array TypeId}{t t2 e e2:TypeId}{tr:List TypeId}{x y:Operand}{sz by_ m len:Nat}{z l c:List Value}
  (hgo:qG ops ix=some ⟨d,.call ⟨.builtin .append,ag,ts⟩,ty,pos,af,g⟩) (hw:qV ops F ⟨d,.call ⟨.builtin .append,ag,ts⟩,ty,pos,af,g⟩=true) (hfr:qP ops F free=fr)
  (H:HL W s0 s (D++L) n) (hne:∀q∈D,q.1∉fr) (hX:∀p∈fr,p<s.next) (ho:Own e sz D v c len) (hs:q6 P t=some (e,sz,by_,z)) (hu2:P.underlying t2=some (.slice e2))
  (ht:ts.toList=t::t2::tr) (ha:ag.toList=[x,y]) (hx:yQ F x=v) (he:jC s sz (yQ F y) m l) (hm:0<m) (hp:l.all Go.M.plainCell=true) (hl:l.length=m*sz) (hb:(len+m)*(by_+1)≤1073741824) (hr:s0.next+n<yC)
  (k:∀b s',HL W s0 s' ((b,.cells (c++l) e)::L) (n+1)→kC P I ops rest (upd F d (.slice (some ⟨b,0,none⟩) (len+m) (2*(len+m)+1))) s' Q):kC P I ops (⟨ix,anc,.whole,free⟩::rest) F s Q:=by
 refine zM hgo hw ?_
 rw[hfr]
 have H1:=HL.narrow H hne hX
 rw[←List.append_nil D]at H1
 refine qi (L:=[]) H1 ho hs hu2 ht ha hx he hm hp hl hb (by have:=H.most;show s.next+0<yC;omega) (fun b s' H' _=>?_)
 refine k b _ (HL.callW (A:=D) (L:=L) H (HL.wider H.fine (Nat.le_refl _) (fun _ h=>List.mem_append_right _ h) (by rw[List.append_nil]at H';exact H')) (fun b hb=>?_) (fun p hp=>List.mem_map_of_mem hp))
 obtain⟨p,hp,rfl⟩:=List.mem_map.mp hb
 exact⟨p.2,hp⟩
end
abbrev E0:Hp'×Value:=([],.slice none 0 0)
def fcells(vl:Value)(es:List (Hp'×Value)):List Value:=vl::es.map Prod.snd
def jx(es:List (Hp'×Value)):Hp':=(es.map Prod.fst).flatten
structure FrO(es:List (Hp'×Value))(r:Nat→List Int):Prop where
 len:es.length=12
 own:∀v,v<12→Own tI 1 (es.getD v E0).1 (es.getD v E0).2 (qm (r v)) (r v).length
theorem fheap_split:∀{es:List (Hp'×Value)} {a:Nat} (_:a<es.length) (x:Hp'×Value),(jx (es.set a x)).Perm (x.1++jx (es.set a E0))
 | [],_,h,_=>by simp at h
 |e::es,0,_,x=>by simp[jx]
 |e::es,a+1,h,x=>by
  have:=fheap_split (es:=es) (a:=a) (by simpa using h) x
  simp only[jx,List.set_cons_succ,List.map_cons,List.flatten_cons]
  exact(this.append_left e.1).trans (List.perm_append_comm_assoc _ _ _)
theorem set_selfE{es:List (Hp'×Value)}{a:Nat}(h:a<es.length):es.set a (es.getD a E0)=es:=by
 rw[List.getD_eq_getElem?_getD,List.getElem?_eq_getElem h];simp
section
variable{W:List Nat}{s0 s:St}{n:Nat}{p0 p1:Nat×MObj}{R:Hp'}{es:List (Hp'×Value)}{a:Nat}
theorem fsplit1(H:HL W s0 s (p0::p1::(jx es++R)) n)(h:a<es.length):HL W s0 s ((es.getD a E0).1++(p0::p1::(jx (es.set a E0)++R))) n:=by
 refine H.perm ?_
 have h1:=fheap_split h (es.getD a E0)
 rw[set_selfE h]at h1
 refine((h1.append_right R).append_left [p0,p1]).trans ?_
 rw[List.append_assoc]
 exact List.perm_append_comm_assoc [p0,p1] _ _
theorem fjoin1{q:Nat×MObj}(H:HL W s0 s (q::p0::p1::(jx (es.set a E0)++R)) n)(h:a<es.length):HL W s0 s (p0::p1::(jx (es.set a ([q],v))++R)) n:=by
 refine H.perm ?_
 have h1:=fheap_split h (([q],v):Hp'×Value)
 refine(List.perm_append_comm_assoc [q] [p0,p1] _).trans (List.Perm.append_left [p0,p1] ?_)
 have h2:=h1.symm.append_right R
 rw[List.append_assoc]at h2
 exact h2
end
theorem map_getD'{es:List (Hp'×Value)}{a:Nat}(h:a<es.length):(es.map Prod.snd)[a]? = some (es.getD a E0).2:=by
 rw[List.getElem?_map,List.getD_eq_getElem?_getD,List.getElem?_eq_getElem h];rfl
theorem fcells_get{es:List (Hp'×Value)}(h0:0≤x)(h:x.toNat<es.length):qG (fcells vl es) (0+1+x.toNat*1)=some (es.getD x.toNat E0).2:=by
 rw[show 0+1+x.toNat*1=x.toNat+1 by omega,qR]
 show(vl::es.map Prod.snd)[x.toNat+1]? = _
 rw[List.getElem?_cons_succ,map_getD' h]
theorem fcells_put{vl v:Value}{D:Hp'}:∀{es:List (Hp'×Value)} {a:Nat} (_:a<es.length),ky a [v] (es.map Prod.snd)=some ((es.set a (D,v)).map Prod.snd)
 | [],_,h=>by simp at h
 |e::es,0,_=>rfl
 |e::es,a+1,h=>by
  simp only[List.map_cons,ky,List.set_cons_succ,fcells_put (vl:=vl) (v:=v) (D:=D) (es:=es) (a:=a) (by simpa using h)]
theorem fcells_put'{es:List (Hp'×Value)}(h:x.toNat<es.length):ky (0+1+x.toNat*1) [v] (fcells vl es)=some (fcells vl (es.set x.toNat (D,v))):=by
 rw[show 0+1+x.toNat*1=x.toNat+1 by omega]
 unfold fcells
 simp only[ky,fcells_put (vl:=vl) (D:=D) h]
theorem FrO.set{es:List (Hp'×Value)}(h:FrO es r){a:Nat}(ha:a<12)(ho:Own tI 1 D v (qm (r a++[x])) (r a++[x]).length):FrO (es.set a (D,v)) (fun b=>if b=a then r a++[x]else r b):=by
 refine⟨by rw[List.length_set];exact h.len,fun b hb=>?_⟩
 rw[List.getD_eq_getElem?_getD,List.getElem?_set]
 by_cases e:a=b
 ·subst e
  simp only[if_pos,h.len,if_pos ha,Option.getD_some]
  exact ho
 ·rw[if_neg e,←List.getD_eq_getElem?_getD]
  simp only[if_neg (Ne.symm e)]
  exact h.own b hb
theorem adj_snoc{e:Nat→Int×Int}{v:Int}:adj e (tr++[k]) v=adj e tr v++(if Inc e k v then [k]else []):=by
 unfold adj
 rw[List.filter_append]
 by_cases h:Inc e k v
 ·simp[List.filter_cons,h]
 ·simp[List.filter_cons,h]
theorem FrO.cong{es:List (Hp'×Value)}{r':Nat→List Int}(h:FrO es r)(hr:∀v,v<12→r v=r' v):FrO es r':=⟨h.len,fun v hv=>by rw[←hr v hv];exact h.own v hv⟩
abbrev Frst(l:List Ft)(tr:List Nat)(es:List (Hp'×Value)):Prop:=FrO es fun v=>ki (adj (ends l) tr (v:Int))
theorem frst_step{es:List (Hp'×Value)}(h0:0≤(ends l k).1)(h1:(ends l k).1<(ends l k).2)(h:FrO es (fun b=>if b=(ends l k).2.toNat then(if (ends l k).2.toNat=(ends l k).1.toNat then ki (adj (ends l) tr ((ends l k).1.toNat:Int))++[(k:Int)]else ki (adj (ends l) tr ((ends l k).2.toNat:Int)))++[(k:Int)]else if b=(ends l k).1.toNat then ki (adj (ends l) tr ((ends l k).1.toNat:Int))++[(k:Int)]else ki (adj (ends l) tr (b:Int)))):Frst l (tr++[k]) es:=by
 refine h.cong fun v hv=>?_
 rw[adj_snoc]
 by_cases hb:v=(ends l k).2.toNat
 ·rw[if_pos hb,if_neg (by omega),if_pos (show Inc (ends l) k v by unfold Inc;omega),nats_snoc,hb]
 ·by_cases ha:v=(ends l k).1.toNat
  ·rw[if_neg hb,if_pos ha,if_pos (show Inc (ends l) k v by unfold Inc;omega),nats_snoc,ha]
  ·rw[if_neg hb,if_neg ha,if_neg (show ¬Inc (ends l) k v by unfold Inc;omega),List.append_nil]
set_option maxHeartbeats 4000000 in
set_option maxRecDepth 10000 in
theorem add46_ok{I:xP}(hI:xA I){K:Kw}{s0 s:St}{bt n:Nat}{es:List (Hp'×Value)}{R:Hp'}(H:HL [] s0 s ((bt,.cells (fcells vl es) 94)::(jx es++R)) n)(hl:SlF s0 vl l)(hA:FtsA K l)(hE:Ends l)(hk:k<l.length)(h100:l.length≤100)(hfr:FrO es r)(hrb:∀v,(r v).length≤1000)(hroom:n+s0.next+20≤yC) :
  ∃v' s',xN Tryz.prog I 46 #[.pointer (some ⟨bt,0,none⟩),.int .i64 (k:Int)] s v' s'∧(∃es',v'=.tuple ⟨[]⟩∧HL [] s0 s' ((bt,.cells (fcells vl es') 94)::(jx es'++R)) (n+20)∧FrO es' (fun b=>if b=(ends l k).2.toNat then(if (ends l k).2.toNat=(ends l k).1.toNat then r (ends l k).1.toNat++[(k:Int)]else r (ends l k).2.toNat)++[(k:Int)]else if b=(ends l k).1.toNat then r (ends l k).1.toNat++[(k:Int)]else r b)):=by
 obtain⟨al,ll,cl,hve,hll⟩:=hl.isSlice
 subst hve
 rw[List.length_map]at hll
 subst hll
 obtain⟨q,hq⟩:=hA.get hk
 obtain⟨b1,off1,c1_,he1,hg1,hb1,hc9,_⟩:=vT hl hk hq
 subst he1
 obtain⟨e0,e3,e4⟩:=hE k hk
 have e1:(ends l k).1=(l.getD k default).a:=rfl
 have e2:(ends l k).2=(l.getD k default).b:=rfl
 rw[e1]at e0 e3
 rw[e2]at e3 e4
 rw[e1,e2]
 refine zX 2 (hI 46 U U) Tryz.func46 J fb46 J ?_
 refine zE (op_moveP J (wH J (zB of94_0 J (zJ sh24 J H.own0 J (zC J (zP el24 J J O O (zN sh40 J W8 hc9 (zS H zf40 O (fun b4 s1 H=>?_)))))))))
 refine zT (vs:=(l.getD k default).cells) H sz40 J J (beq_llen hq.len) hq.plain (lput_full (by rw[hq.len];rfl)) (by omega) (fun s9 H=>?_)
 refine zD (yT [⟨0,0,.light,[2,5,9]⟩,⟨1,0,.light,[5,9]⟩,⟨2,2,.light,[5,9]⟩,⟨3,0,.light,[2,5]⟩,⟨4,0,.light,[2]⟩,⟨5,16,.light,[2]⟩,⟨6,8,.light,[2,5]⟩,⟨7,72,.light,[2,5]⟩,⟨8,248,.light,[2]⟩,⟨9,504,.light,[2]⟩,⟨10,0,.light,[2,5,9]⟩,⟨13,1,.light,[2,5,9]⟩,⟨14,8193,.light,[2,5,9]⟩,⟨11,1024,.whole,[2,5,9]⟩,⟨12,4088,.whole,[2]⟩,⟨15,32767,.light,[]⟩,⟨16,65535,.whole,[]⟩] Z0 Z0 (zA J J (op_moveP J ⟨J,(zA J J (zB vV J ⟨J,(zV J J sh3 J H.own0 Y0 J (zA J J (op_moveP J ⟨J,(zA J J (zB vV J ⟨J,(zV J J sh3 J H.own0 Y0 J (zA J J (wH J ⟨J,(zA J J (zB of94_1 J ⟨J,(zA J J (vR el92 J J O O ⟨J,(zV J J xQ J H.own1 (H.lim1 (by omega)) (fcells_get (es:=es) (x:=(l.getD k default).a) (by omega) (by rw[hfr.len];omega)) ?_)⟩))⟩))⟩)))⟩))⟩)))⟩))⟩)))
 refine zA J J (zC J ⟨J,(zA J J (wH J ⟨J,(zA J J (zB of94_1 J ⟨J,(zM J J (yS (c:=[.int _ _]) (Fine.pr H.fine (xW H.lt0 (xW H.lt0 (xW H.lt1 qO)))).hl kg J J (H.rm (k:=1) O) (fun b23 s2 Hc=>?_)))⟩))⟩))⟩)
 have H:=H.call X7
 clear Hc
 have hgt:=H.own0
 have H:=fsplit1 (es:=es) (a:=((l.getD k default).a).toNat) H.drop0 (by rw[hfr.len];omega)
 have hrl:=hrb ((l.getD k default).a).toNat
 refine dr_appendOwn J J (fr:=[b4]) J H (fun q hq hin=>by rw[List.mem_singleton]at hin;exact(List.pairwise_append.mp H.dist).2.2 q hq (b4,.cells (l.getD k default).cells 40) (by simp) hin) (fun p hp=>by rw[List.mem_singleton]at hp;rw[hp];exact(H.own (b4,.cells (l.getD k default).cells 40) (by simp)).2.1) (hfr.own ((l.getD k default).a).toNat (by omega)) kg xV J J J (jy hgt J) (by decide) J J (by have:=hrb ((l.getD k default).a).toNat;omega) (by omega) (fun b24 s24 H=>?_)
 refine zA J J (vR el92 J J O O ⟨J,(ke (vs:=[.slice _ _ _]) (fr:=[]) H rfl rfl sz22 rfl rfl rfl rfl (fcells_put' (es:=es) (D:=[(b24,.cells (qm (r ((l.getD k default).a).toNat)++[.int .i64 (k:Int)]) tI)]) (by rw[hfr.len];omega)) rfl (by intro p hp;cases hp) (by omega) (fun s9 H=>?_))⟩)
 have H:=fjoin1 (v:=.slice (some ⟨b24,0,none⟩) ((r ((l.getD k default).a).toNat).length+1) (2*((r ((l.getD k default).a).toNat).length+1)+1)) H (by rw[hfr.len];omega)
 refine zU ?_
 have hl9:=(vS (r ((l.getD k default).a).toNat) (k:Int))
 have ho9:Own tI 1 [(b24,MObj.cells (qm (r ((l.getD k default).a).toNat)++[.int .i64 (k:Int)]) tI)] (.slice (some ⟨b24,0,none⟩) ((r ((l.getD k default).a).toNat).length+1) (2*((r ((l.getD k default).a).toNat).length+1)+1)) (qm (r ((l.getD k default).a).toNat++[(k:Int)])) (r ((l.getD k default).a).toNat++[(k:Int)]).length:=by rw[hl9,List.length_append];exact .block b24 _ _ _ (by rw[List.length_append,vF];simp) (by omega)
 have hfr1:=hfr.set (a:=((l.getD k default).a).toNat) O ho9
 have hrb1:∀v,((fun b=>if b=((l.getD k default).a).toNat then r ((l.getD k default).a).toNat++[(k:Int)]else r b) v).length≤1001:=fun v=>by simp only;split;(rw[List.length_append,List.length_singleton];have:=hrb ((l.getD k default).a).toNat;omega);(have:=hrb v;omega)
 obtain⟨es1,hes1⟩:∃es1,es1=es.set ((l.getD k default).a).toNat ([(b24,MObj.cells (qm (r ((l.getD k default).a).toNat)++[.int .i64 (k:Int)]) tI)],.slice (some ⟨b24,0,none⟩) ((r ((l.getD k default).a).toNat).length+1) (2*((r ((l.getD k default).a).toNat).length+1)+1)):=⟨_,rfl⟩
 rw[←hes1]at H hfr1
 generalize hr1:(fun b=>if b=((l.getD k default).a).toNat then r ((l.getD k default).a).toNat++[(k:Int)]else r b)=r1 at hfr1 hrb1
 refine wT [⟨0,0,.light,[2,5,9]⟩,⟨1,0,.light,[5,9]⟩,⟨2,2,.light,[5,9]⟩,⟨3,0,.light,[2,5]⟩,⟨4,0,.light,[2]⟩,⟨5,16,.light,[2]⟩,⟨6,8,.light,[2,5]⟩,⟨7,72,.light,[2,5]⟩,⟨8,248,.light,[2]⟩,⟨9,504,.light,[2]⟩,⟨10,0,.light,[2,5,9]⟩,⟨13,1,.light,[2,5,9]⟩,⟨14,8193,.light,[2,5,9]⟩,⟨11,1024,.whole,[2,5,9]⟩,⟨12,4088,.whole,[2]⟩,⟨15,32767,.light,[]⟩,⟨16,65535,.whole,[]⟩] Z0 Z0 (zA J J (op_moveP J ⟨J,(zA J J (zB wJ J ⟨J,(zV J J sh3 J H.own0 Y0 J (zA J J (op_moveP J ⟨J,(zA J J (zB wJ J ⟨J,(zV J J sh3 J H.own0 Y0 J (zA J J (wH J ⟨J,(zA J J (zB of94_1 J ⟨J,(zA J J (vR el92 J J O O ⟨J,(zV J J xQ J H.own1 (H.lim1 (by omega)) (fcells_get (es:=es1) (x:=(l.getD k default).b) (by omega) (by rw[hfr1.len];omega)) (zA J J (zC J ⟨J,?_⟩)))⟩))⟩))⟩)))⟩))⟩)))⟩))⟩))
 refine zA J J (wH J ⟨J,(zA J J (zB of94_1 J ⟨J,(zM J J (yS (c:=[.int _ _]) (Fine.pr H.fine (xW H.lt0 (xW H.lt0 (xW H.lt1 qO)))).hl kg J J (H.rm (k:=1) O) (fun b39 s3 Hc=>?_)))⟩))⟩)
 have H:=H.call X7
 clear Hc
 have hgt:=H.own0
 have H:=fsplit1 (es:=es1) (a:=((l.getD k default).b).toNat) H.drop0 (by rw[hfr1.len];omega)
 skip
 refine dr_appendOwn J J (fr:=[b4]) J H (fun q hq hin=>by rw[List.mem_singleton]at hin;exact(List.pairwise_append.mp H.dist).2.2 q hq (b4,.cells (l.getD k default).cells 40) (by simp) hin) (fun p hp=>by rw[List.mem_singleton]at hp;rw[hp];exact(H.own (b4,.cells (l.getD k default).cells 40) (by simp)).2.1) (hfr1.own ((l.getD k default).b).toNat (by omega)) kg xV J J J (jy hgt J) (by decide) J J (by have:=hrb1 ((l.getD k default).b).toNat;omega) (by omega) (fun b40 s40 H=>?_)
 refine zA J J (vR el92 J J O O ⟨J,(ke (vs:=[.slice _ _ _]) (fr:=[]) H rfl rfl sz22 rfl rfl rfl rfl (fcells_put' (es:=es1) (D:=[(b40,.cells (qm (r1 ((l.getD k default).b).toNat)++[.int .i64 (k:Int)]) tI)]) (by rw[hfr1.len];omega)) rfl (by intro p hp;cases hp) (by omega) (fun s9 H=>?_))⟩)
 have H:=fjoin1 (v:=.slice (some ⟨b40,0,none⟩) ((r1 ((l.getD k default).b).toNat).length+1) (2*((r1 ((l.getD k default).b).toNat).length+1)+1)) H (by rw[hfr1.len];omega)
 refine zU (nrm_end (end_nil ?_))
 have hl9:=(vS (r1 ((l.getD k default).b).toNat) (k:Int))
 have ho9:Own tI 1 [(b40,MObj.cells (qm (r1 ((l.getD k default).b).toNat)++[.int .i64 (k:Int)]) tI)] (.slice (some ⟨b40,0,none⟩) ((r1 ((l.getD k default).b).toNat).length+1) (2*((r1 ((l.getD k default).b).toNat).length+1)+1)) (qm (r1 ((l.getD k default).b).toNat++[(k:Int)])) (r1 ((l.getD k default).b).toNat++[(k:Int)]).length:=by rw[hl9,List.length_append];exact .block b40 _ _ _ (by rw[List.length_append,vF];simp) (by omega)
 have hfr2:=hfr1.set (a:=((l.getD k default).b).toNat) O ho9
 refine⟨_,J,H.drop0.up O,?_⟩
 exact hfr2.cong fun v _=>by subst hr1;rfl
end Go.Proofs.YtocnbjjmmgolfaaGreat
namespace Go.Proofs.YtocnbjjmmgolfaaGreat
open Go Go.M Go.Proofs.C14
theorem fb182:xK Tryz.f182 (Tryz.f182.body.getD .skip) 2=true:=by kernel_rfl
theorem fb186:xK Tryz.f186 (Tryz.f186.body.getD .skip) 1=true:=by kernel_rfl
theorem fb108:xK Tryz.f108 (Tryz.f108.body.getD .skip) 1=true:=by kernel_rfl
theorem fc186:xJ Tryz.prog 186=true:=by kernel_rfl
theorem fb176:xK Tryz.f176 (Tryz.f176.body.getD .skip) 3=true:=by kernel_rfl
theorem fc182:xJ Tryz.prog 182=true:=by kernel_rfl
theorem fb107:xK Tryz.f107 (Tryz.f107.body.getD .skip) 4=true:=by kernel_rfl
theorem fc176:xJ Tryz.prog 176=true:=by kernel_rfl
theorem fb48:xK Tryz.f48 (Tryz.f48.body.getD .skip) 1=true:=by kernel_rfl
theorem fc107:xJ Tryz.prog 107=true:=by kernel_rfl
theorem fc108:xJ Tryz.prog 108=true:=by kernel_rfl
theorem un150:Tryz.prog.underlying 150=some (.int .u64):=by kernel_rfl
variable{t:TypeId}{a b:Int}{bq cap i j k m n n0:Nat}{kd:IntKind}{L L0:List Int}{rest:List Value}{s0:St}{R:Hp'}
section
variable{P:Program}{I:xP}{F:FF}{s:St}{Q:FF→St→Prop}{d:Option Tmp}{ty:TypeId}{pos:String}{af:Array Edge}{g:Option (Nat×Bool)}
theorem op_geqU{x y:Operand}{yt:TypeId}(hx:yQ F x=.int .u64 a)(hy:yQ F y=.int .u64 b)(h:a<b)(k:Q (upd F d (.bool false)) s):OpW P I ⟨d,.binOp .geq t x y yt,ty,pos,af,g⟩ F s Q:=by
 refine qf (v:=.bool false) (s':=s) ?_ k
 have h2:decide (b≤a)=false:=decide_eq_false O
 simp only[yX,jc,hx,hy,jf,Go.binOp,Op.intCmp,h2];rfl
theorem op_indexB{x i:Operand}{b:ByteArray}(hu:P.underlying t=some .string)(hx:yQ F x=.string b)(hi:yQ F i=.int kd (m:Int))(hl:m<b.data.toList.length)(k:∀c:UInt8,Q (upd F d (.int .u8 c.toNat)) s):OpW P I ⟨d,.index t x i,ty,pos,af,g⟩ F s Q:=by
 refine qf (v:=.int .u8 (b.data.toList[m]).toNat) (s':=s) ?_ (k _)
 have h1:qG b.data.toList m=some (b.data.toList[m]):=by rw[qR];exact List.getElem?_eq_getElem hl
 show indexV P t (yQ F x) (yQ F i) s=_
 rw[hx,hi]
 show indexV P t (.string b) (.int kd (Int.ofNat m)) s=_
 simp only[indexV,hu,h1]
 rfl
theorem op_convert8{src dst:TypeId}{x:Operand}{u:TypeDesc}(hu:P.underlying src=some u)(hd:P.underlying dst=some (.int .u8))(hx:yQ F x=.int kd a)(h:IntKind.u8.wrap a=a)(k:Q (upd F d (.int .u8 a)) s):OpW P I ⟨d,.convert src dst x,ty,pos,af,g⟩ F s Q:=
 op_convertI hu hd hx (by rw[h];exact k)
end
section
variable{P:Program}{I:xP}{f:FuncId}{args:Array Value}{s:St}{Q:Value→St→Prop}
theorem callLt(h:∃v s',xN P I f args s v s'∧(v=.bool (decide (a<b))∧s'=s))(c0:¬a<b→Q (.bool false) s)(c1:a<b→Q (.bool true) s):∃v s',xN P I f args s v s'∧Q v s':=by
 obtain⟨v,s',hr,rfl,rfl⟩:=h
 by_cases hab:a<b
 ·rw[decide_eq_true hab]at hr;exact⟨_,_,hr,c1 hab⟩
 ·rw[decide_eq_false hab]at hr;exact⟨_,_,hr,c0 hab⟩
theorem callSome(h:∃v s',xN P I f args s v s'∧((∃z,v=.int .i64 z)∧s'=s))(c:∀z,Q (.int .i64 z) s):∃v s',xN P I f args s v s'∧Q v s':=by
 obtain⟨v,s',hr,⟨z,rfl⟩,rfl⟩:=h
 exact⟨_,_,hr,c z⟩
end
theorem wrap8:∀n:Nat,n≤12→IntKind.u8.wrap (n:Int)=n:=by decide
theorem swap_perm:∀{L:List Int} {j:Nat},j+1<L.length→((L.set (j+1) (L.getD j 0)).set j (L.getD (j+1) 0)).Perm L
 | [],_,h=>by simp at h
 | [x],_,h=>by simp at h
 |x::y::L,0,_=>by simpa using List.Perm.swap x y L
 |x::y::L,j+1,h=>by
  have:=swap_perm (L:=y::L) (j:=j) (by simpa using h)
  simpa using this.cons x
theorem set_get{x:Int}(hi:i<L.length):(L.set i x).getD j 0=if j=i then x else L.getD j 0:=by
 rw[List.getD_eq_getElem?_getD,List.getElem?_set]
 by_cases h:i=j
 ·subst h;simp[hi]
 ·rw[if_neg h,if_neg (Ne.symm h),List.getD_eq_getElem?_getD]
def But(L:List Int)(i j:Nat):Prop:=∀p q,p<q→q≤i→(p≠j→q≠j→L.getD p 0≤L.getD q 0)∧(p=j→L.getD j 0≤L.getD q 0)
def Srt(L:List Int)(i:Nat):Prop:=∀p q,p<q→q<i→L.getD p 0≤L.getD q 0
theorem Srt.but(h:Srt L i):But L i i:=fun p q hpq hqi=>⟨fun _ hq=>h p q hpq O,fun hp=>by omega⟩
theorem But.srt(h:But L i j)(hj:j=0∨¬L.getD j 0<L.getD (j-1) 0):Srt L (i+1):=fun p q hpq hqi=>by
 by_cases hp:p=j
 ·exact hp▸(h p q hpq O).2 hp
 ·by_cases hq:q=j
  ·subst hq
   rcases hj with rfl|hj
   ·omega
   ·by_cases hp1:p=q-1
    ·rw[hp1];omega
    ·have:=(h p (q-1) O O).1 hp O;omega
  ·exact(h p q hpq O).1 hp hq
theorem But.swap(h:But L i (j+1))(hj:L.getD (j+1) 0<L.getD j 0)(hl:j+1<L.length):But ((L.set (j+1) (L.getD j 0)).set j (L.getD (j+1) 0)) i j:=fun p q hpq hqi=>by
 have e:∀k,((L.set (j+1) (L.getD j 0)).set j (L.getD (j+1) 0)).getD k 0=if k=j then L.getD (j+1) 0 else if k=j+1 then L.getD j 0 else L.getD k 0:=fun k=>by
  rw[set_get (by rw[List.length_set];omega),set_get hl]
 rw[e,e,e]
 refine⟨fun hp hq=>?_,fun hp=>?_⟩
 ·rw[if_neg hp,if_neg hq]
  by_cases hp1:p=j+1
  ·rw[if_pos hp1,if_neg (by omega)]
   exact(h j q O hqi).1 O O
  ·rw[if_neg hp1]
   by_cases hq1:q=j+1
   ·rw[if_pos hq1]
    exact(h p j O O).1 hp1 O
   ·rw[if_neg hq1]
    exact(h p q hpq hqi).1 hp1 hq1
 ·subst hp
  rw[if_pos rfl,if_neg (by omega)]
  by_cases hq1:q=p+1
  ·rw[if_pos hq1];omega
  ·rw[if_neg hq1]
   exact(h (p+1) q O hqi).2 J
theorem Srt.pw(h:Srt L L.length):L.Pairwise (·≤·):=by
 rw[List.pairwise_iff_getElem]
 intro p q hp hq hpq
 have:=h p q hpq hq
 rwa[List.getD_eq_getElem?_getD,List.getD_eq_getElem?_getD,List.getElem?_eq_getElem hp,List.getElem?_eq_getElem hq]at this
theorem lget_intsR(hk:k<L.length)(hm:m=k):qG (qm L++rest) m=some (.int .i64 (L.getD k 0)):=by
 subst hm
 have h1:=lget_ints hk
 rw[qR]at h1 ⊢
 rw[List.getElem?_append_left (by rw[vF];exact hk)]
 exact h1
theorem lput_intsR{x:Int}(hk:k<L.length)(hm:m=k):ky m [.int .i64 x] (qm L++rest)=some (qm (L.set k x)++rest):=lput_apx (qE hk hm)
set_option maxHeartbeats 4000000 in
set_option maxRecDepth 10000 in
theorem less_ok{I:xP}(hI:xA I){s:St}:∃v' s',xN Tryz.prog I 182 #[.int .i64 a,.int .i64 b] s v' s'∧(v'=.bool (decide (a<b))∧s'=s):=by
 refine zX 2 (hI 182 U U) Tryz.func182 J fb182 J ?_
 refine zE (zG (zD (zE (zC J (zF J fc236 J ?_)))))
 obtain⟨_,_,hr,rfl,rfl⟩:=isNaN_ok (s:=s) (n:=a) hI
 refine⟨_,_,hr,?_⟩
 clear hr
 refine zI J (zO J (zO J (zO J (yY J (zI J (zC J (zC J (xB J J (fun h=>?_) (fun h=>?_)))))))))
 ·refine yG J J (zK J (zD (yO (yB (yV (⟨congrArg Value.bool ?_,J⟩))))))
  exact(decide_eq_true O).symm
 refine yG J J (zK J (zD (yO (yB (yV (⟨congrArg Value.bool ?_,J⟩))))))
 exact(decide_eq_false O).symm
theorem un5:Tryz.prog.underlying 5=some (.int .u8):=by kernel_rfl
theorem un9:Tryz.prog.underlying 9=some .string:=by kernel_rfl
set_option maxHeartbeats 4000000 in
set_option maxRecDepth 10000 in
theorem len64_ok{I:xP}(hI:xA I){s:St}(hn:n≤12):∃v' s',xN Tryz.prog I 186 #[.int .u64 (n:Int)] s v' s'∧((∃z,v'=.int .i64 z)∧s'=s):=by
 refine zX 1 (hI 186 U U) Tryz.func186 J fb186 J ?_
 refine zE (zG (zD (yE (zE (zC J (op_geqU J J O (zD (yL rfl (yN (zR (yE ?_)))))))))))
 refine zE (zC J (op_geqU J J O (zD (yL rfl (yN (zR (yE (zE (zC J (op_geqU J J O (zD ?_)))))))))))
 refine yL rfl (yN (zR (zE (zC J (zC J (op_convert8 un183 un5 J (wrap8 n hn) (op_indexB un9 J J (by show n<_;exact Nat.lt_of_le_of_lt hn U) (fun c=>?_))))))))
 refine jq un5 un3 J (by have:=c.toNat_lt;unfold qp;omega) (yH J J (by have:=c.toNat_lt;unfold qp;omega) (zL J (zD (yO (yB (yV ?_))))))
 exact⟨⟨_,J⟩,J⟩
set_option maxHeartbeats 4000000 in
set_option maxRecDepth 10000 in
theorem lenB_ok{I:xP}(hI:xA I){s:St}(hn:n≤12):∃v' s',xN Tryz.prog I 108 #[.int .u64 (n:Int)] s v' s'∧((∃z,v'=.int .i64 z)∧s'=s):=by
 refine zX 1 (hI 108 U U) Tryz.func108 J fb108 J ?_
 refine zE (zG (zD (yE (yL rfl (yN (zR (zE (zC J (zF J fc186 J (callSome (len64_ok hI hn) (fun z=>?_)))))))))))
 refine zL J (zD (yO (yB (yV ?_))))
 exact⟨⟨_,J⟩,J⟩
set_option maxHeartbeats 4000000 in
set_option maxRecDepth 10000 in
theorem insertion_ok{I:xP}(hI:xA I){s:St}(H:HL [] s0 s ((bq,.cells (qm L0++rest) tI)::R) n0)(h12:L0.length≤12)(hroom:n0+1+s0.next≤yC) :
  ∃v' s',xN Tryz.prog I 176 #[.slice (some ⟨bq,0,none⟩) L0.length cap,.int .i64 0,.int .i64 (L0.length:Int)] s v' s'∧(∃L,v'=.tuple ⟨[]⟩∧HL [] s0 s' ((bq,.cells (qm L++rest) tI)::R) n0∧L.Perm L0∧L.Pairwise (·≤·)):=by
 refine zX 3 (hI 176 U U) Tryz.func176 J fb176 J ?_
 refine zE (zC J (yH J J Y (zL J (zD (yR (xR (fun k F s1=>∃(G:FF) (i:Nat) (L:List Int),F=lay G [(0,.slice (some ⟨bq,0,none⟩) L0.length cap),(1,.int .i64 0),(2,.int .i64 (L0.length:Int)),(6,.int .i64 (i:Int))]∧HL [] s0 s1 ((bq,.cells (qm L++rest) tI)::R) n0∧L.Perm L0∧L.length=L0.length∧1≤i∧(i≤L0.length∨i=1)∧k=13-i∧Srt L i) ?_ 12 _ _ ?_))))))
 rotate_left
 ·exact⟨_,1,L0,yZ ⟨J,J,J,J,trivial⟩,H,.refl _,J,by omega,by omega,J,fun p q h1 h2=>by omega⟩
 rintro k F s1 ⟨G,i,L,rfl,H,hp,hll,hi1,hi,rfl,hs⟩
 refine yE (zE (zC J (zC J (xB J J (fun h=>?_) (fun h=>?_)))))
 ·refine zD (yJ rfl (yN (zR (yE (yR (zE (zC J (zL J (zD (yR (xR (fun k F s1=>∃(G:FF) (j:Nat) (L2:List Int),F=lay G [(0,.slice (some ⟨bq,0,none⟩) L0.length cap),(1,.int .i64 0),(2,.int .i64 (L0.length:Int)),(6,.int .i64 (i:Int)),(7,.int .i64 (j:Int))]∧HL [] s0 s1 ((bq,.cells (qm L2++rest) tI)::R) n0∧L2.Perm L0∧L2.length=L0.length∧j≤i∧k=j∧But L2 i j) ?_ i _ _ ?_)))))))))))
  rotate_left
  ·exact⟨_,i,L,yZ ⟨J,J,J,J,J,trivial⟩,H,hp,hll,by omega,J,hs.but⟩
  rintro kx F s1 ⟨G,j,L2,rfl,H,hp2,hll2,hj,hkj,hbut⟩
  refine yE (yT [⟨0,0,.light,[]⟩,⟨1,0,.light,[]⟩,⟨2,3,.light,[]⟩,⟨3,7,.light,[]⟩,⟨4,15,.light,[12]⟩,⟨5,15,.light,[12]⟩,⟨6,63,.light,[12]⟩,⟨7,127,.light,[12]⟩,⟨8,15,.light,[7]⟩,⟨9,15,.light,[7]⟩,⟨10,527,.light,[7]⟩,⟨11,1807,.light,[7]⟩,⟨12,3855,.light,[7]⟩,⟨13,8191,.whole,[]⟩,⟨14,16383,.light,[]⟩] Z0 Z0 (zA J J (zC J ⟨J,(zA J J (zC J ⟨J,(zA J J (qv J J (fun h=>⟨J,?_⟩) (fun h=>⟨J,?_⟩)))⟩))⟩)))
  ·refine zA J J (zI J ⟨J,(zA J J (zH J ⟨J,(zA J J (zC J ⟨J,(zA J J (zP qn J J O O ⟨J,(zV J J sh3 J H.own0 Y0 (lget_intsR (k:=j) O O) (zA J J (zH J ⟨J,(zA J J (zC J ⟨J,(zA J J (qC J J Y ⟨J,(zA J J (zP qn J J O O ⟨J,(zV J J sh3 J H.own0 Y0 (lget_intsR (k:=j-1) O O) (zM J J (zF J fc182 J (callLt (less_ok hI) (fun hlt=>?_) (fun hlt=>?_)))))⟩))⟩))⟩))⟩)))⟩))⟩))⟩))⟩)
   ·refine zA J J (yD J J ⟨J,(zU (yL rfl (ql (xU (xZ (xX (xF (zR (yA (zC J (yH J J Y ?_)))))))))))⟩)
    refine zL J (zD (xG (⟨13-(i+1),by omega,_,i+1,L2,yZ ⟨J,J,J,J,trivial⟩,H,hp2,hll2,by omega,by omega,J,hbut.srt ?_⟩)))
    exact .inr O
   refine zA J J (yD J J ⟨J,(zU (yJ rfl (yN (zR (yE (yR ?_))))))⟩)
   obtain⟨k,rfl⟩:∃k,j=k+1:=⟨j-1,by omega⟩
   have hj1:(((k+1:Nat):Int)-1).toNat=k:=by omega
   rw[Nat.add_sub_cancel]at hlt
   refine wT [⟨0,0,.light,[9,13]⟩,⟨1,0,.light,[9,13]⟩,⟨2,0,.light,[9,13]⟩,⟨3,0,.light,[9,13]⟩,⟨4,8,.light,[9,13]⟩,⟨5,0,.light,[13]⟩,⟨6,0,.light,[13]⟩,⟨7,64,.light,[13]⟩,⟨8,224,.light,[13]⟩,⟨9,480,.light,[13]⟩,⟨10,0,.light,[9]⟩,⟨11,0,.light,[9]⟩,⟨12,3072,.light,[9]⟩,⟨13,7168,.light,[9]⟩,⟨14,16355,.light,[]⟩,⟨15,32739,.whole,[]⟩,⟨16,65535,.light,[]⟩,⟨17,131071,.whole,[]⟩] Z0 Z0 (zA J J (zH J ⟨J,(zA J J (zC J ⟨J,(zA J J (zH J ⟨J,(zA J J (zC J ⟨J,(zA J J (qC J J Y ⟨J,(zA J J (zH J ⟨J,(zA J J (zC J ⟨J,(zA J J (qC J J Y ⟨J,(zA J J (zP qn J J O O ⟨J,(zV J J sh3 J H.own0 Y0 (lget_intsR (k:=k) O O) (zA J J (zH J ⟨J,?_⟩)))⟩))⟩))⟩))⟩))⟩))⟩))⟩))⟩))⟩))
   refine zA J J (zC J ⟨J,(zA J J (zP qn J J O O ⟨J,(zV J J sh3 J H.own0 Y0 (lget_intsR (k:=k+1) O O) (zA J J (zP qn J J O O ⟨J,(xM (vs:=[.int .i64 _]) (fr:=[]) H J J sz3 J J J J (lput_intsR (k:=k+1) O O) J V1 O (fun s9 H=>?_))⟩)))⟩))⟩)
   refine zA J J (zP qn J J O O ⟨J,(xM (vs:=[.int .i64 _]) (fr:=[]) H rfl rfl sz3 rfl rfl rfl rfl (lput_intsR (k:=k) (by rw[List.length_set];omega) (by omega)) rfl (by intro p hp;cases hp) (by omega) (fun s9 H=>?_))⟩)
   refine zU (xF (zR (yA (zC J (qC J J Y (zL J (zD (xG (⟨k,by omega,_,k,_,yZ ⟨J,J,J,J,by show Value.int .i64 (((k+1:Nat):Int)-1)=_;congr 1;omega,trivial⟩,H,(swap_perm (by omega)).trans hp2,by rw[List.length_set,List.length_set];exact hll2,by omega,J,hbut.swap (by omega) (by omega)⟩)))))))))
  refine zA J J (zI J ⟨J,(zW J J (zW J J (zW J J (zW J J (zW J J (zW J J (zW J J (zW J J (zW J J (zW J J (zA J J (yY J ⟨J,?_⟩))))))))))))⟩)
  refine zU (yL rfl (ql (xU (xZ (xX (xF (zR (yA (zC J (yH J J Y (zL J ?_)))))))))))
  refine zD (xG (⟨13-(i+1),by omega,_,i+1,L2,yZ ⟨J,J,J,J,trivial⟩,H,hp2,hll2,by omega,by omega,J,hbut.srt ?_⟩))
  exact .inl O
 refine zD (yL rfl (ql (xU (xZ (xX (nrm_end (end_nil ?_)))))))
 have hii:L0.length≤i:=by omega
 exact⟨L,J,H,hp,Srt.pw fun p q h1 h2=>hs p q h1 O⟩
set_option maxHeartbeats 4000000 in
set_option maxRecDepth 10000 in
theorem pdq_ok{I:xP}(hI:xA I){s:St}(H:HL [] s0 s ((bq,.cells (qm L0++rest) tI)::R) n0)(h12:L0.length≤12){z:Int}(hroom:n0+1+s0.next≤yC) :
  ∃v' s',xN Tryz.prog I 107 #[.slice (some ⟨bq,0,none⟩) L0.length cap,.int .i64 0,.int .i64 (L0.length:Int),.int .i64 z] s v' s'∧(∃L,v'=.tuple ⟨[]⟩∧HL [] s0 s' ((bq,.cells (qm L++rest) tI)::R) n0∧L.Perm L0∧L.Pairwise (·≤·)):=by
 refine zX 4 (hI 107 U U) Tryz.func107 J fb107 J ?_
 refine zE (zG (zD (zE (zG (zD (yR (kf (yR (zE (zC J (zC J ?_)))))))))))
 refine qC J J Y (zL J (zD (yE (zE (zC J ?_)))))
 refine op_leq J J (fun h=>?_) Y6
 refine zD (yJ rfl (zE (zH J (zC J (zC J (zF J fc176 J ?_))))))
 obtain⟨_,s9,hr,L,rfl,H9,hL⟩:=insertion_ok hI H h12 hroom
 refine⟨_,_,hr,?_⟩
 clear hr
 refine zD (yO (xI (qc (xI (qc (yB (end_nil ?_)))))))
 exact⟨L,J,H9,hL⟩
set_option maxHeartbeats 4000000 in
set_option maxRecDepth 10000 in
theorem sort_ok{I:xP}(hI:xA I){s:St}(H:HL [] s0 s ((bq,.cells (qm L0++rest) tI)::R) n0)(h12:L0.length≤12)(hroom:n0+1+s0.next≤yC) :
  ∃v' s',xN Tryz.prog I 48 #[.slice (some ⟨bq,0,none⟩) L0.length cap] s v' s'∧(∃L,v'=.tuple ⟨[]⟩∧HL [] s0 s' ((bq,.cells (qm L++rest) tI)::R) n0∧L.Perm L0∧L.Pairwise (·≤·)):=by
 refine zX 1 (hI 48 U U) Tryz.func48 J fb48 J ?_
 refine zE (zH J (yF xV J J J (zL J (zD (yA (zH J (zC J (zC J (wI un3 un150 J (by unfold InU;omega) (zF J fc108 J (callSome (lenB_ok hI h12) (fun z=>?_))))))))))))
 refine zF J fc107 J ?_
 obtain⟨_,s9,hr,L,rfl,H9,hL⟩:=pdq_ok hI H h12 hroom (z:=z)
 refine⟨_,_,hr,?_⟩
 clear hr
 refine zD (nrm_end (end_nil ?_))
 exact⟨L,J,H9,hL⟩
end Go.Proofs.YtocnbjjmmgolfaaGreat
