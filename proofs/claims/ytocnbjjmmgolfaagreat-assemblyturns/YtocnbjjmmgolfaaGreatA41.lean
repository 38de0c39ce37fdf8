/- The program: the turns of the pieces, or the fits that contradict each other. -/
/- The law: both find the same turns and the same roots. -/
/- The start of a law: the arguments, as the abstract machine sees them; from a run of the machine to a contract of the program. -/
import Derived.Test.YtocnbjjmmgolfaaGreatA40
import Derived.Test.YtocnbjjmmgolfaaGreatA31
import Derived.Test.YtocnbjjmmgolfaaGreatA08
import Derived.Carry
import Derived.RowKit
namespace Go.Proofs.YtocnbjjmmgolfaaGreat
open Go Go.M Go.Proofs.C14
theorem bf94:buildF Tryz.prog 94=some ([.slice none 0 0,.slice none 0 0,.slice none 0 0,.slice none 0 0,.slice none 0 0,.slice none 0 0,.slice none 0 0,.slice none 0 0,.slice none 0 0,.slice none 0 0,.slice none 0 0,.slice none 0 0,.slice none 0 0],[(0,1),(1,12)]):=by kernel_rfl
theorem fb11:xK Tryz.f11 (Tryz.f11.body.getD .skip) 2=true:=by kernel_rfl
theorem fc17:xJ Tryz.prog 17=true:=by kernel_rfl
theorem fc45:xJ Tryz.prog 45=true:=by kernel_rfl
theorem fc46:xJ Tryz.prog 46=true:=by kernel_rfl
theorem fc47:xJ Tryz.prog 47=true:=by kernel_rfl
theorem fc48:xJ Tryz.prog 48=true:=by kernel_rfl
variable{l:List Ft}{tr:List Nat}{es:List (Hp'×Value)}{v:Int}{vl:Value}
theorem frst_nil:Frst l [] (List.replicate 12 E0):=⟨by simp,fun v hv=>by
 have e:(List.replicate 12 E0).getD v E0=E0:=by rw[List.getD_eq_getElem?_getD,List.getElem?_replicate];split<;>rfl
 rw[e]
 exact .nil⟩
theorem fheap_sub:∀{es:List (Hp'×Value)} {v:Nat} (_:v<es.length),(es.getD v E0).1⊆jx es
 | [],_,h=>by simp at h
 |e::es,0,_=>fun p hp=>by simp only[jx,List.map_cons,List.flatten_cons];exact List.mem_append_left _ hp
 |e::es,v+1,h=>fun p hp=>by
  simp only[jx,List.map_cons,List.flatten_cons]
  exact List.mem_append_right _ (fheap_sub (es:=es) (v:=v) (by simpa using h) hp)
theorem Frst.sld(h:Frst l tr es){W:List Nat}{s0 s:St}{L:Hp'}{n:Nat}(H:HL W s0 s L n)(hs:jx es⊆L)(h0:0≤v)(h1:v<12):SlD s (es.getD v.toNat E0).2 (ki (adj (ends l) tr v)):=by
 have h2:=(Own.slIn (h.own v.toNat (by omega))).2.sl H fun p hp=>hs (fheap_sub (by rw[h.len];omega) hp)
 rwa[Int.toNat_of_nonneg h0]at h2
theorem Frst.get(h:Frst l tr es)(h0:0≤v)(h1:v<12):qG (fcells vl es) (1+v.toNat)=some (es.getD v.toNat E0).2:=by
 have:=fcells_get (vl:=vl) (es:=es) h0 (by rw[h.len];omega)
 rwa[show 0+1+v.toNat*1=1+v.toNat by omega]at this
theorem Wy.whole{D:Hp'}{v:Value}{r:List Nat}{k:Nat}(h:Wy D v (r++[k])):∃b cap rest,D=[(b,.cells (qm (ki (r++[k]))++rest) tI)]∧v=.slice (some ⟨b,0,none⟩) (ki (r++[k])).length cap∧(ki (r++[k])).length≤cap / 2:=by
 generalize hr:r++[k]=q at h
 cases h with
 |nil=>simp at hr
 |block b cap len rest q hl hc=>
  subst hr hl
  exact⟨b,cap,rest,J,by rw[qT],by rw[qT];omega⟩
theorem slIn_rest{b cap len:Nat}{L:List Int}{rest:List Value}(hl:len=L.length)(hc:L.length≤cap / 2):SlIn [(b,.cells (qm L++rest) tI)] (.slice (some ⟨b,0,none⟩) len cap) L:=by
 subst hl
 refine .block b 0 cap _ J (List.mem_singleton.mpr J) hc fun k hk=>?_
 have hz:∀x∈L.map dc,x.length=1:=fun x hx=>by obtain⟨y,_,rfl⟩:=List.mem_map.mp hx;rfl
 have h1:=flat_get_app (r:=rest) hz (k:=k) (by rw[List.length_map];exact hk)
 rw[←ints_flat,jg hk]at h1
 exact h1
theorem partsR_ok{n:Nat}(h1:n≤12)(h2:kA n l=true):partsR n l=rts n l:=by
 rw[partsR,if_neg (by rintro(h|h|h);omega;omega;rw[h]at h2;cases h2)]
 rfl
section
variable{W:List Nat}{s0 s:St}{n:Nat}{p q0 q1:Nat×MObj}{A Φ:Hp'}
theorem turn_done(H:HL W s0 s (p::q0::q1::(A++Φ)) n):HL W s0 s (q1::(A++([p]++Φ))) n:=
 (HL.mid (A:=[p]) (B:=[q1]) (C:=A++Φ) H.drop1).perm (List.Perm.cons _ (List.perm_append_comm_assoc [p] A Φ))
end
set_option maxHeartbeats 4000000 in
set_option maxRecDepth 10000 in
theorem turnsP_ok{I:xP}(hI:xA I){s:St}(hf:Fine s){K:Kw}(hK:Kn s K){T:Nat→Q2}(hF:FtsK K l T)(hl:SlF s vl l)(h100:l.length≤100)(h6:(qj (ends l) l.length).length≤6){n:Int}(hn64:qp n)(hroom:s.next+3400000000000≤yC) :
  ∃v' s',xN Tryz.prog I 11 #[.int .i64 n,vl] s v' s'∧PostTu K s 3400000000000 (turnsR n l T) v' s':=by
 rw[Nat.add_comm]at hroom
 have H:=hf.hl
 have hA:=hF.any
 obtain⟨al,len,cap,rfl,hn⟩:=hl.isSlice
 rw[List.length_map]at hn
 subst hn
 refine zX 2 (hI 11 U U) Tryz.func11 J fb11 J ?_
 refine zE (zG (zG (zG (zD (yE (yR (zE (zC J (qv J J (fun h=>?_) (fun h=>?_))))))))))
 ·refine zI J (zO J (zO J (zO J (xS J (zK J (zD (yJ rfl (zE (zG (zG (zG ?_)))))))))))
  refine zD (yO (qc (xI (yB (jk J J J ?_)))))
  rw[turnsR_limit (by omega)]
  exact⟨[],_,_,[],J,(H.sub Z9).up O,.nil _ J J,TurnsK.nil,.nil _ J J⟩
 refine zI J (zH J (yF un24 J J J (qv J J (fun h=>?_) (fun h=>?_))))
 ·refine yG J J (zK J (zD (yJ rfl (zE (zG (zG (zG (zD (yO (qc (xI ?_)))))))))))
  refine yB (jk J J J ?_)
  rw[turnsR_limit (by omega)]
  exact⟨[],_,_,[],J,(H.sub Z9).up O,.nil _ J J,TurnsK.nil,.nil _ J J⟩
 refine yG J J (zK J (zD (yL rfl (zE (zC J (xB J J (fun h=>?_) (fun h=>?_)))))))
 ·refine zI J (zO J (zO J (zO J (zO J (xS J (zK J (zD (yJ rfl (zE (zG (zG ?_)))))))))))
  refine zG (zD (yO (qc (xI (yB (jk J J J ?_))))))
  rw[turnsR_arg (by omega) (.inl (by omega))]
  exact⟨[],_,_,[],J,(H.sub Z9).up O,.nil _ J J,TurnsK.nil,.nil _ J J⟩
 refine zI J (zC J (zH J (zF J fc44 J (callB (rightP_ok hI H.fine (kn0 hK H) (hl.kept H) (hF.mono zZ) h100 Z4) (fun hb1 s9 Hc=>?_) (fun hb1 s9 Hc=>?_)))))
 ·have H:=H.call0 Hc
  clear Hc
  refine qt J (yG J J (zK J (zD (yJ rfl (zE (zG (zG (zG (zD (yO (qc ?_)))))))))))
  refine xI (yB (jk J J J ?_))
  rw[turnsR_arg (by omega) (.inr (by assumption))]
  exact⟨[],_,_,[],J,(H.sub Z9).up O,.nil _ J J,TurnsK.nil,.nil _ J J⟩
 have H:=H.call0 Hc
 clear Hc
 refine qt J (yG J J (zK J (zD (yL rfl (yN (xF (zR ?_)))))))
 have hnr:¬(n<0∨kA n l=false):=by intro h;rcases h with h|h;omega;rw[h]at hb1;cases hb1
 have hRi:=hb1
 clear hb1
 obtain⟨nn,rfl⟩:∃nn:Nat,n=(nn:Int):=⟨n.toNat,by omega⟩
 have hE:=rightB_ends hRi O
 have hRo:=rts_of hRi
 refine zE (zH J (xE (c:=[.slice _ _ _,.slice _ _ _,.slice _ _ _,.slice _ _ _,.slice _ _ _,.slice _ _ _,.slice _ _ _,.slice _ _ _,.slice _ _ _,.slice _ _ _,.slice _ _ _,.slice _ _ _,.slice _ _ _]) bf94 J (zY H J O (fun b38 s1 H=>?_))))
 refine op_assignP J (zD (yE ?_))
 have H:HL [] s _ ((b38,.cells (fcells (.slice al l.length cap) (List.replicate 12 E0)) 94)::(jx (List.replicate 12 E0)++[])) _:=H
 refine zE (zH J (yF un24 J J J (kB (zD (yR (xR (fun k F s1=>∃(G:FF) (i m:Nat) (es:List (Hp'×Value)),F=lay G [(0,.int .i64 (nn:Int)),(1,.slice al l.length cap),(7,.pointer (some ⟨b38,0,none⟩)),(39,.slice al l.length cap),(40,.int .i64 (l.length:Int)),(41,.int .i64 (i:Int))]∧HL [] s s1 ((b38,.cells (fcells (.slice al l.length cap) es) 94)::(jx es++[])) m∧m≤5200000+i*43300000000∧i≤l.length∧k=l.length-i∧first (ends l) T i=none∧Frst l (qj (ends l) i) es) ?_ l.length _ _ ?_))))))
 rotate_left
 ·exact⟨_,0,_,_,yZ ⟨J,J,J,J,J,J,trivial⟩,H,by omega,by omega,by omega,J,frst_nil⟩
 rintro k F s1 ⟨G,i,m,es,rfl,H,hm,hi,rfl,hfi,hfr⟩
 refine zE (xB J J (fun h=>?_) (fun h=>?_))
 ·refine zD (yE (yJ rfl (yN (zR (yE (yR ?_))))))
  have hii:i<l.length:=by omega
  have hq:=hF.fit i hii
  obtain⟨b1,off1,c1_,he1,hg1,hb1,hc9,_⟩:=vT hl hii hq
  obtain⟨e0,e3,e4⟩:=hE i hii
  have e1:(ends l i).1=(l.getD i default).a:=rfl
  have e2:(ends l i).2=(l.getD i default).b:=rfl
  rw[e1]at e0 e3
  rw[e2]at e3 e4
  have hct:=cells_t hq
  obtain⟨n11,a11,m11,c11,n12,a12,m12,c12,n13,a13,m13,c13,n14,a14,m14,c14,eT,hX1,hY1⟩:=hq.t
  rw[eT]at hct
  refine zE (zC J (zP el24 (by rw[←he1];rfl) J (by omega) (by omega) (zN sh40 J W8 hc9 (zS H zf40 O (fun b9 s2 H=>?_)))))
  refine zL J (zT (vs:=(l.getD i default).cells) H sz40 J J (beq_llen hq.len) hq.plain (lput_full (by rw[hq.len];rfl)) (by omega) (fun s9 H=>?_))
  refine zD (zE (op_moveP J (zB vV J (zJ sh3 J H.own0 J (zB wJ J (zJ sh3 J H.own0 J (zF J fc45 J ?_)))))))
  obtain⟨_,s9,hr,Dw,vw,D9,t8,rfl,Hc,hwy,hv8⟩:=walkP_ok hI H.fine (hK.x H (D:=[]) V1) (T:=T) hE (tr:=qj (ends l) i) (fun k hk=>Nat.lt_of_lt_of_le (vC _ k hk) O) (by have:=trees_le (e:=ends l) (show i≤l.length by omega);omega) (kr _) rfl (va:=fun v=>(es.getD v.toNat E0).2) (fun v h0 h1=>hfr.get h0 h1) (bt:=b38) (H.own (b38,_) Y8).1 (H.own (b38,.cells (fcells (.slice al l.length cap) es) 94) Y8).2.1 (fun v h0 h1=>hfr.sld H Z8 h0 h1) (hl.kept H) (hF.mono zZ) (v:=(l.getD i default).a) (w:=(l.getD i default).b) O O Z4
  refine⟨_,_,hr,?_⟩
  clear hr
  have H:=H.callE Hc
  simp only[List.cons_append,List.append_assoc,List.nil_append]at H
  clear Hc
  replace hv8:=hv8.mono (kx_in (A:=[]) (D:=D9) (D':=D9) V1 Z7)
  obtain⟨n71,a71,m71,c71,n72,a72,m72,c72,n73,a73,m73,c73,n74,a74,m74,c74,rfl,h8X,h8Y⟩:=hv8
  obtain⟨aw,cw,rfl⟩:=hwy.isSlice
  rcases hw:way (ends l) (qj (ends l) i) (l.getD i default).a (l.getD i default).b with _|r9
  ·rw[hw]at h8X h8Y hwy
   simp only[Option.getD_none,Option.getD_some]at hwy
   refine qo J (yI J J (yI J J (yI J J (zS H zf36 O (fun b11 s3 H=>?_)))))
   refine yU J (zT (vs:=[.bool _,.slice _ _ _,.bool _,.slice _ _ _,.bool _,.slice _ _ _,.bool _,.slice _ _ _]) H jo J J J J J O (fun s4 H=>?_))
   refine zK J (zD (yE (zE (zI J (qt J (zD (yJ rfl (zE (op_moveP J (zC J (zF J fc46 J ?_)))))))))))
   obtain⟨_,s9,hr,es2,rfl,H,hfr2⟩:=add46_ok hI (R:=Dw++D9) (es:=es) (k:=i) H.drop0.drop0 hl hA hE hii h100 hfr (fun v=>by have:=adj_len (e:=ends l) (tr:=qj (ends l) i) (v:=(v:Int));have:=trees_len (e:=ends l) i;rw[qT];omega) (by omega)
   refine⟨_,_,hr,?_⟩
   clear hr
   refine zD (ql (xU (xX (zR (yA (yH J J Y (zC J (zD (xG (⟨l.length-(i+1),by omega,_,i+1,_,es2,yZ ⟨J,J,J,J,J,J,trivial⟩,(by rw[List.append_nil];exact H.sub (.cons_cons _ (List.sublist_append_left _ _))),by omega,by omega,J,?_,?_⟩))))))))))
   ·rw[first_step hfi,clash_none hw]
    rfl
   ·rw[qj,show way (ends l) (qj (ends l) i) (ends l i).1 (ends l i).2=none from hw]
    simp only[Option.isSome_none,Bool.false_eq_true,if_false]
    exact frst_step O O hfr2
  rw[hw]at h8X h8Y hwy
  simp only[Option.getD_none,Option.getD_some]at hwy
  refine qo J (yI J J (yI J J (yI J J (zS H zf36 O (fun b11 s5 H=>?_)))))
  refine yU J (zT (vs:=[.bool _,.slice _ _ _,.bool _,.slice _ _ _,.bool _,.slice _ _ _,.bool _,.slice _ _ _]) H jo J J J J J O (fun s6 H=>?_))
  refine zK J (zD (yE (zE (zI J (qt J (zD (yL rfl (yN (zR (zE (zN kU J H.own0 J ?_)))))))))))
  refine zB of40_5 J (zN kU J H.own1 hct (zF J fc47 J (callB (sameTurnP_ok hI H.fine (hK.x H (D:=D9) Z8) h8X h8Y (hX1.mono zZ) (hY1.mono zZ) U U Z4) (fun hb2 s9 Hc=>?_) (fun hb2 s9 Hc=>?_))))
  ·have H:=H.call0 Hc
   clear Hc
   refine qt J (zD (yJ rfl ?_))
   have hne:¬vH (ends l) T r9 (ends l i).1 wC=T i:=fun h=>of_decide_eq_false hb2 (q2_eq.mpr h)
   have hnd:=way_nodup (kr i) hw
   have hrl7:=dfs_len hw
   have htl9:=trees_le (e:=ends l) (show i≤l.length by omega)
   refine zE (zH J (zC J (yS (c:=[.int _ _]) H kg J J O (fun b68 s7 H=>?_))))
   have hgt:=H.own0
   have H:=HL.mid2 (A:=[_,_,_]) (B:=jx es) (C:=Dw) (E:=D9) H.drop0
   refine op_wyPush H hwy kg xV J J J W0 O O (fun DX v9 s9 hwy H=>?_)
   obtain⟨bq,cq,rq,rfl,rfl,hcq⟩:=hwy.whole
   refine yU J (zD (zE (zH J (zF J fc48 J ?_))))
   obtain⟨_,s9,hr,L,rfl,H,hLp,hLs⟩:=sort_ok hI H (by rw[qT,List.length_append,List.length_singleton];omega) (by omega)
   refine⟨_,_,hr,?_⟩
   clear hr
   refine zD (zE (zH J (zG (yU J (zG (zD (yO (qc (xI (kX (qc ?_)))))))))))
   refine xI (yB (jk J J J ?_))
   rw[turnsR_cyc (by omega) hnr (first_some (by rw[first_step hfi,clash_some hw hne];rfl) (show i+1≤l.length by omega))]
   have hfo:(ki r9).foldl insS [(i:Int)]=L:=fold_isort hnd.1 (fun j hj=>vC i j (hnd.2 j hj)) hLs hLp
   rw[hfo]
   exact⟨[(bq,_)]++_,_,_,[],J,H.up (by omega),.nil _ J J,TurnsK.nil,(slIn_rest hLp.length_eq.symm (by rw[hLp.length_eq];exact hcq)).mono (List.subset_append_left _ _)⟩
  have H:=H.call0 Hc
  clear Hc
  refine qt J (zD (yL rfl (yN (xF (zR (yA (yH J J Y (zC J (zD (xG (⟨l.length-(i+1),by omega,_,i+1,_,es,yZ ⟨J,J,J,J,J,J,trivial⟩,(by rw[List.append_nil];exact H.drop0.drop0.sub (.cons_cons _ (List.sublist_append_left _ _))),by omega,by omega,J,?_,?_⟩)))))))))))
  ·rw[first_step hfi,clash_ok hw (q2_eq.mp (of_decide_eq_true hb2))]
   rfl
  ·rw[qj,show way (ends l) (qj (ends l) i) (ends l i).1 (ends l i).2=some r9 from hw]
   exact hfr
 refine zD (yE (yL rfl (ql (xU (xZ (xX (zR (zE (zG (zD (yE ?_)))))))))))
 have hfi9:first (ends l) T l.length=none:=by rw[show l.length=i by omega];exact hfi
 rw[show i=l.length by omega]at hfr
 refine zE (zC J (zH J (zF J fc17 J ?_)))
 obtain⟨vp,s9,hr,D8,Hc,hsp⟩:=partsP_ok hI H.fine (hK.x H (D:=[]) V1) (hl.kept H) (hF.mono zZ) h100 (n:=(nn:Int)) Z4
 refine⟨_,_,hr,?_⟩
 clear hr
 rw[partsR_ok (by omega) hRi]at hsp
 have H:=H.callE Hc
 simp only[List.cons_append,List.append_assoc,List.nil_append]at H
 clear Hc
 obtain⟨ap,lp,cp,rfl,hlp⟩:=hsp.isSlice
 rw[hRo.len]at hlp
 refine yF xV J J J (kB (zD (yR (xR (fun k F s1=>∃(G:FF) (i m:Nat) (v:Value) (cs:List (List Value)) (Dt Φ:Hp') (ap:Option Addr),F=lay G [(7,.pointer (some ⟨b38,0,none⟩)),(13,v),(76,.slice ap lp cp),(77,.int .i64 (lp:Int)),(78,.int .i64 (i:Int))]∧HL [] s s1 ((b38,.cells (fcells (.slice al l.length cap) es) 94)::(jx es++(Dt++Φ))) m∧m≤2800000000000+i*43300000000∧i≤nn∧k=nn-i∧Own 36 8 Dt v cs.flatten cs.length∧cs.length=i∧TurnsK (KX K Φ) cs ((List.range i).map (trn nn l T))∧SlIn Φ (.slice ap lp cp) (rts nn l)) ?_ nn _ _ ?_))))
 rotate_left
 ·exact⟨_,0,_,_,[],[],_,_,yZ ⟨J,J,J,J,J,trivial⟩,H,by omega,by omega,by omega,.nil,J,TurnsK.nil,hsp⟩
 rintro k F s1 ⟨G,i,m,v,cs,Dt,Φ,ap,rfl,H,hm,hi,rfl,ho,hlc,hcs,hsp⟩
 refine zE (xB J J (fun h=>?_) (fun h=>?_))
 ·refine zD (yE (yJ rfl (yN (zR (yE (yR ?_))))))
  have hin:i<nn:=by omega
  obtain⟨hr0,hr1⟩:=hRo.le i hin
  obtain⟨r9,hw9⟩:=Option.isSome_iff_exists.mp (root_way (kr _) hRo hin)
  obtain⟨b5,off5,c5_,he5,hg5,hb5,hc5⟩:=(hsp.sl H (by intro p hp;simp[hp])).atD (i:=(i:Int)) (k:=i) rfl (by rw[hRo.len];omega)
  subst he5
  refine zE (zC J (zP qn J J O O (zJ sh3 J hg5 hc5 (zL J (zL J (zD (zE (op_moveP J (zC J (zC J (zF J fc45 J ?_)))))))))))
  obtain⟨_,s9,hr,Dw,vw,D9,t8,rfl,Hc,hwy,hv8⟩:=walkP_ok hI H.fine (hK.x H (D:=[]) V1) (T:=T) hE (tr:=(qj (ends l) l.length)) (fun k hk=>Nat.lt_of_lt_of_le (vC _ k hk) O) (by have:=trees_le (e:=ends l) (show l.length≤l.length by omega);omega) (kr _) rfl (va:=fun v=>(es.getD v.toNat E0).2) (fun v h0 h1=>hfr.get h0 h1) (bt:=b38) (H.own (b38,_) Y8).1 (H.own (b38,.cells (fcells (.slice al l.length cap) es) 94) Y8).2.1 (fun v h0 h1=>hfr.sld H Z8 h0 h1) (hl.kept H) (hF.mono zZ) (v:=(rts nn l).getD i 0) (w:=(i:Int)) O O Z4
  refine⟨_,_,hr,?_⟩
  clear hr
  have H:=H.callE Hc
  simp only[List.cons_append,List.append_assoc,List.nil_append]at H
  clear Hc
  replace hv8:=hv8.mono (kx_in (A:=[]) (D:=D9) (D':=D9) V1 Z7)
  obtain⟨n71,a71,m71,c71,n72,a72,m72,c72,n73,a73,m73,c73,n74,a74,m74,c74,rfl,h8X,h8Y⟩:=hv8
  obtain⟨aw,cw,rfl⟩:=hwy.isSlice
  rw[hw9]at h8X h8Y hwy
  replace hsp:=hsp.mono (D':=Φ++(Dw++D9)) (List.subset_append_left _ _)
  replace hcs:=hcs.mono (wW (D':=Φ++(Dw++D9)) (List.subset_append_left _ _))
  replace h8X:=h8X.mono (wW (D':=Φ++(Dw++D9)) (fun _ h=>List.mem_append_right _ (List.mem_append_right _ h)))
  replace h8Y:=h8Y.mono (wW (D':=Φ++(Dw++D9)) (fun _ h=>List.mem_append_right _ (List.mem_append_right _ h)))
  generalize Φ++(Dw++D9)=Φ at *
  refine qo J (yI J J (yI J J (yI J J (zS H zf36 O (fun b17 s8 H=>?_)))))
  refine yU J (zT (vs:=[.bool _,.slice _ _ _,.bool _,.slice _ _ _,.bool _,.slice _ _ _,.bool _,.slice _ _ _]) H jo J J J J J O (fun s9 H=>?_))
  refine zK J (zD (yA (xL (zN kU J H.own0 J (yS (c:=[.bool _,.slice _ _ _,.bool _,.slice _ _ _,.bool _,.slice _ _ _,.bool _,.slice _ _ _]) H sl42 J J O (fun b93 s10 H=>?_))))))
  have hgt:=H.own0
  have H:=HL.mid2 (A:=[_,_]) (B:=jx es) (C:=Dt) (E:=Φ) H.drop0
  refine qi (L:=_) (D:=Dt) H ho sl42 un42 J J J W0 U J J O O (fun b38_ s38 H ho=>?_)
  simp only[List.cons_append,List.nil_append]at H
  refine yU J (zD (xF (zR (yA (yH J J Y (zC J (zD (xG ?_))))))))
  have e9:trn nn l T i=vH (ends l) T r9 ((rts nn l).getD i 0) wC:=by unfold trn;rw[hw9];rfl
  refine⟨nn-(i+1),by omega,_,i+1,_,_,cs++[_],[_],Φ,_,yZ ⟨J,J,J,J,J,trivial⟩,turn_done H,by omega,by omega,J,by rw[wN,List.length_append];exact ho,by rw[List.length_append,hlc];rfl,?_,hsp⟩
  rw[range_snoc]
  exact hcs.snoc (by rw[e9];exact VecK.of h8X h8Y)
 refine zD (yE (yL rfl (ql (xU (xZ (xX (zR (zE (xL (xT (zG ?_)))))))))))
 refine zG (zD (yO (yB (jk J J J ?_))))
 rw[turnsR_ok (by omega) hnr hfi9]
 rw[show i=nn by omega]at hcs
 exact⟨jx es++(Dt++Φ),_,_,cs,J,H.drop0.up (by omega),((Own.slG hcs.all ho).mono (List.subset_append_left _ _)).mono (List.subset_append_right _ _),hcs.mono (wW fun _ h=>List.mem_append_right _ (List.mem_append_right _ h)),.nil _ J J⟩
end Go.Proofs.YtocnbjjmmgolfaaGreat
namespace Go.Proofs.YtocnbjjmmgolfaaGreat
open Go Go.M Go.Proofs.C14
theorem el41:elemF Tryz.prog 41=some (true,0,1):=by kernel_rfl
theorem fb3:xK Tryz.f3 (Tryz.f3.body.getD .skip) 5=true:=by kernel_rfl
theorem fc11:xJ Tryz.prog 11=true:=by kernel_rfl
theorem fc12:xJ Tryz.prog 12=true:=by kernel_rfl
theorem fc13:xJ Tryz.prog 13=true:=by kernel_rfl
theorem fc14:xJ Tryz.prog 14=true:=by kernel_rfl
theorem fc18:xJ Tryz.prog 18=true:=by kernel_rfl
theorem fc8:xJ Tryz.prog 8=true:=by kernel_rfl
theorem fc9:xJ Tryz.prog 9=true:=by kernel_rfl
theorem sl41:q6 Tryz.prog 41=some (24,1,24,[.slice none 0 0]):=by kernel_rfl
theorem un41:Tryz.prog.underlying 41=some (.slice 24):=by kernel_rfl
def LivesC(I:xP):Prop:=∀(s:St),Fine s→s.next+1000000≤yC→∃v' s',xN Tryz.prog I 18 #[] s v' s'∧qQ s 1000000 (.bool true) v' s'
theorem quo3_in{a:Int}(ha:qp a):qp (a.tdiv 3):=by
 unfold qp at *
 have h1:(a.tdiv 3).natAbs=a.natAbs / (3:Int).natAbs:=Int.natAbs_tdiv a 3
 have h2:(3:Int).natAbs=3:=rfl
 rw[h2]at h1
 omega
theorem SlG.isSlice{D:Hp'}{e:TypeId}{sz:Nat}{v:Value}{es:List (List Value)}(h:SlG D e sz v es):∃a cap,v=.slice a es.length cap:=by
 cases h with
 |nil c hv hl=>exact⟨_,_,by rw[hv,hl];rfl⟩
 |block b off cap c hv=>exact⟨_,_,hv⟩
def LOK(K:Kw)(Φ:Hp')(v:Value):Prop:=∃(l:List Ft) (T:Nat→Q2),SlG Φ 40 29 v (l.map Ft.cells)∧FtsK (KX K Φ) l T∧l.length≤65∧(qj (ends l) l.length).length≤6
variable{K:Kw}{Φ Φ':Hp'}{v:Value}{l:List Ft}{f:Ft}{c:Nat}{T:Nat→Q2}
theorem LOK.mono(h:LOK K Φ v)(hs:Φ⊆Φ'):LOK K Φ' v:=by
 obtain⟨l,T,h1,h2,h3,h4⟩:=h
 exact⟨l,T,h1.mono hs,h2.mono (wW hs),h3,h4⟩
theorem LOK.of(h1:SlG Φ 40 29 v (l.map Ft.cells))(h2:FtsA (KX K Φ) l)(h3:l.length≤6):LOK K Φ v:=by
 obtain⟨T,hT⟩:=h2.fts
 exact⟨l,T,h1,hT,by omega,Nat.le_trans (trees_len _) h3⟩
theorem many_trees(h0:0<l.length)(h4:l.length≤4)(hf:f=l.getD 0 default):(qj (ends (l++List.replicate c f)) (l++List.replicate c f).length).length≤6:=by
 have e:∀k,k<l.length→ends (l++List.replicate c f) k=ends l k:=fun k hk=>by
  unfold ends
  rw[List.getD_eq_getElem?_getD,List.getElem?_append_left hk,←List.getD_eq_getElem?_getD]
 rw[trees_same (n:=l.length) (by rw[List.length_append];omega) fun k h1 h2=>⟨0,h0,by
  rw[e 0 h0]
  unfold ends
  have:(l++List.replicate c f).getD k default=l.getD 0 default:=by
   rw[List.length_append,List.length_replicate]at h2
   rw[List.getD_eq_getElem?_getD,List.getElem?_append_right h1,List.getElem?_replicate,if_pos (by omega),Option.getD_some,hf]
  rw[this]⟩]
 exact Nat.le_trans (trees_len _) O
theorem LOK.many(h0:0<l.length)(h4:l.length≤4)(hf:f=l.getD 0 default)(h1:SlG Φ 40 29 v ((l++List.replicate c f).map Ft.cells))(h2:FtsA (KX K Φ) l)(h3:l.length+c≤65):LOK K Φ v:=by
 have hA:FtsA (KX K Φ) (l++List.replicate c f):=fun g hg=>by
  rcases List.mem_append.mp hg with h|h
  ·exact h2 g h
  ·rw[List.eq_of_mem_replicate h,hf];exact h2 _ (wM h0)
 obtain⟨T,hT⟩:=hA.fts
 exact⟨_,T,h1,hT,by rw[List.length_append,List.length_replicate];exact h3,many_trees h0 h4 hf⟩
theorem rep_snoc:((l++List.replicate (c+1) f).map Ft.cells).flatten=((l++List.replicate c f).map Ft.cells).flatten++f.cells:=by
 rw[List.replicate_succ',←List.append_assoc,List.map_append,List.map_singleton,wN]
structure Lists(K:Kw)(Φ:Hp')(c:List Value):Prop where
 at':∀i:Nat,i<5→∃v,qG c (0+(i:Int).toNat*1)=some v∧LOK K Φ v
theorem Lists.mono{c:List Value}(h:Lists K Φ c)(hs:Φ⊆Φ'):Lists K Φ' c:=⟨fun i hi=>(h.at' i hi).imp fun _ h=>⟨h.1,h.2.mono hs⟩⟩
theorem Lists.of{K:Kw}{Φ:Hp'}{v0 v1 v2 v4:Value}(h0:LOK K Φ v0)(h1:LOK K Φ v1)(h2:LOK K Φ v2)(h4:LOK K Φ v4):Lists K Φ [v0,v1,v2,.slice none 0 0,v4]:=⟨fun i hi=>by
 match i,hi with
 |0,_=>exact⟨v0,rfl,h0⟩
 |1,_=>exact⟨v1,rfl,h1⟩
 |2,_=>exact⟨v2,rfl,h2⟩
 |3,_=>exact⟨_,rfl,[],fun _=>wC,.nil 0 rfl rfl,⟨fun k hk=>by simp at hk⟩,by simp,by simp[qj]⟩
 |4,_=>exact⟨v4,rfl,h4⟩⟩
theorem nums_at{a b c d:Int}(ha:qp a)(hb:qp b)(hc:qp c)(hd:qp d){k:Nat}(hk:k<4):∃x,qG [Value.int .i64 a,.int .i64 b,.int .i64 c,.int .i64 d] (0+(k:Int).toNat*1)=some (.int .i64 x)∧qp x:=by
 match k,hk with
 |0,_=>exact⟨a,rfl,ha⟩
 |1,_=>exact⟨b,rfl,hb⟩
 |2,_=>exact⟨c,rfl,hc⟩
 |3,_=>exact⟨d,rfl,hd⟩
theorem turnsR_len{n:Int}:(turnsR n l T).1.length≤12:=by
 unfold turnsR
 split
 ·simp
 ·split
  ·simp
  ·split
   ·simp
   ·simp only[List.length_map,List.length_range];omega
theorem first_len{e:Nat→Int×Int}{T:Nat→Q2}:∀{n:Nat} {k:Nat} {r:List Nat},first e T n=some (k,r)→r.length≤n
 |0,_,_,h=>by simp[first]at h
 |n+1,k,r,h=>by
  rw[first]at h
  split at h
  ·next x hx=>cases h;have:=first_len hx;omega
  ·obtain⟨r2,h2,he⟩:=Option.map_eq_some_iff.mp h
   cases he
   unfold clash at h2
   split at h2
   ·cases h2
   ·next r3 hw=>
    split at h2
    ·cases h2
    ·cases h2
     have:=dfs_len hw
     have:=trees_len (e:=e) n
     omega
theorem turnsR_ints{n:Int}(h:l.length≤65):(turnsR n l T).2.1.length≤10000:=by
 unfold turnsR
 split
 ·simp
 ·split
  ·simp
  ·split
   ·next k r hf=>
    have h1:=first_len hf
    have h2:=fold_len (r:=ki r) (l:=[(k:Int)])
    rw[qT,List.length_singleton]at h2
    show((ki r).foldl insS [(k:Int)]).length≤10000
    omega
   ·simp
theorem partsR_len{n:Int}:(partsR n l).length≤10000:=by
 unfold partsR
 split
 ·simp
 ·rw[rts,roots_len];omega
set_option maxHeartbeats 4000000 in
set_option maxRecDepth 10000 in
theorem assemblyTurns_ok{I:xP}(hI:xA I){s:St}(hf:Fine s)(hK:Kn s K)(hlv:LivesC I){vl:Value}{ln:List Int}(hl:SlI s vl ln)(hin:∀x∈ln,qp x){n how by_ also:Int}(hn:qp n)(hhow:qp how)(hby:qp by_)(halso:qp also)(hroom:s.next+70000000000000≤yC) :
  ∃v' s',xN Tryz.prog I 3 #[.int .i64 n,vl,.int .i64 how,.int .i64 by_,.int .i64 also] s v' s'∧qQ s 70000000000000 (.bool true) v' s':=by
 rw[Nat.add_comm]at hroom
 have H:=hf.hl
 have hz2:=jh (a:=by_) (n:=2) U
 have hz15:=jh (a:=n) (n:=15) U
 refine zX 5 (hI 3 U U) Tryz.func3 J fb3 J ?_
 refine zE (zG (zD (zE (xL (zF J fc8 J ?_)))))
 obtain⟨_,s9,hr,Φ,fits,T0,np,ap,cp,vf,aa,na,ca,rfl,Hc,hsf,hft,hn2,hn4,hf1,hf4⟩:=broken14_ok hI H.fine (hK.x H (D:=[]) V1) (hl.kept H) hin Z4
 refine⟨_,_,hr,?_⟩
 clear hr
 have H:=H.callE Hc
 rw[List.nil_append]at H
 replace hft:=hft.fts.any.mono (kx_in (A:=[]) V1 Z7)
 obtain⟨bf,offf,capf,cf,rfl,hmf,hcf⟩:=hsf.blk (by rw[List.length_map];omega)
 have hfl1:(fits.map Ft.cells).length=fits.length:=List.length_map ..
 rw[hfl1]at hsf
 rw[hfl1]
 clear Hc
 refine zS H zf27 O (fun b11 s1 H=>?_)
 refine zT (vs:=[.slice _ _ _,.slice _ _ _,.slice _ _ _]) H sz27 J J J J J O (fun s2 H=>?_)
 refine zD (zE (zB of27_1 J (zJ sh24 J H.own0 J (zC J (zC J (zF J fc9 J ?_))))))
 obtain⟨v1,s9,hr,D9,l1,Hc,hs1,hA1,hl1⟩:=bent14_ok hI H.fine (kn1 hK H) (hsf.sl H Z8) hft O hhow hby Z4
 refine⟨_,_,hr,?_⟩
 clear hr
 obtain⟨Φ,ku,kd,hS,hDS,H⟩:=mergeT1 (K:=K) H Hc
 try replace hsf:=hsf.mono hS
 try replace hs1:=hs1.mono hS
 try replace hs2:=hs2.mono hS
 try replace hls:=hls.mono hS
 try replace hvt:=hvt.mono hS
 try replace hvi:=hvi.mono hS
 try replace hvt2:=hvt2.mono hS
 try replace hvi2:=hvi2.mono hS
 try replace h25:=h25.mono hS
 try replace hvp:=hvp.mono hS
 try replace hF:=hF.mono ku
 try replace hft:=hft.mono ku
 try replace hA1:=hA1.mono ku
 try replace hA2:=hA2.mono ku
 try replace hmf:=hS hmf
 try replace hcs:=hcs.mono ku
 try replace hcs2:=hcs2.mono ku
 try replace hsl:=hsl.mono hS
 replace hs1:=hs1.mono hDS
 replace hA1:=hA1.mono kd
 clear Hc ku kd hS hDS
 refine xT (zD (zE (xL (zC J (zC J (wY J J O (quo3_in hby) (zF J fc9 J ?_)))))))
 obtain⟨v2,s9,hr,D9,l2,Hc,hs2,hA2,hl2⟩:=bent14_ok hI H.fine (kn1 hK H) (hs1.sl H Z8) hA1 O halso (quo3_in hby) Z4
 refine⟨_,_,hr,?_⟩
 clear hr
 obtain⟨Φ,ku,kd,hS,hDS,H⟩:=mergeT1 (K:=K) H Hc
 try replace hsf:=hsf.mono hS
 try replace hs1:=hs1.mono hS
 try replace hs2:=hs2.mono hS
 try replace hls:=hls.mono hS
 try replace hvt:=hvt.mono hS
 try replace hvi:=hvi.mono hS
 try replace hvt2:=hvt2.mono hS
 try replace hvi2:=hvi2.mono hS
 try replace h25:=h25.mono hS
 try replace hvp:=hvp.mono hS
 try replace hF:=hF.mono ku
 try replace hft:=hft.mono ku
 try replace hA1:=hA1.mono ku
 try replace hA2:=hA2.mono ku
 try replace hmf:=hS hmf
 try replace hcs:=hcs.mono ku
 try replace hcs2:=hcs2.mono ku
 try replace hsl:=hsl.mono hS
 replace hs2:=hs2.mono hDS
 replace hA2:=hA2.mono kd
 clear Hc ku kd hS hDS
 refine xT (zD ?_)
 obtain⟨a1,c1,rfl⟩:=hs1.isSlice
 obtain⟨a2,c2,rfl⟩:=hs2.isSlice
 refine zE (yS (c:=[]) H sl24 J J O (fun b38 s3 H=>?_))
 refine zB of27_1 J (zJ sh24 J H.own1 J ?_)
 have hfA:=hft
 have hel:=(hsf.sl H Z8).elems hft.all U
 rw[List.length_map]at hel
 skip
 refine op_copy H sl24 un24 J J J hel O hfA.plain hfA.len O O (fun b41 s41 H=>?_)
 refine yU J (zD (yE (yR (xR (fun k F s1=>∃(G:FF) (c m:Nat) (v:Value) (Dm:Hp'),F=lay G [(0,.int .i64 n),(3,.int .i64 by_),(11,.pointer (some ⟨b11,0,none⟩)),(12,.slice a1 (l1.map Ft.cells).length c1),(13,.slice a2 (l2.map Ft.cells).length c2),(14,v)]∧HL [] s s1 ((b11,.cells [.slice ap np cp,.slice (some ⟨bf,offf,none⟩) fits.length capf,.slice aa na ca] 27)::(Dm++Φ)) m∧m≤820020000+c*2∧fits.length+c≤65∧k=65-c∧Own 40 29 Dm v ((fits++List.replicate c (fits.getD 0 default)).map Ft.cells).flatten (fits.length+c)) ?_ 65 _ _ ?_))))
 rotate_left
 ·refine⟨_,0,_,_,[(b41,_)],yZ ⟨J,J,J,J,J,J,trivial⟩,HL.mid (A:=[_]) (B:=[_]) (C:=Φ) H,by omega,by omega,by omega,?_⟩
  rw[List.replicate_zero,List.append_nil]
  exact .block b41 _ _ _ hfA.len.symm O
 rintro k F s1 ⟨G,c,m,v,Dm,rfl,H,hm,hc,rfl,ho⟩
 obtain⟨av,cv,rfl⟩:=ho.isSlice
 refine yE (zE (zH J (yF un24 J J J (zC J (zF J fc10 J (callS (around_ok hI hby U) (yH J J Y (xB J J (fun h=>?_) (fun h=>?_)))))))))
 ·refine zD (yJ rfl (yN (zR (yR ?_))))
  obtain⟨q0,hq0⟩:=hft.get (i:=0) O
  obtain⟨y0,y1,y2,y3,y4,y5,y6,y7,y8,y9,y10,y11,y12,y13,y14,y15,y16,y17,y18,y19,y20,y21,y22,y23,y24,y25,y26,y27,y28,hy0⟩:=list29 hq0.len
  have hc0:=hcf 0 O
  rw[jg (y:=default) (by omega),hy0]at hc0
  refine yA (zH J (zB of27_1 J (zJ sh24 J H.own0 J (zP el24 J J O O (zN sh40 J (H.own (bf,.cells cf 40) (by simp[hmf])).1 hc0 (yS (c:=[y0,y1,y2,y3,y4,y5,y6,y7,y8,y9,y10,y11,y12,y13,y14,y15,y16,y17,y18,y19,y20,y21,y22,y23,y24,y25,y26,y27,y28]) H sl24 J J O (fun b53 s53 H=>?_)))))))
  have hgt:=H.own0
  have H:=HL.mid (A:=[_]) (B:=Dm) (C:=Φ) H.drop0
  refine qi (L:=_) (D:=Dm) H ho sl24 un24 J J J (jy hgt J) (by decide) (by rw[←hy0];exact hq0.plain) J (by omega) (by omega) (fun b54 s54 H ho=>?_)
  simp only[List.cons_append,List.nil_append]at H
  refine yU J (zD (xF (xG (⟨65-(c+1),by omega,_,c+1,_,_,[(b54,_)],yZ ⟨J,J,J,J,J,J,trivial⟩,HL.mid (A:=[_]) (B:=[_]) (C:=Φ) H,by omega,by omega,by omega,?_⟩))))
  rw[rep_snoc,hy0]
  exact ho
 refine zD (yL rfl (ql (xU (xZ (xX (zR ?_))))))
 obtain⟨Φ2,hΦ2⟩:∃Φ2,Φ2=Dm++Φ:=⟨_,rfl⟩
 rw[←hΦ2]at H
 have hS:Φ⊆Φ2:=by rw[hΦ2];exact List.subset_append_right _ _
 have hD:Dm⊆Φ2:=by rw[hΦ2];exact List.subset_append_left _ _
 have hlm:LOK K Φ2 (.slice av (fits.length+c) cv):=LOK.many (by omega) hf4 rfl ((Own.slG (es:=(fits++List.replicate c (fits.getD 0 default)).map Ft.cells) (FtsA.all (K:=KX K Φ) (fun g hg=>by rcases List.mem_append.mp hg with h|h;exact hft g h;rw[List.eq_of_mem_replicate h];exact hft _ (wM (by omega)))) (by rw[List.length_map,List.length_append,List.length_replicate];exact ho)).mono hD) (hft.mono (wW hS)) (by omega)
 have hl0:LOK K Φ2 _:=LOK.of (hsf.mono hS) (hft.mono (wW hS)) O
 have hlo1:LOK K Φ2 _:=LOK.of (hs1.mono hS) (hA1.mono (wW hS)) O
 have hlo2:LOK K Φ2 _:=LOK.of (hs2.mono hS) (hA2.mono (wW hS)) O
 have hls:=Lists.of hl0 hlo1 hlo2 hlm
 refine zE (zB of27_1 J (zJ sh24 J H.own0 J (zH J (zH J (zH J (yS (c:=[.slice _ _ _,.slice _ _ _,.slice _ _ _,.slice _ _ _,.slice _ _ _]) H sl41 J J O (fun b60 s4 H=>?_)))))))
 refine yU J (zD ?_)
 have hnp:qp (np:Int):=by unfold qp;omega
 have hn5:qp 5:=by unfold qp;omega
 have hn15:qp (wU n 15-1):=by unfold qp;omega
 refine yT [⟨0,0,.light,[]⟩,⟨1,1,.light,[]⟩,⟨2,3,.light,[]⟩,⟨3,0,.light,[1]⟩,⟨4,0,.light,[1]⟩,⟨5,16,.whole,[1]⟩,⟨6,48,.light,[1]⟩,⟨7,127,.whole,[]⟩,⟨8,255,.light,[]⟩] Z0 Z0 (zA J J (zB of27_0 J ⟨J,(zV J J sh23 J H.own1 Y1 J (zA J J (yF un23 J J J ⟨J,(zA J J (zC J ⟨J,(zA J J (zC J ⟨J,(zM J J (zF J fc10 J (callS (around_ok hI hn U) (zA J J (qC J J Y ⟨J,(zM J J (yS (c:=[.int _ _,.int _ _,.int _ _,.int _ _]) H.fine.hl kg J J Z4 (fun b68 s5 Hc=>?_)))⟩)))))⟩))⟩))⟩)))⟩))
 have H:=H.call X8
 clear Hc
 refine zA J J (yU J ⟨J,(zU (yE ?_))⟩)
 generalize hC60:[Value.slice (some ⟨bf,offf,none⟩) fits.length capf,.slice a1 (l1.map Ft.cells).length c1,.slice a2 (l2.map Ft.cells).length c2,.slice none 0 0,.slice av (fits.length+c) cv]=C60 at H hls
 refine zE (zG (zD (yR (xR (fun k F s1=>∃(G:FF) (i m:Nat) (Φ:Hp'),F=lay G [(15,.slice (some ⟨b60,0,none⟩) 5 10),(16,.slice (some ⟨b68,0,none⟩) 4 8),(17,.int .i64 (i:Int))]∧HL [] s s1 ((b68,.cells [.int .i64 (np:Int),.int .i64 5,.int .i64 n,.int .i64 (wU n 15-1)] 3)::(b60,.cells C60 24)::Φ) m∧m≤830000000+i*13690000000000∧i≤5∧k=5-i∧Lists K Φ C60) ?_ 5 _ _ ?_))))
 rotate_left
 ·exact⟨_,0,_,Φ2,yZ ⟨J,J,J,trivial⟩,H.sub (.cons_cons _ (.cons_cons _ (.cons _ (.refl _)))),by omega,by omega,by omega,hls⟩
 rintro k F s1 ⟨G,i,m,Φ,rfl,H,hm,hi,rfl,hls⟩
 refine yE (zE (zC J (zH J (yF un41 J J J (xB J J (fun h=>?_) (fun h=>?_))))))
 ·refine zD (yJ rfl (yN (zR (yE (yR (zE (zG (zD (yR (xR (fun k F s1=>∃(G:FF) (k9 m2:Nat) (Φ:Hp'),F=lay G [(15,.slice (some ⟨b60,0,none⟩) 5 10),(16,.slice (some ⟨b68,0,none⟩) 4 8),(17,.int .i64 (i:Int)),(18,.int .i64 (k9:Int))]∧HL [] s s1 ((b68,.cells [.int .i64 (np:Int),.int .i64 5,.int .i64 n,.int .i64 (wU n 15-1)] 3)::(b60,.cells C60 24)::Φ) m2∧m2≤m+k9*3420000000000∧k9≤4∧k=4-k9∧Lists K Φ C60) ?_ 4 _ _ ?_))))))))))
  rotate_left
  ·exact⟨_,0,_,Φ,yZ ⟨J,J,J,J,trivial⟩,H,by omega,by omega,by omega,hls⟩
  rintro k F s1 ⟨G,k9,m2,Φ,rfl,H,hm2,hk9,rfl,hls⟩
  refine yE (zE (zC J (zH J (yF xV J J J (xB J J (fun h=>?_) (fun h=>?_))))))
  ·refine zD (yJ rfl (yN (zR (yE (yR ?_)))))
   obtain⟨v,hv,l,T,hsl,hF,hl65,h6⟩:=hls.at' i O
   obtain⟨x,hx,hx64⟩:=nums_at hnp hn5 hn hn15 (k:=k9) O
   refine yT [⟨0,0,.light,[7]⟩,⟨1,0,.light,[7]⟩,⟨2,3,.light,[7]⟩,⟨3,7,.light,[7]⟩,⟨4,0,.light,[3]⟩,⟨5,0,.light,[3]⟩,⟨6,48,.light,[3]⟩,⟨7,112,.light,[3]⟩,⟨8,255,.whole,[]⟩,⟨9,511,.light,[]⟩,⟨10,1023,.light,[]⟩,⟨11,1023,.light,[]⟩,⟨12,1023,.light,[]⟩,⟨13,2047,.light,[]⟩,⟨14,12287,.light,[]⟩,⟨15,32767,.light,[]⟩] Z0 Z0 (zA J J (zH J ⟨J,(zA J J (zC J ⟨J,(zA J J (zP qn J J O O ⟨J,(zV J J sh3 J H.own0 Y0 hx (zA J J (zH J ⟨J,(zA J J (zC J ⟨J,(zA J J (zP el41 J J O O ⟨J,(zV J J sh24 J H.own1 Y1 hv (zM J J (zF J fc11 J ?_)))⟩))⟩))⟩)))⟩))⟩))⟩))
   obtain⟨_,s9,hr,D9,vt,vi,cs,rfl,Hc,hvt,hcs,hvi⟩:=turnsP_ok hI H.fine (kn2 hK H) hF W4 O h6 hx64 Z4
   refine⟨_,_,hr,?_⟩
   clear hr
   have Hc:=HL.wider H.fine Z3 Z7 Hc
   obtain⟨Φ,ku,kd,hS,hDS,H⟩:=mergeT2 (K:=K) H Hc
   try replace hls:=hls.mono hS
   try replace hvt:=hvt.mono hS
   try replace hvi:=hvi.mono hS
   try replace hvt2:=hvt2.mono hS
   try replace hvi2:=hvi2.mono hS
   try replace h25:=h25.mono hS
   try replace hvp:=hvp.mono hS
   try replace hF:=hF.mono ku
   try replace hcs:=hcs.mono ku
   try replace hcs2:=hcs2.mono ku
   try replace hsl:=hsl.mono hS
   replace hvt:=hvt.mono hDS
   replace hvi:=hvi.mono hDS
   replace hcs:=hcs.mono kd
   clear Hc ku kd hS hDS
   refine zA J J (qo J ⟨J,(zA J J (yI J J ⟨J,(zA J J (yI J J ⟨J,(zA J J (yI J J ⟨J,(zA J J (xT ⟨J,(zA J J (xT ⟨J,(zA J J (zL J ⟨J,(zU (yT [⟨0,0,.light,[7]⟩,⟨1,0,.light,[7]⟩,⟨2,3,.light,[7]⟩,⟨3,7,.light,[7]⟩,⟨4,0,.light,[3]⟩,⟨5,0,.light,[3]⟩,⟨6,48,.light,[3]⟩,⟨7,112,.light,[3]⟩,⟨8,255,.whole,[]⟩,⟨9,511,.light,[]⟩,⟨10,1023,.light,[]⟩,⟨11,1023,.light,[]⟩,⟨12,1023,.light,[]⟩,⟨13,2047,.light,[]⟩,⟨14,12287,.light,[]⟩,⟨15,32767,.light,[]⟩] Z0 Z0 (zA J J (zH J ⟨J,(zA J J (zC J ⟨J,(zA J J (zP qn J J O O ⟨J,?_⟩))⟩))⟩))))⟩))⟩))⟩))⟩))⟩))⟩))⟩)
   refine zV J J sh3 J H.own0 Y0 hx (zA J J (zH J ⟨J,(zA J J (zC J ⟨J,(zA J J (zP el41 J J O O ⟨J,(zV J J sh24 J H.own1 Y1 hv (zM J J (zF J fc12 J ?_)))⟩))⟩))⟩))
   obtain⟨_,s9,hr,D9,vt2,vi2,cs2,rfl,Hc,hvt2,hcs2,hvi2⟩:=turns14_ok hI H.fine (kn2 hK H) hF W4 O h6 hx64 Z4
   refine⟨_,_,hr,?_⟩
   clear hr
   have Hc:=HL.wider H.fine Z3 Z7 Hc
   obtain⟨Φ,ku,kd,hS,hDS,H⟩:=mergeT2 (K:=K) H Hc
   try replace hls:=hls.mono hS
   try replace hvt:=hvt.mono hS
   try replace hvi:=hvi.mono hS
   try replace hvt2:=hvt2.mono hS
   try replace hvi2:=hvi2.mono hS
   try replace h25:=h25.mono hS
   try replace hvp:=hvp.mono hS
   try replace hF:=hF.mono ku
   try replace hcs:=hcs.mono ku
   try replace hcs2:=hcs2.mono ku
   try replace hsl:=hsl.mono hS
   replace hvt2:=hvt2.mono hDS
   replace hvi2:=hvi2.mono hDS
   replace hcs2:=hcs2.mono kd
   clear Hc ku kd hS hDS
   refine zA J J (qo J ⟨J,(zA J J (yI J J ⟨J,(zA J J (yI J J ⟨J,(zA J J (yI J J ⟨J,(zA J J (xT ⟨J,(zA J J (xT ⟨J,(zA J J (zL J ⟨J,(zU (yE (zE (zC J (zC J ?_)))))⟩))⟩))⟩))⟩))⟩))⟩))⟩)
   refine k6 J J (fun h=>False.elim (h J)) (fun h=>?_)
   refine zI J (xL (xL (zF J fc13 J (callE (sameTurns14_ok hI H.fine (kn2 hK H) (hvt.sl H Z8) (hvt2.sl H Z8) hcs hcs2 turnsR_len Z4) (fun s9 Hc=>?_)))))
   have H:=H.call0 Hc
   clear Hc
   refine qt J (yG J J (zI J (xL (xL (zF J fc14 J (callS (sameInts_ok hI H.fine (hvi.sl H Z8) (hvi2.sl H Z8) (turnsR_ints hl65) Y7) (qt J (yG J J (zD (yL rfl (yN (zR ?_))))))))))))
   refine zE (zG (zD (cw_mid (fun F2 s2=>∃(G:FF) (m4:Nat) (v25:Value) (Φ:Hp'),F2=lay G [(15,.slice (some ⟨b60,0,none⟩) 5 10),(16,.slice (some ⟨b68,0,none⟩) 4 8),(17,.int .i64 (i:Int)),(18,.int .i64 (k9:Int)),(25,v25)]∧HL [] s s2 ((b68,.cells [.int .i64 (np:Int),.int .i64 5,.int .i64 n,.int .i64 (wU n 15-1)] 3)::(b60,.cells C60 24)::Φ) m4∧m4≤m2+3410000000000∧SlIn Φ v25 (partsR x l)∧Lists K Φ C60∧SlG Φ 40 29 v (l.map Ft.cells)∧FtsK (KX K Φ) l T) ?_ ?_)))
   ·refine yT [⟨0,0,.light,[]⟩,⟨1,0,.light,[]⟩,⟨2,3,.light,[]⟩,⟨3,7,.light,[]⟩,⟨4,15,.light,[]⟩,⟨5,31,.light,[]⟩,⟨6,63,.light,[]⟩,⟨7,63,.light,[]⟩,⟨8,255,.light,[]⟩,⟨9,511,.light,[]⟩,⟨10,1023,.light,[]⟩,⟨11,2047,.light,[]⟩,⟨12,4095,.light,[]⟩,⟨13,8191,.light,[20]⟩,⟨14,8191,.light,[20]⟩,⟨15,32767,.light,[20]⟩,⟨16,65535,.light,[20]⟩,⟨17,8191,.light,[16]⟩,⟨18,8191,.light,[16]⟩,⟨19,401407,.light,[16]⟩,⟨20,925695,.light,[16]⟩,⟨21,2097151,.whole,[]⟩,⟨22,4194303,.light,[]⟩] Z0 Z0 (zA J J (zH J ⟨J,(zA J J (zC J ⟨J,(zA J J (zP qn J J O O ⟨J,(zV J J sh3 J H.own0 Y0 hx (zA J J (k7 J J (fun h=>⟨J,?_⟩) (fun h=>⟨J,?_⟩))))⟩))⟩))⟩))
    ·refine zA J J (zI J ⟨J,(zA J J (zH J ⟨J,(zA J J (zC J ⟨J,(zA J J (zP qn J J O O ⟨J,(zV J J sh3 J H.own0 Y0 hx (zA J J (op_leq J J (fun h=>⟨J,?_⟩) (fun h=>⟨J,?_⟩))))⟩))⟩))⟩))⟩)
     ·refine zA J J (yD J J ⟨J,(zA J J (zI J ⟨J,(zA J J (zH J ⟨J,(zA J J (zC J ⟨J,(zA J J (zP qn J J O O ⟨J,(zV J J sh3 J H.own0 Y0 hx (zA J J (zH J ⟨J,(zA J J (zC J ⟨J,(zA J J (zP el41 J J O O ⟨J,(zV J J sh24 J H.own1 Y1 hv (zM J J (zF J fc15 J (callB (right14_ok hI H.fine (kn2 hK H) W4 hF O Z4) (fun hb5 s9 Hc=>?_) (fun hb5 s9 Hc=>?_)))))⟩))⟩))⟩)))⟩))⟩))⟩))⟩))⟩)
      ·have Hc:=HL.wider H.fine Z3 Z7 Hc
       have H:=H.call0 Hc
       clear Hc
       refine zA J J (yD J J ⟨J,(zU (yL rfl (yN (vW ?_))))⟩)
       exact⟨_,_,_,Φ,yZ ⟨J,J,J,J,J,trivial⟩,H,by omega,by rw[partsR,if_pos (.inr (.inr (by assumption)))];exact .nil _ J J,hls,hsl,hF⟩
      have Hc:=HL.wider H.fine Z3 Z7 Hc
      have H:=H.call0 Hc
      clear Hc
      refine zA J J (yD J J ⟨J,(zU (yJ rfl ?_))⟩)
      obtain⟨nn,rfl⟩:∃nn:Nat,x=(nn:Int):=⟨x.toNat,by omega⟩
      refine wT [⟨0,0,.light,[7]⟩,⟨1,0,.light,[7]⟩,⟨2,3,.light,[7]⟩,⟨3,7,.light,[7]⟩,⟨4,0,.light,[3]⟩,⟨5,0,.light,[3]⟩,⟨6,48,.light,[3]⟩,⟨7,112,.light,[3]⟩,⟨8,255,.whole,[]⟩,⟨9,511,.light,[]⟩] Z0 Z0 (zA J J (zH J ⟨J,(zA J J (zC J ⟨J,(zA J J (zP qn J J O O ⟨J,(zV J J sh3 J H.own0 Y0 hx (zA J J (zH J ⟨J,(zA J J (zC J ⟨J,(zA J J (zP el41 J J O O ⟨J,(zV J J sh24 J H.own1 Y1 hv (zM J J (zF J fc16 J ?_)))⟩))⟩))⟩)))⟩))⟩))⟩))
      obtain⟨vp,s9,hr,D9,Hc,hvp⟩:=parts14_ok hI hF.any (n:=nn) O hb5 h6 hl65 H.fine W4 Z4
      refine⟨_,_,hr,?_⟩
      clear hr
      have Hc:=HL.wider H.fine Z3 Z7 Hc
      obtain⟨Φ,ku,kd,hS,hDS,H⟩:=mergeT2 (K:=K) H Hc
      try replace hls:=hls.mono hS
      try replace h25:=h25.mono hS
      try replace hvp:=hvp.mono hS
      try replace hF:=hF.mono ku
      try replace hsl:=hsl.mono hS
      replace hvp:=hvp.mono hDS
      clear Hc ku kd hS hDS
      refine zA J J (xT ⟨J,(zU (vW ?_))⟩)
      exact⟨_,_,_,Φ,yZ ⟨J,J,J,J,J,trivial⟩,H,by omega,by rw[partsR_ok (by omega) hb5];exact hvp,hls,hsl,hF⟩
     refine zA J J (yD J J ⟨J,(zA J J (zI J ⟨J,(zW J J (zW J J (zW J J (zW J J (zW J J (zW J J (zW J J (zW J J (zW J J (zA J J (yY J ⟨J,?_⟩)))))))))))⟩))⟩)
     refine zU (yL rfl (yN (vW ?_)))
     exact⟨_,_,_,Φ,yZ ⟨J,J,J,J,J,trivial⟩,H,by omega,by rw[partsR,if_pos (.inr (.inl (by omega)))];exact .nil _ J J,hls,hsl,hF⟩
    refine zA J J (zI J ⟨J,(zW J J (zW J J (zW J J (zW J J (zW J J (zA J J (yY J ⟨J,(zA J J (zI J ⟨J,(zW J J (zW J J (zW J J (zW J J ?_))))⟩))⟩)))))))⟩)
    refine zW J J (zW J J (zW J J (zW J J (zW J J (zA J J (yY J ⟨J,(zU (yL rfl (yN (vW ?_))))⟩))))))
    exact⟨_,_,_,Φ,yZ ⟨J,J,J,J,J,trivial⟩,H,by omega,by rw[partsR,if_pos (.inl (by omega))];exact .nil _ J J,hls,hsl,hF⟩
   rintro F2 s2 ⟨G,m4,v25,Φ,rfl,H,hm4,h25,hls,hsl,hF⟩
   refine yT [⟨0,0,.light,[7]⟩,⟨1,0,.light,[7]⟩,⟨2,3,.light,[7]⟩,⟨3,7,.light,[7]⟩,⟨4,0,.light,[3]⟩,⟨5,0,.light,[3]⟩,⟨6,48,.light,[3]⟩,⟨7,112,.light,[3]⟩,⟨9,0,.light,[3,7]⟩,⟨8,255,.whole,[]⟩,⟨10,1023,.whole,[]⟩,⟨11,2047,.light,[]⟩] Z0 Z0 (zA J J (zH J ⟨J,(zA J J (zC J ⟨J,(zA J J (zP qn J J O O ⟨J,(zV J J sh3 J H.own0 Y0 hx (zA J J (zH J ⟨J,(zA J J (zC J ⟨J,(zA J J (zP el41 J J O O ⟨J,(zV J J sh24 J H.own1 Y1 hv (zA J J (xL ⟨J,(zM J J (zF J fc17 J ?_))⟩)))⟩))⟩))⟩)))⟩))⟩))⟩))
   obtain⟨vp,s9,hr,D9,Hc,hvp⟩:=partsP_ok hI H.fine (kn2 hK H) W4 hF O (n:=x) Z4
   refine⟨_,_,hr,?_⟩
   clear hr
   have Hc:=HL.wider H.fine Z3 Z7 Hc
   obtain⟨Φ,ku,kd,hS,hDS,H⟩:=mergeT2 (K:=K) H Hc
   try replace hls:=hls.mono hS
   try replace h25:=h25.mono hS
   try replace hvp:=hvp.mono hS
   replace hvp:=hvp.mono hDS
   clear Hc ku kd hS hDS
   refine zM J J (zF J fc14 J (callS (sameInts_ok hI H.fine (hvp.sl H Z8) (h25.sl H Z8) partsR_len Z4) (zA J J (qt J ⟨J,(zU (yL rfl (yN (xF (zR (yA (zC J (yH J J Y (zL J (zD ?_))))))))))⟩))))
   refine xG ?_
   exact⟨4-(k9+1),by omega,_,k9+1,_,Φ,yZ ⟨J,J,J,J,trivial⟩,H,by omega,by omega,J,hls⟩
  refine zD (yL rfl (ql (xU (xZ (xX (xF (zR (yA (zC J (yH J J Y (zL J ?_)))))))))))
  refine zD (xG ?_)
  exact⟨5-(i+1),by omega,_,i+1,_,Φ,yZ ⟨J,J,J,trivial⟩,H,by omega,by omega,J,hls⟩
 refine zD (yL rfl (ql (xU (xZ (xX (zR (zE (zF J fc18 J (callE (hlv _ H.fine Z4) (fun s9 Hc=>?_))))))))))
 have H:=H.call0 Hc
 clear Hc
 refine zK J (zD (yO (yB (yV ?_))))
 exact⟨J,(H.sub Z9).up O⟩
end Go.Proofs.YtocnbjjmmgolfaaGreat
namespace Go.Proofs.YtocnbjjmmgolfaaGreat
open Go Go.M
structure Given(β:Ren)(s:St)(W:World)(v v':Value)(l:List Int):Prop where
 rel:Rel Tryz.prog β s W
 val:VRel Tryz.prog β v v'
 fine:Fine s
 sl:SlI s v l
 next:s.next≤1
 free:∀b,s.next≤b→β b=none
 shut:∀b,b<s.next→s.may b=false
theorem given_nil(W:World):∃β s v,Given β s W v (.slice none 0 0) []:=by
 refine⟨fun _=>none,⟨0,0,[],.nil⟩,.slice none 0 0,⟨?_,.snil,⟨Nat.le_refl _,fun p h=>(by cases h)⟩,.nil 0 rfl rfl,Nat.zero_le _,fun _ _=>rfl,fun b h=>(by cases h)⟩⟩
 exact⟨fun b m h=>(by cases h),fun b m o h=>(by cases h),fun b b' m m' o o' h=>(by cases h),Nat.zero_le _,fun b _=>rfl⟩
theorem given_block(W:World)(m:Img)(c:List Value)(o':Obj)(v v':Value)(l:List Int)(ho:W.heap[m.blk]? = some o')(hr:∀β,ORel Tryz.prog β m (.cells c 3) o')(hv:VRel Tryz.prog (fun b=>if b=0 then some m else none) v v')
  (hs:∀s:St,0<s.next→s.get 0=some (.cells c 3)→SlI s v l):∃β s v,Given β s W v v' l:=by
 refine⟨fun b=>if b=0 then some m else none,⟨1,1,[],.node (some (.cells c 3)) .nil .nil⟩,v,⟨?_,hv,⟨Nat.le_refl _,fun p h=>(by cases h)⟩,hs _ (Nat.one_pos) rfl,Nat.le_refl _,fun b hb=>?_,fun b hb=>?_⟩⟩
 ·refine⟨fun b m' h hb=>?_,fun b m' o h hb hg=>?_,fun b b' m' m'' o o'' h h' hb hb' hg hg' hm=>?_,(by show 1≤281474976710655;decide),fun b hb=>?_⟩
  ·have:b=0:=by simp only at hb;omega
   subst this
   simp only[if_pos]at h
   cases h
   exact(Array.getElem?_eq_some_iff.mp ho).1
  ·have:b=0:=by simp only at hb;omega
   subst this
   simp only[if_pos]at h
   cases h
   cases hg
   exact⟨o',ho,hr _⟩
  ·simp only at hb hb';omega
  ·simp only at hb
   cases b with
   |zero=>omega
   |succ k=>
    show Tr.get _ _=none
    simp only[Tr.get]
    split<;>rfl
 ·simp only at hb
  rw[if_neg (by omega)]
 ·have:b=0:=by simp only at hb;omega
  subst this
  rfl
theorem given_slice{W:World}{a:Addr}{len cap:Nat}{zs:List Int}(hsp:a.spot=none)(hz:zs.length=cap)(hl:len≤cap)(hsh:∃x,W.shape? a.block=some x)
  (hc:∀i,i<zs.length→W.cell? (a.add i)=some (.int .i64 (zs.getD i 0))) (hf:∀i,i<cap→W.frozen? ⟨a.block,a.off+i,none⟩=false) :
  ∃β s v,Given β s W v (.slice (some a) len cap) (zs.take len):=by
 obtain⟨b,off,sp⟩:=a
 simp only at hsp
 subst hsp
 obtain⟨x,hx⟩:=hsh
 unfold World.shape? at hx
 split at hx
 ·next cs e fz ho=>
  have hcs:∀i,i<cap→cs[off+i]? = some (.int .i64 (zs.getD i 0)):=fun i hi=>by
   have h:=hc i (by omega)
   have e1:(Addr.add ⟨b,off,none⟩ i)=⟨b,off+i,none⟩:=by unfold Addr.add;split<;>simp_all
   rw[e1]at h
   simpa[World.cell?,ho]using h
  by_cases h0:cap=0
  ·have:zs=[]:=List.eq_nil_of_length_eq_zero (by omega)
   subst this
   have hl0:len=0:=by omega
   subst hl0 h0
   refine given_block W ⟨b,0,0,3⟩ [] _ (.slice (some ⟨0,0,none⟩) 0 0) _ _ ho (fun β=>?_) (.szero (m:=⟨b,0,0,3⟩) (by simp)) (fun s hn hg=>.block 0 0 0 [] 3 (by simp) hg hn (fun k hk=>by simp at hk))
   exact .cells rfl (Nat.zero_le _) (.inl rfl) (fun i _ hi=>by simp at hi) (fun i v h=>by simp at h)
  ·refine given_block W ⟨b,off,off+cap,3⟩ (qm zs) _ (.slice (some ⟨0,0,none⟩) len (2*cap)) _ _ ho (fun β=>?_) ?_ (fun s hn hg=>.block 0 0 (2*cap) (qm zs) 3 (by simp[List.length_take];omega) hg hn (fun k hk=>?_))
   ·refine .cells rfl ?_ (.inr (by simp[qm];omega)) (fun i h1 h2=>?_) (fun i v h=>?_)
    ·have:=hcs (cap-1) (by omega)
     have:=(Array.getElem?_eq_some_iff.mp this).1
     simp only;omega
    ·simp only at h1 h2
     have:=hf (i-off) (by omega)
     simp only[World.frozen?,ho,show off+(i-off)=i by omega,Bool.and_eq_false_iff,decide_eq_false_iff_not]at this
     omega
    ·have hi:i<zs.length:=by
      have:=(List.getElem?_eq_some_iff.mp h).1
      simpa[qm]using this
     refine⟨.int .i64 (zs.getD i 0),?_,?_⟩
     ·simp only
      rw[Nat.add_comm]
      exact hcs i (by omega)
     ·have:v=.int .i64 (zs.getD i 0):=by
       have h2:=lget_ints hi
       rw[qR,h]at h2
       exact Option.some.inj h2
      subst this
      exact .int _ _
   ·have:=VRel.sknown (P:=Tryz.prog) (β:=fun b'=>if b'=0 then some (⟨b,off,off+cap,3⟩:Img)else none) (b:=0) (off:=0) (len:=len) (c:=cap) (m:=⟨b,off,off+cap,3⟩) (by simp)
    simpa using this
   ·have hk2:k<len:=by simp[List.length_take]at hk;omega
    rw[Nat.zero_add,lget_ints (by omega)]
    congr 2
    simp[List.getD_eq_getElem?_getD,List.getElem?_take,hk2]
 ·cases hx
theorem hmixT:Tryz.prog.follows .mixedOrders=true:=by kernel_rfl
theorem given_calls{β:Ren}{s s':St}{W:World}{v v':Value}{l:List Int}{f:FuncId}{n a b c:Int}{I:xP}(hT:TableS Tryz.prog I)(hf:Nat.ble qK f=false)(g:Given β s W v v' l)
  (hr:xN Tryz.prog I f #[.int .i64 n,v,.int .i64 a,.int .i64 b,.int .i64 c] s (.bool true) s') :
  Calls Tryz.prog f #[.int .i64 n,v',.int .i64 a,.int .i64 b,.int .i64 c] W fun | .returned x,w'=>x=.bool true∧RowKit.Below W.heap.size W w'|_,_=>False:=by
 obtain⟨k,hn⟩:=hr
 have hn:=hn k (Nat.le_refl _)
 have h:=(call_ok hmixT hT k).2.1 f #[.int .i64 n,v,.int .i64 a,.int .i64 b,.int .i64 c] #[.int .i64 n,v',.int .i64 a,.int .i64 b,.int .i64 c] s β W hf g.rel (.cons (.int _ _) (.cons g.val (.cons (.int _ _) (.cons (.int _ _) (.cons (.int _ _) .nil))))) (by rw[hn];intro h;cases h)
  (by rw[hn];intro x hx _;exact g.free x hx)
 rw[hn]at h
 refine h.mono fun e w' hp=>?_
 obtain⟨β',v2,rfl,hext,hv⟩:=hp
 cases hv
 refine⟨rfl,hext.os,hext.tape,hext.output,hext.size,fun k hk=>hext.out k hk fun x m o hb hlt hmay=>?_⟩
 rw[g.shut x hlt]at hmay
 cases hmay
end Go.Proofs.YtocnbjjmmgolfaaGreat
