/- The reference: the turns of the pieces, or the fits that contradict each other. -/
/- The program: whether fits are right; the kL of the pieces. -/
/- The program: the kL of the pieces. -/
/- What a closure sees that keeps a way of its own; ways that grow and shrink. -/
import Derived.Test.YtocnbjjmmgolfaaGreatA38
namespace Go.Proofs.YtocnbjjmmgolfaaGreat
open Go Go.M Go.Proofs.C14
theorem fb12:xK Tryz.f12 (Tryz.f12.body.getD .skip) 2=true:=by kernel_rfl
theorem fc15:xJ Tryz.prog 15=true:=by kernel_rfl
theorem fc16:xJ Tryz.prog 16=true:=by kernel_rfl
theorem fc52:xJ Tryz.prog 52=true:=by kernel_rfl
theorem fc53:xJ Tryz.prog 53=true:=by kernel_rfl
theorem sl42:q6 Tryz.prog 42=some (36,8,128,[.bool false,.slice none 0 0,.bool false,.slice none 0 0,.bool false,.slice none 0 0,.bool false,.slice none 0 0]):=by kernel_rfl
variable{l:List Ft}{n:Int}{r:List Nat}{T:Nat→Q2}
theorem insS_len{l:List Int}:(insS l n).length≤l.length+1:=by
 unfold insS
 rw[List.length_append,List.length_cons]
 have:∀l:List Int,(l.filter (·<n)).length+(l.filter (n<·)).length≤l.length:=by
  intro l
  induction l with
  |nil=>simp
  |cons x l ih=>
   rw[List.filter_cons,List.filter_cons]
   split<;>split<;>simp_all<;>omega
 have:=this l
 omega
theorem fold_len:∀{r l:List Int},(r.foldl insS l).length≤l.length+r.length
 | [],l=>by simp
 |x::r,l=>by
  have h1:=fold_len (r:=r) (l:=insS l x)
  have h2:=insS_len (l:=l) (n:=x)
  simp only[List.foldl_cons,List.length_cons]
  omega
theorem fold_take{l:List Int}{j:Nat}(h:j<r.length):(ki (r.take (j+1))).foldl insS l=insS ((ki (r.take j)).foldl insS l) (r.getD j 0:Int):=by
 unfold ki
 rw[List.take_add_one,List.getElem?_eq_getElem h,List.map_append,List.foldl_append,List.getD_eq_getElem?_getD,List.getElem?_eq_getElem h]
 rfl
theorem turnsR_limit(h:12<n∨64<l.length):turnsR n l T=([],[],4):=if_pos h
theorem turnsR_arg(h:¬(12<n∨64<l.length))(h2:n<0∨kA n l=false):turnsR n l T=([],[],1):=by rw[turnsR,if_neg h,if_pos h2]
theorem turnsR_cyc{k:Nat}(h:¬(12<n∨64<l.length))(h2:¬(n<0∨kA n l=false))(h3:first (ends l) T l.length=some (k,r)):turnsR n l T=([],(ki r).foldl insS [(k:Int)],14):=by rw[turnsR,if_neg h,if_neg h2,h3]
theorem turnsR_ok{n:Nat}(h:¬(12<(n:Int)∨64<l.length))(h2:¬((n:Int)<0∨kA n l=false))(h3:first (ends l) T l.length=none):turnsR n l T=((List.range n).map (trn n l T),[],0):=by rw[turnsR,if_neg h,if_neg h2,h3];rfl
theorem slIn_one{b:Nat}{x:Int}:SlIn [(b,MObj.cells [.int .i64 x] tI)] (.slice (some ⟨b,0,none⟩) 1 2) [x]:=(Own.slIn (l:=[x]) (.block b 2 _ _ rfl rfl)).2
set_option maxHeartbeats 4000000 in
set_option maxRecDepth 10000 in
theorem turns14_ok{I:xP}(hI:xA I){s:St}(hf:Fine s){K:Kw}(hK:Kn s K){vl:Value}(hF:FtsK K l T)(hl:SlF s vl l)(h100:l.length≤100)(h6:(qj (ends l) l.length).length≤6)(hn64:qp n)(hroom:s.next+6200000000≤yC) :
  ∃v' s',xN Tryz.prog I 12 #[.int .i64 n,vl] s v' s'∧PostTu K s 6200000000 (turnsR n l T) v' s':=by
 rw[Nat.add_comm]at hroom
 have H:=hf.hl
 have hA:=hF.any
 obtain⟨al,len,cap,rfl,hn⟩:=hl.isSlice
 rw[List.length_map]at hn
 subst hn
 refine zX 2 (hI 12 U U) Tryz.func12 J fb12 J ?_
 refine zE (zG (zG (zG (zD (yE (zE (zC J (qv J J (fun h=>?_) (fun h=>?_)))))))))
 ·refine zI J (zO J (zO J (zO J (xS J (zD (yJ rfl (zE (zG (zG (zG (zD ?_)))))))))))
  refine yO (xI (yB (jk J J J ?_)))
  rw[turnsR_limit (by omega)]
  exact⟨[],_,_,[],J,(H.sub Z9).up O,.nil _ J J,TurnsK.nil,.nil _ J J⟩
 refine zI J (zH J (yF un24 J J J (qv J J (fun h=>?_) (fun h=>?_))))
 ·refine yG J J (zD (yJ rfl (zE (zG (zG (zG (zD (yO (xI (yB (jk J J J ?_)))))))))))
  rw[turnsR_limit (by omega)]
  exact⟨[],_,_,[],J,(H.sub Z9).up O,.nil _ J J,TurnsK.nil,.nil _ J J⟩
 refine yG J J (zD (yL rfl (yN (zR (yE (zE (zC J (xB J J (fun h=>?_) (fun h=>?_)))))))))
 ·refine zI J (zO J (zO J (zO J (zO J (xS J (zD (yJ rfl (zE (zG (zG (zG ?_)))))))))))
  refine zD (yO (xI (yB (jk J J J ?_))))
  rw[turnsR_arg (by omega) (.inl (by omega))]
  exact⟨[],_,_,[],J,(H.sub Z9).up O,.nil _ J J,TurnsK.nil,.nil _ J J⟩
 refine zI J (zC J (zH J (zF J fc15 J (callB (right14_ok hI H.fine (kn0 hK H) (hl.kept H) (hF.mono zZ) h100 Z4) (fun hb1 s9 Hc=>?_) (fun hb1 s9 Hc=>?_)))))
 ·have H:=H.call0 Hc
  clear Hc
  refine qt J (yG J J (zD (yJ rfl (zE (zG (zG (zG (zD (yO (xI (yB ?_)))))))))))
  refine jk J J J ?_
  rw[turnsR_arg (by omega) (.inr (by assumption))]
  exact⟨[],_,_,[],J,(H.sub Z9).up O,.nil _ J J,TurnsK.nil,.nil _ J J⟩
 have H:=H.call0 Hc
 clear Hc
 refine qt J (yG J J (zD (yL rfl (yN (zR ?_)))))
 have hnr:¬(n<0∨kA n l=false):=by intro h;rcases h with h|h;omega;rw[h]at hb1;cases hb1
 have hRi:=hb1
 obtain⟨nn,rfl⟩:∃nn:Nat,n=(nn:Int):=⟨n.toNat,by omega⟩
 have hE:=rightB_ends hRi O
 have hRo:=rts_of hRi
 refine zE (zH J (zF J fc49 J ?_))
 obtain⟨vt,s9,hr,D9,Hc,hst⟩:=tree14_ok hI hA hE h6 O H.fine (hl.kept H) Z4
 refine⟨_,_,hr,?_⟩
 clear hr
 obtain⟨Φ,ku,kd,hS,hDS,H⟩:=mergeT0 (K:=K) H Hc
 try replace hst:=hst.mono hS
 try replace hst9:=hst9.mono hS
 try replace hvr:=hvr.mono hS
 try replace hsp:=hsp.mono hS
 try replace hv12:=hv12.mono hS
 replace hst:=hst.mono hDS
 try replace hcs:=hcs.mono ku
 try replace hX1:=hX1.mono ku
 try replace hY1:=hY1.mono ku
 clear Hc ku kd hS hDS
 refine xT (zD (yE (zE (zG (zD (yR (xR (fun k F s1=>∃(G:FF) (i m:Nat) (Φ:Hp'),F=lay G [(0,.int .i64 (nn:Int)),(1,.slice al l.length cap),(7,vt),(8,.int .i64 (i:Int))]∧HL [] s s1 Φ m∧m≤90000000+i*90000000∧i≤l.length∧k=l.length-i∧first (ends l) T i=none∧SlIn Φ vt (ki (qj (ends l) l.length))) ?_ l.length _ _ ?_)))))))
 rotate_left
 ·exact⟨_,0,_,Φ,yZ ⟨J,J,J,J,trivial⟩,H,by omega,by omega,by omega,J,hst⟩
 rintro k F s1 ⟨G,i,m,Φ,rfl,H,hm,hi,rfl,hfi,hst⟩
 refine yE (zE (zC J (zH J (yF un24 J J J (xB J J (fun h=>?_) (fun h=>?_))))))
 ·refine zD (yJ rfl (yN (zR (yE (yR ?_)))))
  have hii:i<l.length:=by omega
  have hq:=hF.fit i hii
  obtain⟨b1,off1,c1_,rfl,hg1,hb1,_,hca,hcb,hct⟩:=vT hl hii hq
  have hlb:b1<yC:=by omega
  have htl:=trees_le (e:=ends l) (show i≤l.length by omega)
  obtain⟨e0,e3,e4⟩:=hE i hii
  obtain⟨n1,a1,m1,c1,n2,a2,m2,c2,n3,a3,m3_,c3,n4,a4,m4,c4,eT,hX1,hY1⟩:=hq.t
  rw[eT]at hct
  replace hX1:=hX1.mono (zZ (D:=Φ))
  replace hY1:=hY1.mono (zZ (D:=Φ))
  refine zE (zH J (zC J (op_sliceHi (m:=i) sl24 J J J W8 (by have:=hl.cap;omega) (zF J fc49 J ?_))))
  obtain⟨v9,s9,hr,D9,Hc,hst9⟩:=tree14_ok hI (hA.take (i:=i)) hE.take (by rw[trees_take (by omega)];omega) (by rw[List.length_take];omega) H.fine (show SlF _ _ (l.take i)by unfold SlF;rw[List.map_take];exact(hl.kept H).take (m:=i) (by rw[List.length_map];omega)) (by have:=H.most;(try dsimp only at this);(try dsimp only);omega)
  refine⟨_,_,hr,?_⟩
  clear hr
  rw[trees_take (by omega)]at hst9
  obtain⟨Φ,ku,kd,hS,hDS,H⟩:=mergeT0 (K:=K) H Hc
  try replace hst:=hst.mono hS
  try replace hst9:=hst9.mono hS
  try replace hvr:=hvr.mono hS
  try replace hsp:=hsp.mono hS
  try replace hv12:=hv12.mono hS
  replace hst9:=hst9.mono hDS
  try replace hcs:=hcs.mono ku
  try replace hX1:=hX1.mono ku
  try replace hY1:=hY1.mono ku
  clear Hc ku kd hS hDS
  refine xT (zD (yT [⟨0,0,.light,[6,11]⟩,⟨1,0,.light,[6,11]⟩,⟨2,0,.light,[11]⟩,⟨3,0,.light,[11]⟩,⟨4,12,.light,[11]⟩,⟨5,28,.light,[11]⟩,⟨6,60,.light,[11]⟩,⟨7,0,.light,[6]⟩,⟨8,0,.light,[6]⟩,⟨9,384,.light,[6]⟩,⟨10,896,.light,[6]⟩,⟨11,1920,.light,[6]⟩,⟨12,4095,.whole,[]⟩,⟨13,8191,.light,[]⟩,⟨14,16383,.light,[]⟩,⟨15,16383,.light,[]⟩,⟨16,32767,.light,[]⟩,⟨17,131071,.light,[]⟩] Z0 Z0 (zA J J (zH J ⟨J,(zA J J (xL ⟨J,(zA J J (zH J ⟨J,(zA J J (zC J ⟨J,(zA J J (zP el24 J J O O ⟨J,(zA J J (zB vV J ⟨J,(zV J J sh3 J W8 hlb hca (zA J J (zH J ⟨J,(zA J J (zC J ⟨J,?_⟩))⟩)))⟩))⟩))⟩))⟩))⟩))⟩))))
  refine zA J J (zP el24 J J O O ⟨J,(zA J J (zB wJ J ⟨J,(zV J J sh3 J W8 hlb hcb (zM J J (zF J fc50 J ?_)))⟩))⟩)
  obtain⟨_,s9,hr,D9,vr,rfl,Hc,hvr⟩:=way14_ok hI hA hE (tr:=qj (ends l) i) (fun k hk=>Nat.lt_trans (vC i k hk) hii) O (kr i) H.fine (hl.kept H) (hst9.sl H Z7) (v:=(ends l i).1) (w:=(ends l i).2) O O O O Z4
  refine⟨_,_,hr,?_⟩
  clear hr
  have Hc:=HL.wider H.fine Z3 Z7 Hc
  obtain⟨Φ,ku,kd,hS,hDS,H⟩:=mergeT0 (K:=K) H Hc
  try replace hst:=hst.mono hS
  try replace hst9:=hst9.mono hS
  try replace hvr:=hvr.mono hS
  try replace hsp:=hsp.mono hS
  try replace hv12:=hv12.mono hS
  replace hvr:=hvr.mono hDS
  try replace hcs:=hcs.mono ku
  try replace hX1:=hX1.mono ku
  try replace hY1:=hY1.mono ku
  clear Hc ku kd hS hDS
  rcases hw:way (ends l) (qj (ends l) i) (ends l i).1 (ends l i).2 with _|r9
  ·rw[hw]at hvr
   simp only[Option.getD_none,Option.getD_some]at hvr
   refine zA J J (qo J ⟨J,(zA J J (yI J J ⟨J,(zA J J (yI J J ⟨J,(zA J J (xT ⟨J,(zA J J (zK J ⟨J,(zU ?_)⟩))⟩))⟩))⟩))⟩)
   skip
   refine yT [⟨0,0,.light,[]⟩,⟨1,1,.light,[]⟩,⟨2,3,.light,[8,14]⟩,⟨3,3,.light,[8,14]⟩,⟨4,3,.light,[14]⟩,⟨5,3,.light,[14]⟩,⟨6,51,.light,[14]⟩,⟨7,115,.light,[14]⟩,⟨8,243,.light,[14]⟩,⟨10,3,.light,[8]⟩,⟨11,3,.light,[8]⟩,⟨12,3075,.light,[8]⟩,⟨13,7171,.light,[8]⟩,⟨14,15363,.light,[8]⟩,⟨9,511,.whole,[14]⟩,⟨15,32767,.whole,[]⟩,⟨16,65535,.light,[]⟩,⟨17,131071,.light,[]⟩] Z0 Z0 (zA J J (zI J ⟨J,(zA J J (zI J ⟨J,(zW J J (zW J J (zW J J (zW J J (zW J J (zW J J (zW J J (zW J J (zW J J ?_)))))))))⟩))⟩))
   refine zW J J (zW J J (zW J J (zW J J (zW J J (zW J J (zA J J (yY J ⟨J,(zU (yL rfl (yN (xF (zR ?_)))))⟩)))))))
   refine yA (zC J (yH J J Y (zL J (zD (xG (⟨l.length-(i+1),by omega,_,i+1,_,Φ,yZ ⟨J,J,J,J,trivial⟩,H,by omega,by omega,J,?_,hst⟩))))))
   rw[first_step hfi]
   rw[clash_none hw]
   rfl
  rw[hw]at hvr
  simp only[Option.getD_none,Option.getD_some]at hvr
  refine zA J J (qo J ⟨J,(zA J J (yI J J ⟨J,(zA J J (yI J J ⟨J,(zA J J (xT ⟨J,(zA J J (zK J ⟨J,(zU ?_)⟩))⟩))⟩))⟩))⟩)
  skip
  refine yT [⟨0,0,.light,[]⟩,⟨1,1,.light,[]⟩,⟨2,3,.light,[8,14]⟩,⟨3,3,.light,[8,14]⟩,⟨4,3,.light,[14]⟩,⟨5,3,.light,[14]⟩,⟨6,51,.light,[14]⟩,⟨7,115,.light,[14]⟩,⟨8,243,.light,[14]⟩,⟨10,3,.light,[8]⟩,⟨11,3,.light,[8]⟩,⟨12,3075,.light,[8]⟩,⟨13,7171,.light,[8]⟩,⟨14,15363,.light,[8]⟩,⟨9,511,.whole,[14]⟩,⟨15,32767,.whole,[]⟩,⟨16,65535,.light,[]⟩,⟨17,131071,.light,[]⟩] Z0 Z0 (zA J J (zI J ⟨J,(zA J J (zI J ⟨J,(zA J J (zH J ⟨J,(zA J J (xL ⟨J,(zA J J (zH J ⟨J,(zA J J (zC J ⟨J,(zA J J (zP el24 J J O O ⟨J,(zA J J (zB vV J ⟨J,(zV J J sh3 J W8 hlb hca (zA J J (zH J ⟨J,(zA J J (zC J ⟨J,?_⟩))⟩)))⟩))⟩))⟩))⟩))⟩))⟩))⟩))⟩))
  refine zA J J (zP el24 J J O O ⟨J,(zA J J (zB of40_5 J ⟨J,(zQ J J kU J W8 hlb hct (zM J J (zF J fc52 J (kn (along14_ok hI (Fine.pr H.fine (xW X9 qO)) ((kn0 hK H).heap J Z3) (hF.mono zZ) hE W3 (by have:=dfs_len hw;omega) (fun k hk=>Nat.lt_trans (vC i k ((dfs_nb hw).mem k hk)) hii) ((hvr.sl H Z7).heap J Z3) (dfs_nb hw) Z4) (fun s9 D9 n2 a2 m2 c2 n2d a2d m2d c2d n2y a2y m2y c2y n2yd a2yd m2yd c2yd Hc h102a h102b=>?_)))))⟩))⟩)
  have Hc:=HL.wider H.fine Z3 Z5 Hc
  obtain⟨Φ,ku,kd,hS,H⟩:=mergeS0 (K:=K) H Hc
  try (first|replace hst:=hS hst|replace hst:=hst.mono hS)
  try (first|replace hst9:=hS hst9|replace hst9:=hst9.mono hS)
  try (first|replace hvr:=hS hvr|replace hvr:=hvr.mono hS)
  clear hS
  try replace hX1:=hX1.mono ku
  try replace hY1:=hY1.mono ku
  replace h102a:=h102a.mono kd
  replace h102b:=h102b.mono kd
  clear Hc ku kd
  refine zM J J (zF J fc51 J (callB (sameTurn05_ok hI H.fine (kn0 hK H) h102a h102b hX1 hY1 U U U U Z4) (fun hb3 s9 Hc=>?_) (fun hb3 s9 Hc=>?_)))
  ·have Hc:=HL.wider H.fine Z3 Z7 Hc
   have H:=H.call0 Hc
   clear Hc
   refine zA J J (qt J ⟨J,(zA J J (yD J J ⟨J,(zU (yJ rfl ?_))⟩))⟩)
   obtain⟨aw,lw,cw,rfl,hlw⟩:=hvr.isSlice
   rw[qT]at hlw
   subst hlw
   have hne:¬vH (ends l) T r9 (ends l i).1 wC=T i:=fun h=>of_decide_eq_false hb3 (q2_eq.mpr h)
   have hrl7:=dfs_len hw
   refine zE (zC J (yS (c:=[.int _ _]) H kg J J O (fun b81 s1 H=>?_)))
   refine yU J (zD (yE (zE (zG (zD (yR (xR (fun k F s1=>∃(G:FF) (j m5:Nat) (v12:Value) (Φ:Hp'),F=lay G [(8,.int .i64 (i:Int)),(10,.slice aw r9.length cw),(12,v12),(13,.int .i64 (j:Int))]∧HL [] s s1 Φ m5∧m5≤m+89000000+j*500∧j≤r9.length∧k=r9.length-j∧SlIn Φ v12 ((ki (r9.take j)).foldl insS [(i:Int)])∧SlIn Φ (.slice aw r9.length cw) (ki r9)) ?_ r9.length _ _ ?_)))))))
   rotate_left
   ·exact⟨_,0,_,_,_,yZ ⟨J,J,J,J,trivial⟩,H,by omega,by omega,by omega,slIn_one.mono sub_one,hvr.mono (List.subset_cons_self _ _)⟩
   rintro k F s1 ⟨G,j,m5,v12,Φ,rfl,H,hm5,hj,rfl,hv12,hvr⟩
   refine yE (zE (zC J (zH J (yF xV J J J (xB J J (fun h=>?_) (fun h=>?_))))))
   ·refine zD (yJ rfl (yN (zR (yE (yR ?_)))))
    obtain⟨b5,off5,c5_,rfl,hg5,hb5,hc5⟩:=(hvr.sl H (fun _ h=>h)).atD (i:=(j:Int)) (k:=j) rfl (by rw[qT];omega)
    rw[nats_getD (by omega)]at hc5
    refine yA (xL (zH J (zC J (zP qn J J O O (zJ sh3 J hg5 hc5 (zF J fc53 J ?_))))))
    obtain⟨v9,s9,hr,D9,Hc,hv9⟩:=add14_ok hI H.fine (hv12.sl H (fun _ h=>h)) (by have:=fold_len (r:=ki (r9.take j)) (l:=[(i:Int)]);rw[qT,List.length_take,List.length_singleton]at this;omega) (n:=(r9.getD j 0:Int)) (by have:=H.most;(try dsimp only at this);(try dsimp only);omega)
    refine⟨_,_,hr,?_⟩
    clear hr
    obtain⟨Φ,ku,kd,hS,hDS,H⟩:=mergeT0 (K:=K) H Hc
    try replace hst:=hst.mono hS
    try replace hvr:=hvr.mono hS
    try replace hsp:=hsp.mono hS
    try replace hv12:=hv12.mono hS
    replace hv9:=hv9.mono hDS
    try replace hcs:=hcs.mono ku
    clear Hc ku kd hS hDS
    refine xT (zD (xF (zR (yA (zC J (yH J J Y (zL J (zD (xG (⟨r9.length-(j+1),by omega,_,j+1,_,_,Φ,yZ ⟨J,J,J,J,trivial⟩,H,by omega,by omega,J,by rw[fold_take (by omega)];exact hv9,hvr⟩))))))))))
   refine zD (yL rfl (ql (xU (xZ (xX (zR (zE (xL (zG (xT (zG ?_)))))))))))
   refine zD (yO (qc (xI (kX (qc (xI (yB (jk J J J ?_))))))))
   rw[turnsR_cyc (by omega) hnr (first_some (by rw[first_step hfi,clash_some hw hne];rfl) (show i+1≤l.length by omega))]
   rw[List.take_of_length_le (by omega)]at hv12
   exact⟨Φ,_,_,[],J,H.up O,.nil _ J J,TurnsK.nil,hv12⟩
  have Hc:=HL.wider H.fine Z3 Z7 Hc
  have H:=H.call0 Hc
  clear Hc
  refine zA J J (qt J ⟨J,(zA J J (yD J J ⟨J,(zU (yL rfl (yN (xF (zR (yA (zC J (yH J J Y (zL J (zD ?_))))))))))⟩))⟩)
  refine xG (⟨l.length-(i+1),by omega,_,i+1,_,Φ,yZ ⟨J,J,J,J,trivial⟩,H,by omega,by omega,J,?_,hst⟩)
  rw[first_step hfi]
  rw[clash_ok hw (q2_eq.mp (of_decide_eq_true hb3))]
  rfl
 refine zD (yL rfl (ql (xU (xZ (xX (zR ?_))))))
 have hfi9:first (ends l) T l.length=none:=by rw[show l.length=i by omega];exact hfi
 refine zE (zC J (zH J (zF J fc16 J ?_)))
 obtain⟨vp,s9,hr,D9,Hc,hsp⟩:=parts14_ok hI hA (n:=nn) O hRi h6 O H.fine (hl.kept H) Z4
 refine⟨_,_,hr,?_⟩
 clear hr
 obtain⟨Φ,ku,kd,hS,hDS,H⟩:=mergeT0 (K:=K) H Hc
 try replace hst:=hst.mono hS
 try replace hvr:=hvr.mono hS
 try replace hsp:=hsp.mono hS
 replace hsp:=hsp.mono hDS
 try replace hcs:=hcs.mono ku
 clear Hc ku kd hS hDS
 refine xT (zD (zE (zG (zD (yE (zE (zG (zD (yR (xR (fun k F s1=>∃(G:FF) (i m:Nat) (v vp:Value) (cs:List (List Value)) (Dt Φ:Hp'),F=lay G [(0,.int .i64 (nn:Int)),(1,.slice al l.length cap),(7,vt),(14,vp),(15,v),(16,.int .i64 (i:Int))]∧HL [] s s1 (Dt++Φ) m∧m≤6160000000+i*1800000∧i≤nn∧k=nn-i∧Own 36 8 Dt v cs.flatten cs.length∧cs.length=i∧TurnsK (KX K Φ) cs ((List.range i).map (trn nn l T))∧SlIn Φ vt (ki (qj (ends l) l.length))∧SlIn Φ vp (rts nn l)) ?_ nn _ _ ?_))))))))))
 rotate_left
 ·exact⟨_,0,_,_,_,[],[],Φ,yZ ⟨J,J,J,J,J,J,trivial⟩,H,by omega,by omega,by omega,.nil,J,TurnsK.nil,hst,hsp⟩
 rintro k F s1 ⟨G,i,m,v,vp,cs,Dt,Φ,rfl,H,hm,hi,rfl,ho,hlc,hcs,hst,hsp⟩
 refine yE (zE (zC J (zC J (xB J J (fun h=>?_) (fun h=>?_)))))
 ·refine zD (yJ rfl (yN (zR (yE (yR ?_)))))
  have hin:i<nn:=by omega
  obtain⟨hr0,hr1⟩:=hRo.le i hin
  obtain⟨r9,hw9⟩:=Option.isSome_iff_exists.mp (root_way (kr _) hRo hin)
  obtain⟨ap,lp,cp,rfl,hlp⟩:=hsp.isSlice
  have hRl:=hRo.len
  obtain⟨b5,off5,c5_,rfl,hg5,hb5,hc5⟩:=(hsp.sl H (by intro p hp;simp[hp])).atD (i:=(i:Int)) (k:=i) rfl (by rw[hRo.len];omega)
  refine zE (zH J (xL (zH J (zC J (zP qn J J O O (zJ sh3 J hg5 hc5 (zC J (zF J fc50 J ?_))))))))
  obtain⟨_,s9,hr,D9,vr,rfl,Hc,hvr⟩:=way14_ok hI hA hE (fun k hk=>vC _ k hk) h6 (kr _) H.fine (hl.kept H) (hst.sl H Z8) (v:=(rts nn l).getD i 0) (w:=(i:Int)) O O O O Z4
  refine⟨_,_,hr,?_⟩
  clear hr
  rw[hw9]at hvr
  simp only[Option.getD_some]at hvr
  obtain⟨Φ,ku,kd,hS,hDS,H⟩:=mergeTV0 (K:=K) H Hc
  try replace hst:=hst.mono hS
  try replace hvr:=hvr.mono hS
  try replace hsp:=hsp.mono hS
  replace hvr:=hvr.mono hDS
  try replace hcs:=hcs.mono ku
  clear Hc ku kd hS hDS
  refine qo J (yI J J (yI J J (xT (zK J (zD ?_)))))
  obtain⟨b6,off6,c6_,he6,hg6,hb6,hc6⟩:=(hsp.sl H (by intro p hp;simp[hp])).atD (i:=(i:Int)) (k:=i) rfl (by rw[hRo.len];omega)
  cases he6
  refine yA (xL (zH J (xL (zH J (zC J (zP qn J J O O (zJ sh3 J hg6 hc6 (zF J fc52 J (kn (along14_ok hI H.fine (knV0 hK H) (hF.mono zZ) hE (hl.kept H) (by have:=dfs_len hw9;omega) (fun k hk=>vC _ k ((dfs_nb hw9).mem k hk)) (hvr.sl H Z8) (dfs_nb hw9) Z4) (fun s9 D9 n4 a4 m4 c4 n4d a4d m4d c4d n4y a4y m4y c4y n4yd a4yd m4yd c4yd Hc h104a h104b=>?_))))))))))
  obtain⟨Φ,ku,kd,hS,H⟩:=mergeSV0 (K:=K) H Hc
  try (first|replace hst:=hS hst|replace hst:=hst.mono hS)
  try (first|replace hsp:=hS hsp|replace hsp:=hsp.mono hS)
  try (first|replace hvr:=hS hvr|replace hvr:=hvr.mono hS)
  clear hS
  try replace hcs:=hcs.mono ku
  replace h104a:=h104a.mono kd
  replace h104b:=h104b.mono kd
  clear Hc ku kd
  refine yS (c:=[.bool _,.slice _ _ _,.bool _,.slice _ _ _,.bool _,.slice _ _ _,.bool _,.slice _ _ _]) H sl42 J J O (fun b122 s2 H=>?_)
  have hgt:=H.own0
  have H:=H.drop0
  refine qi (L:=Φ) (D:=Dt) H ho sl42 un42 J J J W0 U J J O O (fun b38 s38 H ho=>?_)
  refine yU J (zD (xF (zR (yA (zC J (yH J J Y (zL J (zD (xG ?_)))))))))
  have e9:trn nn l T i=vH (ends l) T r9 ((rts nn l).getD i 0) wC:=by unfold trn;rw[hw9];rfl
  rw[←e9]at h104a h104b
  refine⟨nn-(i+1),by omega,_,i+1,_,_,_,cs++[_],[_],Φ,yZ ⟨J,J,J,J,J,J,trivial⟩,H,by omega,by omega,J,by rw[wN,List.length_append];exact ho,by rw[List.length_append,hlc];rfl,?_,hst,hsp⟩
  rw[range_snoc]
  exact hcs.snoc (VecK.of h104a h104b)
 refine zD (yL rfl (ql (xU (xZ (xX (zR (zE (xL (xT (zG (zG ?_)))))))))))
 refine zD (yO (yB (jk J J J ?_)))
 rw[turnsR_ok (by omega) hnr hfi9]
 rw[show i=nn by omega]at hcs
 exact⟨Dt++Φ,_,_,cs,J,H.up O,(Own.slG hcs.all ho).mono W1,hcs.mono (wW W2),.nil _ J J⟩
end Go.Proofs.YtocnbjjmmgolfaaGreat
namespace Go.Proofs.YtocnbjjmmgolfaaGreat
open Go Go.M Go.Proofs.C14
theorem fb103:xK Tryz.f103 (Tryz.f103.body.getD .skip) 2=true:=by kernel_rfl
theorem fc63:xJ Tryz.prog 63=true:=by kernel_rfl
theorem fb173:xK Tryz.f173 (Tryz.f173.body.getD .skip) 2=true:=by kernel_rfl
theorem fc103:xJ Tryz.prog 103=true:=by kernel_rfl
theorem fb102:xK Tryz.f102 (Tryz.f102.body.getD .skip) 2=true:=by kernel_rfl
theorem fc173:xJ Tryz.prog 173=true:=by kernel_rfl
theorem fb44:xK Tryz.f44 (Tryz.f44.body.getD .skip) 2=true:=by kernel_rfl
theorem fc102:xJ Tryz.prog 102=true:=by kernel_rfl
variable{e:TypeId}{x:Operand}{n:Int}{l:List Ft}{bn i:Nat}{K:Kw}{vl:Value}{T:Nat→Q2}
section
variable{P:Program}{I:xP}{F:FF}{s:St}{Q:FF→St→Prop}{d:Option Tmp}{ty:TypeId}{pos:String}{af:Array Edge}{g:Option (Nat×Bool)}
theorem op_eqNil{t:TypeId}{y:Operand}{yt:TypeId}{a:Option Addr}{m c:Nat}(hu:P.underlying t=some (.slice e))(hx:yQ F x=.slice a m c)(hy:yQ F y=.slice none 0 0)(k:Q (upd F d (.bool a.isNone)) s):OpW P I ⟨d,.binOp .eql t x y yt,ty,pos,af,g⟩ F s Q:=
 qf (by cases a<;>simp only[yX,jc,hx,hy,eqM,hu,eqV]<;>rfl) k
theorem wH{a:Addr}(hx:yQ F x=.pointer (some a))(k:Q (upd F d (.pointer (some a))) s):OpW P I ⟨d,.nilCheck x,ty,pos,af,g⟩ F s Q:=
 qf (by simp only[yX,nilM,hx];rfl) k
end
def fitB(n:Int)(f:Ft):Bool:=decide (0≤f.a∧f.a<f.b∧f.b<n)
theorem rightB_take'(hi:i<l.length)(h:fitB n (l.getD i default)=true):kA n (l.take (i+1))=kA n (l.take i):=rightB_take hi (of_decide_eq_true h)
theorem rightB_bad'(hi:i<l.length)(h:fitB n (l.getD i default)=false):kA n l=false:=rightB_bad hi (of_decide_eq_false h)
set_option maxHeartbeats 4000000 in
set_option maxRecDepth 10000 in
theorem right1_ok{I:xP}(hI:xA I){s:St}(hf:Fine s)(hK:Kn s K){f:Ft}{q:Q2}(hq:FtK K f q)(hg:s.get bn=some (.cells [.int .i64 n] e))(hb:bn<s.next)(hroom:s.next+50010≤yC) :
  ∃v' s',xN Tryz.prog I 103 #[.agg ⟨f.cells⟩,.pointer (some ⟨bn,0,none⟩)] s v' s'∧qQ s 50010 (.bool (!fitB n f)) v' s':=by
 have H:=hf.hl
 obtain⟨fa,fb,fx,fy,fn,ft,flo,fhi⟩:=f
 obtain⟨g1,g2,g3,⟨g4,g5,g6⟩,⟨g7,g8,g9⟩,g10⟩:=hq
 simp only at g1 g2 g3 g6 g9
 obtain⟨nt1,at1,mt1,ct1,nt2,at2,mt2,ct2,nt3,at3,mt3,ct3,nt4,at4,mt4,ct4,rfl,gX,gY⟩:=g3
 obtain⟨nl1,al1,ml1,cl1,nl2,al2,ml2,cl2,nl3,al3,ml3,cl3,nl4,al4,ml4,cl4,rfl,glX,glY⟩:=g6
 obtain⟨nh1,ah1,mh1,ch1,nh2,ah2,mh2,ch2,nh3,ah3,mh3,ch3,nh4,ah4,mh4,ch4,rfl,ghX,ghY⟩:=g9
 simp only[Ft.cells,List.cons_append,List.nil_append]
 have hT1:=g10.one
 have gX:=gX.mono (zZ (D:=[]))
 have gY:=gY.mono (zZ (D:=[]))
 refine zX 2 (hI 103 U U) Tryz.func103 J fb103 J ?_
 refine zE (zY H J O (fun b2 s1 H=>?_))
 refine zG (zD (zE (zB vV J (zJ sh3 J H.own0 J (xB J J (fun h=>?_) (fun h=>?_))))))
 ·refine zI J (zO J (zO J (zO J (zO J (zO J (xS J (zI J (zO J (zO J (zO J (zO J ?_)))))))))))
  refine xS J (zI J (zO J (zO J (zO J (zO J (xS J (zK J (zD (yO (yB (yV ?_)))))))))))
  refine⟨congrArg Value.bool ?_,(H.sub Z9).up O⟩
  unfold fitB
  simp only
  (rw[decide_eq_false (by omega)]<;>first|done|rfl)
 refine zI J (zB vV J (zJ sh3 J H.own0 J (zB wJ J (zJ sh3 J H.own0 J (k7 J J (fun h=>?_) (fun h=>?_))))))
 ·refine yG J J (zI J (zO J (zO J (zO J (zO J (xS J (zI J (zO J (zO J (zO J (zO J ?_)))))))))))
  refine xS J (zK J (zD (yO (yB (yV (⟨congrArg Value.bool ?_,(H.sub Z9).up O⟩))))))
  unfold fitB
  simp only
  (rw[decide_eq_false (by omega)]<;>first|done|rfl)
 refine yG J J (zI J (zB wJ J (zJ sh3 J H.own0 J (zJ sh3 J (H.old hb hg) J (k7 J J (fun h=>?_) (fun h=>?_))))))
 ·refine yG J J (zI J (zO J (zO J (zO J (zO J (xS J (zK J (zD (yO (yB (yV ?_)))))))))))
  refine⟨congrArg Value.bool ?_,(H.sub Z9).up O⟩
  unfold fitB
  simp only
  (rw[decide_eq_false (by omega)]<;>first|done|rfl)
 refine yG J J (zI J (zB of40_5 J (zN kU J H.own0 J (zF J fc63 J (callE (validP_ok hI H.fine (kn1 hK H) gX gY hT1 Z) (fun s9 Hc=>?_))))))
 have H:=H.call0 Hc
 clear Hc
 refine qt J (yG J J (zK J (zD (yO (yB (yV (⟨congrArg Value.bool ?_,(H.sub Z9).up O⟩)))))))
 unfold fitB
 simp only
 (rw[decide_eq_true (by omega)]<;>first|done|rfl)
set_option maxHeartbeats 4000000 in
set_option maxRecDepth 10000 in
theorem indexFit_ok{I:xP}(hI:xA I){s:St}(hf:Fine s)(hK:Kn s K)(hl:SlF s vl l)(hF:FtsK K l T)(h64:l.length≤100)(hgn:s.get bn=some (.cells [.int .i64 n] e))(hbn:bn<s.next)(hroom:s.next+5100000≤yC) :
  ∃v' s',xN Tryz.prog I 173 #[vl,.func (.func 103) #[] #[.pointer (some ⟨bn,0,none⟩)]] s v' s'∧(∃j:Int,(decide (0≤j) = !kA n l)∧qQ s 5100000 (.int .i64 j) v' s'):=by
 rw[Nat.add_comm]at hroom
 have H:=hf.hl
 obtain⟨a,len,cap,rfl,hn⟩:=hl.isSlice
 rw[List.length_map]at hn
 subst hn
 refine zX 2 (hI 173 U U) Tryz.func173 J fb173 J ?_
 refine zE (zG (zD (yE (zE (zH J (yF un24 J J J (kB (zD (yR (xR (fun k F s1=>∃(G:FF) (i m:Nat),F=lay G [(0,.slice a l.length cap),(1,.func (.func 103) #[] #[.pointer (some ⟨bn,0,none⟩)]),(7,.int .i64 (l.length:Int)),(8,.int .i64 (i:Int))]∧HL [] s s1 [] m∧m≤i*50010∧i≤l.length∧k=l.length-i∧kA n (l.take i)=true) ?_ l.length _ _ ?_))))))))))
 rotate_left
 ·exact⟨_,0,_,yZ ⟨J,J,J,J,trivial⟩,H,by omega,by omega,by omega,J⟩
 rintro k F s1 ⟨G,i,m,rfl,H,hm,hi,rfl,hr⟩
 refine zE (xB J J (fun h=>?_) (fun h=>?_))
 ·refine zD (yE (yJ rfl (yN (zR (yE (yR (zE (zC J (zL J (zD ?_))))))))))
  have hii:i<l.length:=by omega
  have hq:=hF.fit i hii
  obtain⟨b1,off1,c1_,rfl,hg1,hb1,hc9,_⟩:=vT hl hii hq
  refine zE (op_moveF J (zH J (zC J (zP el24 J J O O (zN sh40 J W8 hc9 (zF J fc103 J (callB (right1_ok hI H.fine (kn0 hK H) (hq.mono zZ) (n:=n) (H.old hbn hgn) (by have:=H.le;omega) Z) (fun hb1 s9 Hc=>?_) (fun hb1 s9 Hc=>?_))))))))
  ·have H:=H.call0 Hc
   clear Hc
   refine zD (yL rfl (yN (xF (zR (yA (yH J J Y (zC J (zD (xG (⟨l.length-(i+1),by omega,_,i+1,_,yZ ⟨J,J,J,J,trivial⟩,H,by omega,by omega,J,?_⟩))))))))))
   rw[rightB_take' (by omega) (by rw[←Bool.not_inj_iff];exact hb1)]
   exact hr
  have H:=H.call0 Hc
  clear Hc
  refine zD (yJ rfl (zE (zC J (zL J (zD (yO (qc (xI (kX (qc (xI ?_)))))))))))
  refine yB (yV (⟨(i:Int),?_,J,H.up O⟩))
  rw[rightB_bad' (i:=i) (by omega) (by rw[←Bool.not_inj_iff];exact hb1),decide_eq_true (by omega)]
  rfl
 refine zD (yE (yL rfl (ql (xU (xZ (xX (zR (zE (zG (zD (yO ?_)))))))))))
 refine yB (yV (⟨-1,?_,J,H.up O⟩))
 rw[←List.take_length (l:=l),show l.length=i by omega,hr]
 rfl
section
variable{P:Program}{I:xP}{f:FuncId}{args:Array Value}{s:St}{Q:Value→St→Prop}{k:Nat}
theorem callIx{b:Bool}(h:∃v s',xN P I f args s v s'∧∃j:Int,(decide (0≤j)=b)∧qQ s k (.int .i64 j) v s')(c:∀s' (j:Int),decide (0≤j)=b→HL [] s s' [] k→Q (.int .i64 j) s'):∃v s',xN P I f args s v s'∧Q v s':=by
 obtain⟨v,s',hr,j,hj,rfl,H⟩:=h
 exact⟨_,_,hr,c s' j hj H⟩
end
set_option maxHeartbeats 4000000 in
set_option maxRecDepth 10000 in
theorem contFit_ok{I:xP}(hI:xA I){s:St}(hf:Fine s)(hK:Kn s K)(hl:SlF s vl l)(hF:FtsK K l T)(h64:l.length≤100)(hgn:s.get bn=some (.cells [.int .i64 n] e))(hbn:bn<s.next)(hroom:s.next+5100000≤yC) :
  ∃v' s',xN Tryz.prog I 102 #[vl,.func (.func 103) #[] #[.pointer (some ⟨bn,0,none⟩)]] s v' s'∧qQ s 5100000 (.bool (!kA n l)) v' s':=by
 rw[Nat.add_comm]at hroom
 have H:=hf.hl
 refine zX 2 (hI 102 U U) Tryz.func102 J fb102 J ?_
 refine zE (zG (zD (zE (xL (op_moveF J (zF J fc173 J (callIx (indexFit_ok hI hf hK hl hF h64 hgn hbn O) (fun s9 j hj Hc=>?_))))))))
 have H:=H.call0 Hc
 clear Hc
 refine k7 J J (fun h=>?_) (fun h=>?_)
 ·refine zK J (zD (yO (yB (yV (⟨congrArg Value.bool ?_,H.up O⟩)))))
  rw[←hj]
  exact(decide_eq_true O).symm
 refine zK J (zD (yO (yB (yV (⟨congrArg Value.bool ?_,H.up O⟩)))))
 rw[←hj]
 exact(decide_eq_false O).symm
set_option maxHeartbeats 4000000 in
set_option maxRecDepth 10000 in
theorem rightP_ok{I:xP}(hI:xA I){s:St}(hf:Fine s)(hK:Kn s K)(hl:SlF s vl l)(hF:FtsK K l T)(h64:l.length≤100)(hroom:s.next+5100010≤yC) :
  ∃v' s',xN Tryz.prog I 44 #[.int .i64 n,vl] s v' s'∧qQ s 5100010 (.bool (kA n l)) v' s':=by
 rw[Nat.add_comm]at hroom
 have H:=hf.hl
 refine zX 2 (hI 44 U U) Tryz.func44 J fb44 J ?_
 refine zE (op_boxI H J O (fun b2 s1 H=>?_))
 refine zG (zD (zE (xL (op_makeFunc (zF J fc102 J (callE (contFit_ok hI H.fine (kn1 (Φ:=[]) hK H) (hl.kept H) (hF.mono zZ) h64 H.own0 H.lt0 Z) (fun s9 Hc=>?_)))))))
 have H:=H.call0 Hc
 clear Hc
 refine qt J (zK J (zD (yO (yB (yV ?_)))))
 exact⟨congrArg Value.bool (Bool.not_not _),(H.sub Z9).up O⟩
end Go.Proofs.YtocnbjjmmgolfaaGreat
namespace Go.Proofs.YtocnbjjmmgolfaaGreat
open Go Go.M Go.Proofs.C14
theorem fb111:xK Tryz.f111 (Tryz.f111.body.getD .skip) 1=true:=by kernel_rfl
theorem fb55:xK Tryz.f55 (Tryz.f55.body.getD .skip) 3=true:=by kernel_rfl
theorem fc111:xJ Tryz.prog 111=true:=by kernel_rfl
theorem fb17:xK Tryz.f17 (Tryz.f17.body.getD .skip) 2=true:=by kernel_rfl
theorem fc44:xJ Tryz.prog 44=true:=by kernel_rfl
theorem fc55:xJ Tryz.prog 55=true:=by kernel_rfl
variable{s:St}{l:List Int}{f:Int→Int}{i:Nat}{I:xP}{va:Value}
theorem SlD.els{v:Value}{r:List Int}(h:SlD s v r):jC s 1 v r.length (qm r):=by
 have:=Sl.elems h (fun x hx=>by obtain⟨y,_,rfl⟩:=List.mem_map.mp hx;rfl) U
 rwa[List.length_map,←ints_flat]at this
theorem set_map(h:i<l.length){o:List Int}(ho:o=(l.take i).map f++l.drop i):o.set i (f (l.getD i 0))=(l.take (i+1)).map f++l.drop (i+1):=by
 subst ho
 have h1:((l.take i).map f).length=i:=by rw[List.length_map,List.length_take];omega
 rw[List.set_append_right _ _ (by omega),h1,Nat.sub_self,drop_getD 0 h,List.set_cons_zero,List.take_add_one,List.getElem?_eq_getElem h,List.map_append,List.getD_eq_getElem?_getD,List.getElem?_eq_getElem h]
 simp
theorem keep_map(h:i<l.length)(hf:f (l.getD i 0)=l.getD i 0):(l.take i).map f++l.drop i=(l.take (i+1)).map f++l.drop (i+1):=by
 have e:[f (l.getD i 0)]=[l.getD i 0]:=by rw[hf]
 rw[List.take_add_one,List.getElem?_eq_getElem h,List.map_append,drop_getD 0 h]
 rw[List.getD_eq_getElem?_getD,List.getElem?_eq_getElem h]at e ⊢
 simp only[Option.getD_some]at e
 simp[e]
theorem roots_len{e:Nat→Int×Int}{n:Nat}:∀m,(kL e n m).length=n
 |0=>by simp[kL]
 |m+1=>by rw[kL,Go.Proofs.C14.merge,List.length_map];exact roots_len m
def partsR(n:Int)(l:List Ft):List Int:=if n<0∨12<n∨kA n l=false then []else rts n.toNat l
set_option maxHeartbeats 4000000 in
set_option maxRecDepth 10000 in
theorem clone_ok(hI:xA I)(hf:Fine s)(hl:SlD s va l)(h0:0<l.length)(h64:l.length≤100)(hroom:s.next+2≤yC) :
  ∃v' s',xN Tryz.prog I 111 #[va] s v' s'∧(∃b,v'=.slice (some ⟨b,0,none⟩) l.length (2*l.length+1)∧HL [] s s' [(b,.cells (qm l) tI)] 2):=by
 have H:=hf.hl
 obtain⟨a,len,cap,rfl,hn⟩:=hl.isSlice
 rw[List.length_map]at hn
 subst hn
 obtain⟨b1,off1,c1_,rfl,hg1,hb1,hc1⟩:=hl.atD (i:=0) (k:=0) rfl h0
 refine zX 1 (hI 111 U U) Tryz.func111 J fb111 J ?_
 refine zE (zG (zD (yE (zE (zH J (op_eqNil xV J J (zD (yL rfl (yN (zR (zE ?_)))))))))))
 refine yS (c:=[]) H kg J J O (fun b5 s1 H=>?_)
 refine zH J (op_copy H kg xV J J J (SlD.els (hl.kept H)) h0 (ints_plain _) (by rw[vF,Nat.mul_one]) (by omega) (by omega) (fun b16 s16 H=>?_))
 refine yU J (zD (yO (yB (yV ?_))))
 exact⟨b16,J,H.up O⟩
set_option maxHeartbeats 4000000 in
set_option maxRecDepth 10000 in
theorem renamed_ok(hI:xA I)(hf:Fine s)(hl:SlD s va l)(h0:0<l.length)(h64:l.length≤100){x y:Int}(hroom:s.next+2≤yC) :
  ∃v' s',xN Tryz.prog I 55 #[va,.int .i64 x,.int .i64 y] s v' s'∧PostI s 2 (l.map fun z=>if z=x then y else z) v' s':=by
 have H:=hf.hl
 obtain⟨a,len,cap,rfl,hn⟩:=hl.isSlice
 rw[List.length_map]at hn
 subst hn
 obtain⟨b1,off1,c1_,rfl,hg1,hb1,_⟩:=hl.atD (i:=0) (k:=0) rfl h0
 refine zX 3 (hI 55 U U) Tryz.func55 J fb55 J ?_
 refine zE (zG (zD (zE (zH J (zF J fc111 J ?_)))))
 obtain⟨_,s9,hr,b7,rfl,Hc⟩:=clone_ok hI H.fine (hl.kept H) h0 h64 Y7
 refine⟨_,_,hr,?_⟩
 clear hr
 have H:=H.call Hc
 rw[List.append_nil]at H
 clear Hc
 refine yU J (zD (yE (zE (zH J (yF xV J J J (kB (zD (yR (xR (fun k F s1=>∃(G:FF) (i:Nat) (o:List Int),F=lay G [(1,.int .i64 x),(2,.int .i64 y),(7,.slice (some ⟨b7,0,none⟩) l.length (2*l.length+1)),(12,.slice (some ⟨b1,off1,none⟩) l.length cap),(13,.int .i64 (l.length:Int)),(14,.int .i64 (i:Int))]∧HL [] s s1 [(b7,.cells (qm o) tI)] 2∧i≤l.length∧k=l.length-i∧o=((l.take i).map fun z=>if z=x then y else z)++l.drop i∧o.length=l.length) ?_ l.length _ _ ?_)))))))))
 rotate_left
 ·exact⟨_,0,l,yZ ⟨J,J,J,J,J,J,trivial⟩,H,by omega,by omega,J,J⟩
 rintro k F s1 ⟨G,i,o,rfl,H,hi,rfl,hoe,hol⟩
 refine zE (xB J J (fun h=>?_) (fun h=>?_))
 ·refine zD (yE (yJ rfl (yN (zR (yE (yR ?_))))))
  obtain⟨b2,off2,c2_,he2,hg2,hb2,hc2⟩:=hl.atD (i:=(i:Int)) (k:=i) rfl O
  cases he2
  refine zE (zC J (zP qn J J O O (zJ sh3 J (H.old hb2 hg2) hc2 (zL J (zL J (zD (zE (zC J (zC J (qh J J (fun h=>?_) (fun h=>?_)))))))))))
  ·refine zD (yJ rfl (yA (zH J (zC J (zC J (zP qn J J O O (zT (vs:=[.int .i64 _]) H sz3 J J J J (qE (o:=o) (k:=i) O O) O (fun s9 H=>?_))))))))
   refine zD (xF (zR (yA (yH J J Y (zC J (zD (xG (⟨l.length-(i+1),by omega,_,i+1,o.set i y,yZ ⟨J,J,J,J,J,J,trivial⟩,H,by omega,J,?_,by rw[List.length_set];omega⟩))))))))
   rw[←set_map (by omega) hoe,if_pos (by omega)]
  refine zD (yL rfl (yN (xF (zR (yA (yH J J Y (zC J (zD (xG (⟨l.length-(i+1),by omega,_,i+1,o,yZ ⟨J,J,J,J,J,J,trivial⟩,H,by omega,J,?_,by omega⟩))))))))))
  rw[hoe]
  exact keep_map O (if_neg O)
 refine zD (yE (yL rfl (ql (xU (xZ (xX (zR (zE (zH J (yU J (zD ?_)))))))))))
 refine yO (yB (yV (⟨_,H,?_⟩)))
 rw[show i=l.length by omega,List.take_length,List.drop_length,List.append_nil]at hoe
 subst hoe
 exact(Own.slIn (.block b7 _ _ _ (by rw[vF];simp) (by omega))).2
set_option maxHeartbeats 4000000 in
set_option maxRecDepth 10000 in
theorem partsP_ok(hI:xA I)(hf:Fine s){K:Kw}(hK:Kn s K){vl:Value}{l:List Ft}{T:Nat→Q2}(hl:SlF s vl l)(hF:FtsK K l T)(h64:l.length≤100){n:Int}(hroom:s.next+5200000≤yC) :
  ∃v' s',xN Tryz.prog I 17 #[.int .i64 n,vl] s v' s'∧PostI s 5200000 (partsR n l) v' s':=by
 rw[Nat.add_comm]at hroom
 have H:=hf.hl
 have hA:=hF.any
 obtain⟨al,len,cap,rfl,hn⟩:=hl.isSlice
 rw[List.length_map]at hn
 subst hn
 refine zX 2 (hI 17 U U) Tryz.func17 J fb17 J ?_
 refine zE (zG (zD (yE (zE (zC J (xB J J (fun h=>?_) (fun h=>?_)))))))
 ·refine zI J (zO J (zO J (xS J (zI J (zO J (zO J (zO J (zO J (xS J (zD (yJ rfl ?_)))))))))))
  refine zE (zG (zD (yO (xI (yB (yV ?_))))))
  rw[partsR,if_pos (.inl (by omega))]
  exact⟨[],H.up O,.nil _ J J⟩
 refine zI J (zC J (qv J J (fun h=>?_) (fun h=>?_)))
 ·refine yG J J (zI J (zO J (zO J (zO J (zO J (xS J (zD (yJ rfl (zE (zG (zD ?_)))))))))))
  refine yO (xI (yB (yV ?_)))
  rw[partsR,if_pos (.inr (.inl (by omega)))]
  exact⟨[],H.up O,.nil _ J J⟩
 refine yG J J (zI J (zC J (zH J (zF J fc44 J (callB (rightP_ok hI H.fine (kn0 hK H) (hl.kept H) (hF.mono zZ) h64 Z) (fun hb1 s9 Hc=>?_) (fun hb1 s9 Hc=>?_))))))
 ·have H:=H.call0 Hc
  clear Hc
  refine qt J (yG J J (zD (yJ rfl (zE (zG (zD (yO (xI (yB (yV ?_))))))))))
  rw[partsR,if_pos (.inr (.inr hb1))]
  exact⟨[],H.up O,.nil _ J J⟩
 have H:=H.call0 Hc
 clear Hc
 refine qt J (yG J J (zD (yL rfl (yN (zR ?_)))))
 have hnr:¬(n<0∨12<n∨kA n l=false):=by intro h;rcases h with h|h|h;omega;omega;rw[h]at hb1;cases hb1
 have hRi:=hb1
 clear hb1
 obtain⟨nn,rfl⟩:∃nn:Nat,n=(nn:Int):=⟨n.toNat,by omega⟩
 have hE:∀k,k<l.length→0≤(ends l k).1∧(ends l k).1<(ends l k).2∧(ends l k).2<nn:=fun k hk=>of_decide_eq_true (List.all_eq_true.mp hRi (l.getD k default) (wM hk))
 refine zE (zG (zD (yE (zE (zC J (kB (zD (yR (xR (fun k F s1=>∃(G:FF) (i m:Nat) (v:Value) (Do:Hp'),F=lay G [(1,.slice al l.length cap),(5,v),(23,.int .i64 (nn:Int)),(24,.int .i64 (i:Int))]∧HL [] s s1 Do m∧m≤5100010+i*2∧i≤nn∧k=nn-i∧Own tI 1 Do v (qm ((List.range i).map fun(i:Nat)=>(i:Int))) ((List.range i).map fun(i:Nat)=>(i:Int)).length) ?_ nn _ _ ?_)))))))))
 rotate_left
 ·exact⟨_,0,_,_,[],yZ ⟨J,J,J,J,trivial⟩,H,by omega,by omega,by omega,.nil⟩
 rintro k F s1 ⟨G,i,m,v,Do,rfl,H,hm,hi,rfl,ho⟩
 refine zE (xB J J (fun h=>?_) (fun h=>?_))
 ·refine zD (yE (yJ rfl (yN (zR (yE (yR (zE (zC J (zL J (zD (yA ?_)))))))))))
  refine xL (zC J (yS (c:=[.int _ _]) H kg J J O (fun b29 s1 H=>?_)))
  have hrl9:((List.range i).map fun(i:Nat)=>(i:Int)).length=i:=by rw[List.length_map,List.length_range]
  have hgt:=H.own0
  have H:=H.drop0
  refine qi (L:=[]) (D:=Do) (by(rw[List.append_nil];exact H)) ho kg xV J J J (jy hgt J) (by decide) J J (by omega) (by omega) (fun b30 s30 H ho=>?_)
  refine yU J (zD (xF (zR (yA (yH J J Y (zC J (zD (xG (⟨nn-(i+1),by omega,_,i+1,_,_,[_],yZ ⟨J,J,J,J,trivial⟩,H,by omega,by omega,J,?_⟩)))))))))
  rw[range_snoc,vS,List.length_append]
  exact ho
 refine zD (yE (yL rfl (ql (xU (xZ (xX (zR (yE (zE (zH J (yF un24 J J J ?_)))))))))))
 refine kB (zD (yR (xR (fun k F s1=>∃(G:FF) (i m:Nat) (v:Value) (Φ:Hp'),F=lay G [(5,v),(32,.slice al l.length cap),(33,.int .i64 (l.length:Int)),(34,.int .i64 (i:Int))]∧HL [] s s1 Φ m∧m≤5100100+i*10∧i≤l.length∧k=l.length-i∧SlIn Φ v (kL (ends l) nn i)) ?_ l.length _ _ ?_)))
 rotate_left
 ·refine⟨_,0,_,_,_,yZ ⟨J,J,J,J,trivial⟩,H,by omega,by omega,by omega,?_⟩
  rw[show i=nn by omega]at ho
  exact(Own.slIn ho).2
 rintro k F s1 ⟨G,i,m,v,Φ,rfl,H,hm,hi,rfl,hv⟩
 refine zE (xB J J (fun h=>?_) (fun h=>?_))
 ·refine zD (yE (yJ rfl (yN (zR (yE (yR ?_))))))
  have hii:i<l.length:=by omega
  obtain⟨q,hq⟩:=hA.get hii
  obtain⟨b1,off1,c1_,rfl,hg1,hb1,hc9,_⟩:=vT hl hii hq
  obtain⟨e0,e3,e4⟩:=hE i hii
  have e1:(ends l i).1=(l.getD i default).a:=rfl
  have e2:(ends l i).2=(l.getD i default).b:=rfl
  rw[e1]at e0 e3
  rw[e2]at e3 e4
  have hrl:=roots_len (e:=ends l) (n:=nn) i
  obtain⟨av,lv,cv,rfl,hlv⟩:=hv.isSlice
  rw[hrl]at hlv
  refine zE (zP el24 J J O O (zN sh40 J W8 hc9 (zS H zf40 O (fun b8 s2 H=>?_))))
  refine zT (vs:=(l.getD i default).cells) H sz40 J J (beq_llen hq.len) hq.plain (lput_full (by rw[hq.len];rfl)) (by omega) (fun s9 H=>?_)
  refine zD ?_
  obtain⟨b5,off5,c5_,rfl,hg5,hb5,hc5⟩:=(hv.sl H Z8).atD (i:=(l.getD i default).a) (k:=(l.getD i default).a.toNat) O O
  obtain⟨b6,off6,c6_,he6,hg6,hb6,hc6⟩:=(hv.sl H Z8).atD (i:=(l.getD i default).b) (k:=(l.getD i default).b.toNat) O O
  cases he6
  have hlb5:b5<yC:=by have:=H.most;omega
  refine yT [⟨0,0,.light,[2,7,9]⟩,⟨1,0,.light,[7,9]⟩,⟨2,2,.light,[7,9]⟩,⟨3,7,.light,[7,9]⟩,⟨4,15,.light,[7,9]⟩,⟨5,0,.light,[2,4,7]⟩,⟨6,0,.light,[2,4]⟩,⟨7,64,.light,[2,4]⟩,⟨8,224,.light,[2,4]⟩,⟨9,480,.light,[2,4]⟩,⟨10,31,.light,[7,9]⟩,⟨11,2047,.light,[]⟩] Z0 Z0 (zA J J (zH J ⟨J,(zA J J (zB vV J ⟨J,(zV J J sh3 J H.own0 Y0 J (zA J J (zP qn J J O O ⟨J,(zV J J sh3 J hg5 hlb5 hc5 (zA J J (zH J ⟨J,(zA J J (zB wJ J ⟨J,(zV J J sh3 J H.own0 Y0 J (zA J J (zP qn J J O O ⟨J,(zV J J sh3 J hg6 hlb5 hc6 (zA J J (zL J ⟨J,?_⟩)))⟩)))⟩))⟩)))⟩)))⟩))⟩))
  refine zA J J (zL J ⟨J,(zU (yA (zH J (zC J (zC J (op_max J J J (zC J (zC J (op_min J J J (zF J fc55 J ?_))))))))))⟩)
  obtain⟨v9,s9,hr,D9,Hc,hv9⟩:=renamed_ok hI H.fine (hv.sl H (by intro p hp;simp[hp])) (by rw[hrl];omega) (by rw[hrl];omega) (x:=max ((kL (ends l) nn i).getD (l.getD i default).a.toNat 0) ((kL (ends l) nn i).getD (l.getD i default).b.toNat 0)) (y:=min ((kL (ends l) nn i).getD (l.getD i default).a.toNat 0) ((kL (ends l) nn i).getD (l.getD i default).b.toNat 0)) (by have:=H.most;omega)
  refine⟨_,_,hr,?_⟩
  clear hr
  have H:=H.call Hc
  clear Hc
  refine xT (zD (xF (zR (yA (yH J J Y (zC J (zD (xG ?_))))))))
  exact⟨l.length-(i+1),by omega,_,i+1,_,_,D9,yZ ⟨J,J,J,J,trivial⟩,H.left,by omega,by omega,J,hv9⟩
 refine zD (yE (yL rfl (ql (xU (xZ (xX (zR (zE (xL (xT (zD ?_)))))))))))
 refine yO (yB (yV ?_))
 rw[partsR,if_neg hnr]
 rw[show i=l.length by omega]at hv
 exact⟨Φ,H.up O,hv⟩
end Go.Proofs.YtocnbjjmmgolfaaGreat
namespace Go.Proofs.YtocnbjjmmgolfaaGreat
open Go Go.M Go.Proofs.C14
variable{L' R:Hp'}{X tr:List Nat}{b off t t2:Nat}{e e2:TypeId}{c:List Value}{v w:Value}{p0 p1 p2 p3 p4 p5:Nat×MObj}{p:St→Prop}
theorem _root_.Go.M.HL.callW{W W':List Nat}{s0 s s':St}{A L:Hp'}{n k:Nat}(H:HL W s0 s (A++L) n)(H':HL W' s s' L' k)(hW:∀b,b∈W'→∃o,(b,o)∈A)(hA:∀p,p∈A→p.1∈W'):HL W s0 s' (L'++L) (n+k):=by
 have hm:=H.most
 have hm':=H'.most
 have hle:=H.le
 have hle':=H'.le
 have hd:=H.dist
 rw[List.pairwise_append]at hd
 have hnotW:∀p,p∈L→p.1∉W':=fun p hp hw=>by
  obtain⟨o,ho⟩:=hW _ hw
  exact hd.2.2 (p.1,o) ho p hp J
 refine⟨H'.bar.trans H.bar,H'.prot.trans H.prot,H.wfb,H.wfp,by omega,by omega,fun p hp=>?_,?_,fun b hb hw=>?_⟩
 ·rcases List.mem_append.mp hp with hp|hp
  ·obtain⟨h1,h2,h3,h4⟩:=H'.own p hp
   refine⟨h1,h2,h3,?_⟩
   rcases h4 with h|h
   ·exact .inl O
   ·obtain⟨o,ho⟩:=hW _ h
    exact(H.own (p.1,o) (by simp[ho])).2.2.2
  ·obtain⟨h1,h2,h3,h4⟩:=H.own p (by simp[hp])
   refine⟨by rw[H'.kept _ h2 (hnotW p hp)];exact h1,by omega,?_,h4⟩
   rw[St.may_eq H'.bar H'.prot];exact h3
 ·rw[List.pairwise_append]
  refine⟨H'.dist,hd.2.1,fun a ha c hc=>?_⟩
  have h1:=(H'.own a ha).2.2.2
  have h2:=(H.own c (by simp[hc])).2.1
  rcases h1 with h|h
  ·omega
  ·intro e
   rw[e]at h
   exact hnotW c hc h
 ·rw[H'.kept b (by omega) (fun hw'=>?_)]
  ·exact H.kept b hb hw
  ·obtain⟨o,ho⟩:=hW _ hw'
   have:=(H.own (b,o) (by simp[ho])).2.2.2
   rcases this with h|h
   ·simp only at h;omega
   ·exact hw h
section
variable{P:Program}{I:xP}{F:FF}{s:St}{Q:FF→St→Prop}{W:List Nat}{s0:St}{L:Hp'}{n:Nat}
theorem _root_.Go.M.HL.narrow{D:Hp'}(H:HL W s0 s (D++L) n)(hne:∀q∈D,q.1∉X)(hX:∀p∈X,p<s.next) :
  HL (D.map Prod.fst) {s with prot:=X++s.prot} {s with prot:=X++s.prot} D 0 where
 bar:=rfl
 prot:=rfl
 wfb:=H.fine.wfb
 wfp:=fun p hp=>by
  rcases List.mem_append.mp hp with hp|hp
  ·exact hX p hp
  ·exact H.fine.wfp p hp
 le:=Nat.le_refl _
 most:=Nat.le_refl _
 own:=fun p hp=>by
  obtain⟨h1,h2,h3,_⟩:=H.own p (List.mem_append_left _ hp)
  refine⟨h1,h2,?_,.inr (List.mem_map_of_mem hp)⟩
  have hn:=hne p hp
  simp only[St.may,Bool.and_eq_true,Bool.not_eq_true',Bool.eq_false_iff,ne_eq,List.any_eq_true,not_exists,not_and]at h3 ⊢
  refine⟨h3.1,fun q hq he=>?_⟩
  rcases List.mem_append.mp hq with hq|hq
  ·have:=Nat.eq_of_beq_eq_true he
   exact hn (this▸hq)
  ·exact h3.2 q hq he
 dist:=(List.pairwise_append.mp H.dist).1
 kept:=fun _ _ _=>rfl
theorem dr_new{ops:List Oper}{ix anc:Nat}{free:List Nat}{t:Tmp}{ty:TypeId}{pos:String}{af:Array Edge}{g:Option (Nat×Bool)}{rest:List Drawn}(hgo:qG ops ix=some ⟨some t,.alloc e,ty,pos,af,g⟩)(hw:qV ops F ⟨some t,.alloc e,ty,pos,af,g⟩=true)
  (H:HL W s0 s L n) (hz:zeroF P e=some c) (hr:s0.next+n<yC) (k:∀b s',HL W s0 s' ((b,.cells c e)::L) (n+1)→kC P I ops rest (upd F (some t) (.pointer (some ⟨b,0,none⟩))) s' Q):kC P I ops (⟨ix,anc,.new,free⟩::rest) F s Q:=by
 have hroom:=H.room hr
 refine draw_new hgo hw hroom (ob:=.cells c e) ?_ (k _ _ (H.new _ hr))
 have hroom2:({next:=s.next,bar:=s.next,prot:=[],heap:=.nil}:St).room=true:=hroom
 simp only[zeroF]at hz
 split at hz
 ·next i hb hi=>
  split at hz
  ·next z hz2=>
   cases hz
   simp only[yX,hb,guarded,allocM,hi,hz2,boxM,hroom2]
   rfl
  ·cases hz
 ·cases hz
end
section
variable{P:Program}{I:xP}{F:FF}{s:St}{Post:Value→St→Prop}
theorem end_ct{ty:TypeId}{n:Nat}{l:List Value}(hs:qw P ty=some (some n))(hx:F t=.pointer (some ⟨b,off,none⟩))(hg:s.get b=some (.cells c e))(hc:qX n (kw off c)=some l)(h2:F t2=v)(h:Post (.tuple ⟨[.agg ⟨l⟩,v]⟩) s) :
  endQ P [.cell t ty,.tmp t2] Post F s:=by
 constructor
 simp only[vD,loadN_of hs hx hg hc,h2]
 exact h
theorem load1_of{t:TypeId}(hs:qw P t=some none)(hx:v=.pointer (some ⟨b,off,none⟩))(hg:s.get b=some (.cells c e))(hc:qG c off=some w):loadV P t v s=some w:=by
 subst hx
 simp only[loadV,hg,hs,cutL,hc]
theorem end_sct{t3:Nat}{ty ty2:TypeId}{b2 off2 n2:Nat}{c2 l2:List Value}(hs:qw P ty=some none)(hx:F t=.pointer (some ⟨b,off,none⟩))(hg:s.get b=some (.cells c e))(hc:qG c off=some w)
  (hs2:qw P ty2=some (some n2)) (hx2:F t2=.pointer (some ⟨b2,off2,none⟩)) (hg2:s.get b2=some (.cells c2 e2)) (hc2:qX n2 (kw off2 c2)=some l2) (h3:F t3=v) (h:Post (.tuple ⟨[w,.agg ⟨l2⟩,v]⟩) s) :
  endQ P [.cell t ty,.cell t2 ty2,.tmp t3] Post F s:=by
 constructor
 simp only[vD,load1_of hs hx hg hc,loadN_of hs2 hx2 hg2 hc2,h3]
 exact h
end
theorem Kn.xx{s:St}{K:Kw}(h:Kn s K){W:List Nat}{s0:St}{L D:Hp'}{n:Nat}(H:HL W s0 s L n)(hs:D⊆L):Kn s (KX K D):=
 ⟨fun v l x=>x.elim (h.sl v l) fun y=>y.sl H hs,fun a m c c' l x hc=>x.imp (fun y=>h.cap a m c c' l y hc) fun y=>y.cap hc⟩
theorem _root_.Go.M.HL.callK{W:List Nat}{s0 s s':St}{A L:Hp'}{n k:Nat}(H:HL W s0 s (A++L) n)(H':HL (A.map Prod.fst) s s' L' k):HL W s0 s' (L'++L) (n+k):=
 HL.callW H H' (fun b hb=>by obtain⟨p,hp,rfl⟩:=List.mem_map.mp hb;exact⟨p.2,hp⟩) (fun p hp=>List.mem_map_of_mem hp)
def KnW(s:St)(W:List Nat)(K:Kw):Prop:=∀s' L n,HL W s s' L n→Kn s' K
theorem KnW.in{s0 s:St}{W:List Nat}{K:Kw}{A Φ:Hp'}{n:Nat}(h:KnW s0 W K)(H:HL W s0 s (A++R) n)(hs:Φ⊆R):KnW s (A.map Prod.fst) (KX K Φ):=fun s' L k H'=>by
 have H2:=HL.callW H H' (fun b hb=>by obtain⟨p,hp,rfl⟩:=List.mem_map.mp hb;exact⟨p.2,hp⟩) (fun p hp=>List.mem_map_of_mem hp)
 exact(h _ _ _ H2).xx H2 fun p hp=>List.mem_append_right _ (hs hp)
theorem KnW.narrow{s:St}{W:List Nat}{K:Kw}(h:KnW s W K)(hf:Fine s):KnW {next:=s.next,bar:=s.bar,prot:=X++s.prot,heap:=s.heap} W K:=fun _ _ _ H'=>
 (h _ _ _ (HL.wider hf Z3 Z5 H')).heap rfl Z3
section
variable{W:List Nat}{s0 s s':St}{A Φ D:Hp'}{K:Kw}{n k:Nat}
theorem knW5(hK:KnW s0 W K)(H:HL W s0 s (p0::p1::p2::p3::p4::(A++Φ)) n):Kn s (KX K Φ):=(hK _ _ _ H).xx H Z8
theorem mergeW5(H:HL W s0 s (p0::p1::p2::p3::p4::(A++Φ)) n)(Hc:HL [] s s' D k):∃Φ',KLe (KX K Φ) (KX K Φ')∧KLe (KX (KX K Φ) D) (KX K Φ')∧HL W s0 s' (p0::p1::p2::p3::p4::(A++Φ')) (n+k):=by
 obtain⟨Φ',h1,h2,_,h3⟩:=mergeSV5 (K:=K) H Hc
 exact⟨Φ',h1,h2,h3⟩
theorem knW6(hK:KnW s0 W K)(H:HL W s0 s (p0::p1::p2::p3::p4::p5::(A++Φ)) n):Kn s (KX K Φ):=(hK _ _ _ H).xx H Z8
theorem mergeW6(H:HL W s0 s (p0::p1::p2::p3::p4::p5::(A++Φ)) n)(Hc:HL [] s s' D k):∃Φ',KLe (KX K Φ) (KX K Φ')∧KLe (KX (KX K Φ) D) (KX K Φ')∧HL W s0 s' (p0::p1::p2::p3::p4::p5::(A++Φ')) (n+k):=by
 obtain⟨Φ',h1,h2,_,h3⟩:=mergeSV6 (K:=K) H Hc
 exact⟨Φ',h1,h2,h3⟩
end
def adj(e:Nat→Int×Int)(tr:List Nat)(v:Int):List Nat:=tr.filter fun k=>decide (Inc e k v)
structure Stat(bTo bT bW bS bt:Nat)(vl:Value)(cF:List Value)(va:Int→Value)(l:List Ft)(tr:List Nat)(w:Int)(s:St):Prop where
 gTo:s.get bTo=some (.cells [.int .i64 w] 3)
 gT:s.get bT=some (.cells [.pointer (some ⟨bt,0,none⟩)] 91)
 gS:s.get bS=some (.cells [.func (.func 104) #[] #[.pointer (some ⟨bTo,0,none⟩),.pointer (some ⟨bT,0,none⟩),.pointer (some ⟨bW,0,none⟩),.pointer (some ⟨bS,0,none⟩)]] 145)
 lS:bS<s.next
 gF:s.get bt=some (.cells cF 94)
 adj:∀v:Int,0≤v→v<12→SlD s (va v) (ki (adj (ends l) tr v))
 sl:SlF s vl l
theorem Stat.heap{bTo bT bW bS bt:Nat}{vl:Value}{cF:List Value}{va:Int→Value}{l:List Ft}{w:Int}{s s':St}(h:Stat bTo bT bW bS bt vl cF va l tr w s)(hh:s'.heap=s.heap)(hn:s'.next=s.next):Stat bTo bT bW bS bt vl cF va l tr w s':=by
 have hg:∀b,s'.get b=s.get b:=fun b=>by simp only[St.get,hh]
 exact⟨by rw[hg];exact h.gTo,by rw[hg];exact h.gT,by rw[hg];exact h.gS,by rw[hn];exact h.lS,by rw[hg];exact h.gF,fun v h0 h1=>(h.adj v h0 h1).heap hh (by omega),h.sl.heap hh (by omega)⟩
def Sts(s:St)(W:List Nat)(p:St→Prop):Prop:=∀s' L n,HL W s s' L n→p s'
theorem Sts.in{s0 s:St}{W:List Nat}{A:Hp'}{n:Nat}(h:Sts s0 W p)(H:HL W s0 s (A++R) n):Sts s (A.map Prod.fst) p:=fun _ _ _ H'=>
 h _ _ _ (HL.callW H H' (fun b hb=>by obtain⟨p,hp,rfl⟩:=List.mem_map.mp hb;exact⟨p.2,hp⟩) (fun p hp=>List.mem_map_of_mem hp))
theorem Sts.narrow(hp:∀s s':St,p s→s'.heap=s.heap→s'.next=s.next→p s'){s:St}{W:List Nat}(h:Sts s W p)(hf:Fine s):Sts {next:=s.next,bar:=s.bar,prot:=X++s.prot,heap:=s.heap} W p:=fun _ _ _ H'=>
 hp _ _ (h _ _ _ (HL.wider hf Z3 Z5 H')) rfl rfl
inductive Wy:Hp'→Value→List Nat→Prop
 |nil:Wy [] (.slice none 0 0) []
 |block (b cap len:Nat) (rest:List Value) (r:List Nat) (hl:len=r.length) (hc:len+rest.length=cap / 2):Wy [(b,.cells (qm (ki r)++rest) tI)] (.slice (some ⟨b,0,none⟩) len cap) r
theorem Wy.isSlice{D:Hp'}{v:Value}{r:List Nat}(h:Wy D v r):∃a cap,v=.slice a r.length cap:=by
 cases h with
 |nil=>exact⟨_,_,rfl⟩
 |block b cap len rest r hl hc=>subst hl;exact⟨_,_,rfl⟩
theorem nats_snoc(r:List Nat)(k:Nat):ki (r++[k])=ki r++[(k:Int)]:=by simp[ki]
theorem Wy.snoc{D:Hp'}{v:Value}{r:List Nat}{k:Nat}(h:Wy D v (r++[k])):∃b cap rest,D=[(b,.cells (qm (ki r)++rest) tI)]∧v=.slice (some ⟨b,0,none⟩) (r.length+1) cap∧r.length+rest.length=cap / 2∧r.length+1≤cap / 2:=by
 generalize hr:r++[k]=q at h
 cases h with
 |nil=>simp at hr
 |block b cap len rest q hl hc=>
  subst hr hl
  refine⟨b,cap,.int .i64 (k:Int)::rest,?_,by rw[List.length_append];rfl,?_,?_⟩
  ·rw[nats_snoc,vS,List.append_assoc];rfl
  ·simp only[List.length_append,List.length_cons,List.length_nil]at hc ⊢;omega
  ·simp only[List.length_append,List.length_cons,List.length_nil]at hc;omega
section
variable{P:Program}{I:xP}{F:FF}{s:St}{Q:FF→St→Prop}{d:Option Tmp}{ty:TypeId}{pos:String}{af:Array Edge}{g:Option (Nat×Bool)}
variable{W:List Nat}{s0:St}{L:Hp'}{n:Nat}
theorem op_wyPush{D:Hp'}{args:Array Operand}{ts:Array TypeId}{t t2:TypeId}{tr:List TypeId}{x y:Operand}{by_ kk:Nat}{z:List Value}{r:List Nat}(H:HL W s0 s (D++L) n)(ho:Wy D v r)(hs:q6 P t=some (tI,1,by_,z))(hu2:P.underlying t2=some (.slice e2))
  (ht:ts.toList=t::t2::tr) (ha:args.toList=[x,y]) (hx:yQ F x=v) (he:jC s 1 (yQ F y) 1 [.int .i64 (kk:Int)]) (hb:(r.length+1)*(by_+1)≤1073741824) (hr:s0.next+n<yC)
  (k:∀D' v' s',Wy D' v' (r++[kk])→HL W s0 s' (D'++L) (n+1)→Q (upd F d v') s'):OpW P I ⟨d,.call ⟨.builtin .append,args,ts⟩,ty,pos,af,g⟩ F s Q:=by
 have h9:∀r:List Nat,qm (ki (r++[kk]))=qm (ki r)++[.int .i64 (kk:Int)]:=fun r=>by rw[nats_snoc,vS]
 cases ho with
 |nil=>
  refine qi (D:=[]) H .nil hs hu2 ht ha hx he O J J (by simpa using hb) hr (fun b s' H' _=>?_)
  exact k [(b,_)] _ s' (.block b 3 1 [] [kk] J J) H'
 |block b cap len rest r hl hc=>
  subst hl
  by_cases hf:rest=[]
  ·subst hf
   simp only[List.append_nil,List.length_nil,Nat.add_zero]at H hc
   refine op_append0 H hs hu2 ht ha hx he (by rw[vF,qT,Nat.mul_one]) (by omega) J J hb hr (fun b' s' H'=>?_)
   refine k [(b',_)] _ s' ?_ H'
   have:=Wy.block b' (2*(r.length+1)+1) (r.length+1) [] (r++[kk]) (by simp) (by rw[List.length_nil];omega)
   rw[List.append_nil,h9]at this
   exact this
  ·obtain⟨x0,rest,rfl⟩:=List.exists_cons_of_ne_nil hf
   have hput:ky (r.length*1) [Value.int .i64 (kk:Int)] (qm (ki r)++x0::rest)=some (qm (ki r)++(.int .i64 (kk:Int)::rest)):=by
    have:=lput_skip (k:=0) (l:=[Value.int .i64 (kk:Int)]) (b:=x0::rest) (b':=.int .i64 (kk:Int)::rest) rfl (qm (ki r))
    rwa[vF,qT,Nat.add_zero,←Nat.mul_one r.length]at this
   simp only[List.length_cons]at hc
   refine op_appendRoom (A:=[]) H hs hu2 ht ha hx he O J hput O (fun s' H'=>?_)
   refine k [(b,_)] _ s' ?_ (H'.up O)
   have:=Wy.block b cap (r.length+1) rest (r++[kk]) Y8 O
   rw[h9,List.append_assoc]at this
   exact this
end
theorem adj_find{e:Nat→Int×Int}{f:Nat}{v w last:Int}:tr.findSome? (stp e tr f v w last)=(adj e tr v).findSome? (stp e tr f v w last):=
 (findSome_filter fun k _ hk=>stp_off (.inr (of_decide_eq_false hk))).symm
theorem adj_mem{e:Nat→Int×Int}{v:Int}{k:Nat}(h:k∈adj e tr v):k∈tr∧Inc e k v:=⟨(List.mem_filter.mp h).1,of_decide_eq_true (List.mem_filter.mp h).2⟩
theorem adj_len{e:Nat→Int×Int}{v:Int}:(adj e tr v).length≤tr.length:=List.length_filter_le ..
def wres(e:Nat→Int×Int)(T:Nat→Q2)(v:Int)(t:Q2):Option (List Nat)→Q2
 |some r=>vH e T r v t
 |none=>(0,0)
section
variable{W:List Nat}{s0 s:St}{n:Nat}{K:Kw}
theorem walk_merge{p q0 q1 q2 q3 q4:Nat×MObj}{A D Φ:Hp'}(H:HL W s0 s ((p::(A++D))++(q0::q1::q2::q3::q4::Φ)) n):∃Φ',KLe (KX K Φ) (KX K Φ')∧KLe (KX (KX K Φ) D) (KX K Φ')∧HL W s0 s (q0::q1::q2::q3::q4::p::(A++Φ')) n:=by
 refine⟨D++Φ,wW W2,kx_in W2 W1,?_⟩
 have H2:=HL.mid (A:=p::(A++D)) (B:=[q0,q1,q2,q3,q4]) (C:=Φ) H
 have e:(p::(A++D))++Φ=p::(A++(D++Φ)):=by simp
 rw[e]at H2
 exact H2
end
end Go.Proofs.YtocnbjjmmgolfaaGreat
