/- The reference: fits that are right; the search for a way vH the tree fits. -/
/- The reference: the search for a way vH the tree fits; the tree fits. -/
/- The reference: the tree fits; increasing lists; lists that are equal. -/
/- The reference: the turn vH a way; the kL; equal turns. -/
/- The reference: the kL of the pieces; the turns. -/
import Derived.Test.YtocnbjjmmgolfaaGreatA37
namespace Go.Proofs.YtocnbjjmmgolfaaGreat
open Go Go.M Go.Proofs.C14
theorem fb15:xK Tryz.f15 (Tryz.f15.body.getD .skip) 2=true:=by kernel_rfl
def Ends(l:List Ft):Prop:=∀k,k<l.length→0≤(ends l k).1∧(ends l k).1<(ends l k).2∧(ends l k).2<12
def kA(n:Int)(l:List Ft):Bool:=l.all fun f=>decide (0≤f.a∧f.a<f.b∧f.b<n)
variable{n:Int}{l:List Ft}{i:Nat}{s:St}{K:Kw}
theorem rightB_ends(h:kA n l=true)(hn:n≤12):Ends l:=fun k hk=>by
 have:=List.all_eq_true.mp h (l.getD k default) (wM hk)
 have:=of_decide_eq_true this
 unfold ends
 simp only
 omega
theorem rightB_take(hi:i<l.length)(h:0≤(l.getD i default).a∧(l.getD i default).a<(l.getD i default).b∧(l.getD i default).b<n):kA n (l.take (i+1))=kA n (l.take i):=by
 have e:l.take (i+1)=l.take i++[l.getD i default]:=by
  rw[List.take_add_one,List.getElem?_eq_getElem hi,List.getD_eq_getElem?_getD,List.getElem?_eq_getElem hi];rfl
 unfold kA
 rw[e,List.all_append,List.all_cons,List.all_nil,decide_eq_true h,Bool.and_true,Bool.and_true]
theorem rightB_bad(hi:i<l.length)(h:¬(0≤(l.getD i default).a∧(l.getD i default).a<(l.getD i default).b∧(l.getD i default).b<n)):kA n l=false:=by
 unfold kA
 rw[Bool.eq_false_iff]
 intro hc
 exact h (of_decide_eq_true (List.all_eq_true.mp hc _ (wM hi)))
theorem vT{a:Option Addr}{len cap:Nat}{q:Q2}(h:Sl s 40 29 (.slice a len cap) (l.map Ft.cells)){k:Nat}(hk:k<l.length)(hq:FtK K (l.getD k default) q) :
  ∃b off c,a=some ⟨b,off,none⟩∧s.get b=some (.cells c 40)∧b<s.next∧qX 29 (kw (off+(k:Int).toNat*29) c)=some (l.getD k default).cells∧qG c (off+(k:Int).toNat*29+0)=some (.int .i64 (ends l k).1)∧qG c (off+(k:Int).toNat*29+1)=some (.int .i64 (ends l k).2)∧qX 8 (kw (off+(k:Int).toNat*29+5) c)=some (l.getD k default).t:=by
 obtain⟨b,off,c,e,h1,h2,h3⟩:=h.at (i:=(k:Int)) rfl (by rw[List.length_map];exact hk)
 rw[jg (y:=default) hk]at h3
 refine⟨b,off,c,e,h1,h2,h3,lget_part (k:=0) h3 U J,lget_part (k:=1) h3 U J,?_⟩
 rw[jr (k:=5) (j:=8) h3 U]
 congr 1
 simp only[Ft.cells,List.drop_succ_cons,List.drop_zero]
 rw[List.take_append_of_le_length (by rw[hq.t.len];exact Nat.le_refl _),List.take_of_length_le (by rw[hq.t.len];exact Nat.le_refl _)]
theorem beq_llen{l:List Value}{n:Nat}(h:l.length=n):Nat.beq (ks l 0) n=true:=by
 rw[vB,h,Nat.add_zero];exact Nat.beq_refl n
theorem lput_full{α:Type}{l c:List α}(h:l.length=c.length):ky 0 l c=some l:=by
 show lover l c=some l
 rw[lover_ex O,h,List.drop_length,List.append_nil]
set_option maxHeartbeats 4000000 in
set_option maxRecDepth 10000 in
theorem right14_ok{I:xP}(hI:xA I)(hf:Fine s)(hK:Kn s K){vl:Value}{T:Nat→Q2}(hl:SlF s vl l)(hF:FtsK K l T)(h64:l.length≤100)(hroom:s.next+4100000≤yC) :
  ∃v' s',xN Tryz.prog I 15 #[.int .i64 n,vl] s v' s'∧qQ s 4100000 (.bool (kA n l)) v' s':=by
 rw[Nat.add_comm]at hroom
 have H:=hf.hl
 obtain⟨a,len,cap,rfl,hn⟩:=hl.isSlice
 rw[List.length_map]at hn
 subst hn
 refine zX 2 (hI 15 U U) Tryz.func15 J fb15 J ?_
 refine zE (zG (zD (yE (zE (zG (zD (yR (xR (fun k F s1=>∃(G:FF) (i m:Nat),F=lay G [(0,.int .i64 n),(1,.slice a l.length cap),(5,.int .i64 (i:Int))]∧HL [] s s1 [] m∧m≤i*40000∧i≤l.length∧k=l.length-i∧kA n (l.take i)=true) ?_ l.length _ _ ?_))))))))
 rotate_left
 ·exact⟨_,0,_,yZ ⟨J,J,J,trivial⟩,H,by omega,by omega,by omega,J⟩
 rintro k F s1 ⟨G,i,m,rfl,H,hm,hi,rfl,hr⟩
 refine yE (zE (zC J (zH J (yF un24 J J J (xB J J (fun h=>?_) (fun h=>?_))))))
 ·refine zD (yJ rfl (yN (zR (yE (yR ?_)))))
  have hii:i<l.length:=by omega
  have hq:=hF.fit i hii
  obtain⟨b1,off1,c1_,rfl,hg1,hb1,hc9,hca,hcb,hct⟩:=vT hl hii hq
  obtain⟨n1,a1,m1,c1,n2,a2,m2,c2,n3,a3,m3,c3,n4,a4,m4,c4,eT,hX,hY⟩:=hq.t
  rw[eT]at hct
  have e1:(ends l i).1=(l.getD i default).a:=rfl
  have e2:(ends l i).2=(l.getD i default).b:=rfl
  have hT1:=hq.tn.one
  have hX:=hX.mono (zZ (D:=[]))
  have hY:=hY.mono (zZ (D:=[]))
  have hlb:b1<yC:=by omega
  refine yT [⟨0,0,.light,[]⟩,⟨1,0,.light,[]⟩,⟨2,3,.light,[]⟩,⟨3,7,.light,[]⟩,⟨4,15,.light,[]⟩,⟨5,31,.light,[]⟩,⟨6,63,.light,[]⟩,⟨7,127,.light,[16]⟩,⟨8,127,.light,[16]⟩,⟨9,511,.light,[16]⟩,⟨10,1023,.light,[16]⟩,⟨11,2047,.light,[16]⟩,⟨12,127,.light,[11]⟩,⟨13,127,.light,[11]⟩,⟨14,12415,.light,[11]⟩,⟨15,28799,.light,[11]⟩,⟨16,61567,.light,[11]⟩,⟨17,131071,.light,[]⟩,⟨18,262143,.light,[]⟩,⟨19,524287,.light,[]⟩,⟨20,1048575,.light,[]⟩,⟨21,1048575,.light,[]⟩,⟨22,4194303,.light,[]⟩,⟨23,8388607,.light,[]⟩,⟨24,16777215,.light,[]⟩,⟨25,1048575,.light,[24]⟩,⟨26,67108863,.light,[]⟩,⟨27,134217727,.light,[]⟩,⟨28,268435455,.light,[]⟩,⟨29,536870911,.light,[]⟩,⟨30,536870911,.light,[]⟩,⟨31,2147483647,.light,[]⟩,⟨32,4294967295,.light,[]⟩,⟨33,8589934591,.light,[]⟩,⟨34,17179869183,.whole,[]⟩,⟨35,34359738367,.light,[]⟩,⟨36,68719476735,.light,[]⟩] Z0 Z0 (zA J J (zH J ⟨J,(zA J J (zC J ⟨J,(zA J J (zP el24 J J O O ⟨J,(zA J J (zB vV J ⟨J,(zV J J sh3 J W8 hlb hca (zA J J (xB J J (fun h=>⟨J,?_⟩) (fun h=>⟨J,?_⟩))))⟩))⟩))⟩))⟩))
  ·refine zA J J (zI J ⟨J,(zW J J (zW J J (zW J J (zW J J (zW J J (zW J J (zW J J (zW J J (zW J J (zW J J (zW J J ?_)))))))))))⟩)
   refine zA J J (xS J ⟨J,(zA J J (zI J ⟨J,(zW J J (zW J J (zW J J (zW J J (zW J J (zW J J (zW J J (zA J J (xS J ⟨J,(zA J J (zI J ⟨J,(zW J J ?_)⟩))⟩)))))))))⟩))⟩)
   refine zW J J (zW J J (zW J J (zW J J (zW J J (zW J J (zA J J (xS J ⟨J,(zU (yJ rfl (zE (zG (zD ?_)))))⟩)))))))
   refine yO (qc (xI (kX (qc (xI (yB (yV (⟨congrArg Value.bool ?_,H.up O⟩))))))))
   rw[rightB_bad (i:=i) O O]
  refine zA J J (zI J ⟨J,(zA J J (zH J ⟨J,(zA J J (zC J ⟨J,(zA J J (zP el24 J J O O ⟨J,(zA J J (zB vV J ⟨J,(zV J J sh3 J W8 hlb hca (zA J J (zH J ⟨J,(zA J J (zC J ⟨J,(zA J J (zP el24 J J O O ⟨J,(zA J J (zB wJ J ⟨J,(zV J J sh3 J W8 hlb hcb (zA J J (k7 J J (fun h=>⟨J,?_⟩) (fun h=>⟨J,?_⟩))))⟩))⟩))⟩))⟩)))⟩))⟩))⟩))⟩))⟩)
  ·refine zA J J (yG J J ⟨J,(zA J J (zI J ⟨J,(zW J J (zW J J (zW J J (zW J J (zW J J (zW J J (zW J J (zA J J (xS J ⟨J,(zA J J (zI J ⟨J,(zW J J ?_)⟩))⟩)))))))))⟩))⟩)
   refine zW J J (zW J J (zW J J (zW J J (zW J J (zW J J (zA J J (xS J ⟨J,(zU (yJ rfl (zE (zG (zD ?_)))))⟩)))))))
   refine yO (qc (xI (kX (qc (xI (yB (yV (⟨congrArg Value.bool ?_,H.up O⟩))))))))
   rw[rightB_bad (i:=i) O O]
  refine zA J J (yG J J ⟨J,(zA J J (zI J ⟨J,(zA J J (zH J ⟨J,(zA J J (zC J ⟨J,(zA J J (zP el24 J J O O ⟨J,(zA J J (zB wJ J ⟨J,(zV J J sh3 J W8 hlb hcb (zA J J (zC J ⟨J,(zA J J (k7 J J (fun h=>⟨J,?_⟩) (fun h=>⟨J,?_⟩)))⟩)))⟩))⟩))⟩))⟩))⟩))⟩)
  ·refine zA J J (yG J J ⟨J,(zA J J (zI J ⟨J,(zW J J (zW J J (zW J J (zW J J (zW J J (zW J J (zW J J (zA J J (xS J ⟨J,(zU (yJ rfl ?_))⟩)))))))))⟩))⟩)
   refine zE (zG (zD (yO (qc (xI (kX (qc (xI (yB (yV (⟨congrArg Value.bool ?_,H.up O⟩)))))))))))
   rw[rightB_bad (i:=i) O O]
  refine zA J J (yG J J ⟨J,(zA J J (zI J ⟨J,(zA J J (zH J ⟨J,(zA J J (zC J ⟨J,(zA J J (zP el24 J J O O ⟨J,(zA J J (zB of40_5 J ⟨J,(zQ J J kU J W8 hlb hct (zM J J (zF J fc54 J (callE (valid05_ok hI H.fine (kn0 hK H) hX hY hT1 Z) (fun s9 Hc=>?_)))))⟩))⟩))⟩))⟩))⟩))⟩)
  have Hc:=HL.wider H.fine Z3 Z7 Hc
  have H:=H.call0 Hc
  clear Hc
  refine zA J J (qt J ⟨J,(zA J J (yG J J ⟨J,(zU (yL rfl (yN (xF (zR (yA (zC J (yH J J Y (zL J (zD ?_))))))))))⟩))⟩)
  refine xG (⟨l.length-(i+1),by omega,_,i+1,_,yZ ⟨J,J,J,trivial⟩,H,by omega,by omega,J,?_⟩)
  rw[rightB_take O ⟨by omega,by omega,by omega⟩]
  exact hr
 refine zD (yL rfl (ql (xU (xZ (xX (zR (zE (zG (zD (yO (yB ?_)))))))))))
 refine yV (⟨congrArg Value.bool ?_,H.up O⟩)
 rw[←List.take_length (l:=l),show l.length=i by omega,hr]
end Go.Proofs.YtocnbjjmmgolfaaGreat
namespace Go.Proofs.YtocnbjjmmgolfaaGreat
open Go Go.M Go.Proofs.C14
theorem fb50:xK Tryz.f50 (Tryz.f50.body.getD .skip) 5=true:=by kernel_rfl
theorem fc50:xJ Tryz.prog 50=true:=by kernel_rfl
def stp(e:Nat→Int×Int)(tr:List Nat)(f:Nat)(v w last:Int):Nat→Option (List Nat):=fun(k:Nat)=>if (k:Int)=last∨¬Inc e k v then none else(dfs e tr f (oth e k v) w k).map (k::·)
variable{e:Nat→Int×Int}{tr:List Nat}{last v w:Int}{k:Nat}
theorem dfs_stp{f:Nat}(h:¬v=w):dfs e tr (f+1) v w last=tr.findSome? (stp e tr f v w last):=by
 rw[dfs,if_neg h];rfl
theorem stp_off{f:Nat}(h:(k:Int)=last∨¬Inc e k v):stp e tr f v w last k=none:=if_pos h
theorem stp_on{f:Nat}(h1:(k:Int)≠last)(h2:Inc e k v):stp e tr f v w last k=(dfs e tr f (oth e k v) w k).map (k::·):=if_neg (by intro h;rcases h with h|h;exact h1 h;exact h h2)
def PostW(s:St)(k:Nat)(r:Option (List Nat))(v:Value)(s':St):Prop:=∃D vr,v=.tuple ⟨[vr,.bool r.isSome]⟩∧HL [] s s' D k∧SlIn D vr (ki (r.getD []))
section
variable{P:Program}{I:xP}{F:FF}{s:St}{Q:FF→St→Prop}{d:Option Tmp}{ty:TypeId}{pos:String}{af:Array Edge}{g:Option (Nat×Bool)}
variable{W:List Nat}{s0:St}{L:Hp'}{n:Nat}
theorem op_append1{args:Array Operand}{ts:Array TypeId}{t t2 e e2:TypeId}{tr:List TypeId}{x y:Operand}{sz by_ m b:Nat}{z c l:List Value}(H:HL W s0 s ((b,.cells c e)::L) n)(hs:q6 P t=some (e,sz,by_,z))(hu2:P.underlying t2=some (.slice e2))
  (ht:ts.toList=t::t2::tr) (ha:args.toList=[x,y]) (hx:yQ F x=.slice (some ⟨b,0,none⟩) 1 2) (he:jC s sz (yQ F y) m l) (hlen:sz=c.length) (hp:l.all Go.M.plainCell=true) (hl:l.length=m*sz) (hb:(1+m)*(by_+1)≤1073741824) (hr:s0.next+n<yC)
  (k:∀b' cap' s',cap' / 2=1+m→HL W s0 s' ((b',.cells (c++l) e)::L) (n+1)→Q (upd F d (.slice (some ⟨b',0,none⟩) (1+m) cap')) s'):OpW P I ⟨d,.call ⟨.builtin .append,args,ts⟩,ty,pos,af,g⟩ F s Q:=by
 by_cases hm:m=0
 ·subst hm
  have hl0:l=[]:=List.eq_nil_of_length_eq_zero O
  subst hl0
  refine op_appendNone' H hs hu2 ht ha hx he O O O (fun s' H'=>?_)
  exact k b 2 s' J (by rw[List.append_nil];exact H'.up O)
 ·refine op_appendEven H hs hu2 ht ha hx he H.own0 O O J hp hl hb hr (fun b' s' H'=>?_)
  exact k b' _ s' O H'.drop1
end
theorem SlIn.els{D:Hp'}{v:Value}{r:List Int}(h:SlIn D v r){W:List Nat}{s0 s:St}{L:Hp'}{n:Nat}(H:HL W s0 s L n)(hs:D⊆L):jC s 1 v r.length (qm r):=by
 have:=(h.sl H hs).elems (fun x hx=>by obtain⟨y,_,rfl⟩:=List.mem_map.mp hx;rfl) U
 rwa[List.length_map,←ints_flat]at this
theorem dfs_len{e:Nat→Int×Int}{tr:List Nat}:∀{f:Nat} {v w l:Int} {r:List Nat},dfs e tr f v w l=some r→r.length<f
 |0,_,_,_,_,h=>by simp[dfs]at h
 |f+1,v,w,l,r,h=>by
  rw[dfs]at h
  split at h
  ·cases h;simp
  ·obtain⟨k,_,hk⟩:=List.exists_of_findSome?_eq_some h
   split at hk
   ·cases hk
   ·obtain⟨r2,h2,rfl⟩:=Option.map_eq_some_iff.mp hk
    have:=dfs_len h2
    simp only[List.length_cons]
    omega
theorem vS(r:List Int)(x:Int):qm (r++[x])=qm r++[.int .i64 x]:=by simp[qm]
set_option maxHeartbeats 4000000 in
set_option maxRecDepth 10000 in
theorem path14_ok{I:xP}(hI:xA I){K:Kw}{vl vt:Value}{l:List Ft}(hA:FtsA K l)(hE:Ends l)(hlt:∀k∈tr,k<l.length)(h6:tr.length≤6)(hw0:0≤w)(hw1:w≤12):∀(f:Nat) (hf9:f≤100) {s:St} (hf:Fine s) (hl:SlF s vl l) (ht:SlD s vt (ki tr)) {v last:Int} (hv0:0≤v) (hv1:v≤12) (hTm:Tm (ends l) tr f v last) (hroom:s.next+cost 3 f≤yC),
  ∃v' s',xN Tryz.prog I 50 #[vl,vt,.int .i64 v,.int .i64 w,.int .i64 last] s v' s'∧PostW s (cost 3 f) (dfs (ends l) tr f v w last) v' s':=by
 intro f
 induction f
 case zero=>intro _ s _ _ _ v last _ _ h;exact absurd h id
 rename_i f ih
 intro hf9 s hf hl ht v last hv0 hv1 hTm hroom
 rw[Nat.add_comm]at hroom
 have hcs:cost 3 (f+1)=7*3+6*cost 3 f:=by simp only[cost];omega
 have H:=hf.hl
 obtain⟨al,len,cap,rfl,hn⟩:=hl.isSlice
 rw[List.length_map]at hn
 subst hn
 obtain⟨at_,len2,cap2,rfl,hn2⟩:=ht.isSlice
 rw[List.length_map,qT]at hn2
 subst hn2
 refine zX 5 (hI 50 U U) Tryz.func50 J fb50 J ?_
 refine zE (zG (zG (zD (yE (zE (zC J (zC J (qh J J (fun h=>?_) (fun h=>?_)))))))))
 ·refine zD (yJ rfl (zE (zG (zG (zD (yO (xI (yB (end_tt J J ?_)))))))))
  rw[dfs,if_pos O]
  exact⟨[],_,J,H.up O,.nil _ J J⟩
 refine zD (yL rfl (yN (zR (yE ?_))))
 have hvw:¬v=w:=by omega
 refine zE (zG (zD (yR (xR (fun k F s1=>∃(G:FF) (i m:Nat),F=lay G [(0,.slice al l.length cap),(1,.slice at_ tr.length cap2),(2,.int .i64 v),(3,.int .i64 w),(4,.int .i64 last),(12,.int .i64 (i:Int))]∧HL [] s s1 [] m∧m≤i*(3+cost 3 f)∧i≤tr.length∧k=tr.length-i∧tr.findSome? (stp (ends l) tr f v w last)=(tr.drop i).findSome? (stp (ends l) tr f v w last)) ?_ tr.length _ _ ?_))))
 rotate_left
 ·exact⟨_,0,_,yZ ⟨J,J,J,J,J,J,trivial⟩,H,by omega,by omega,by omega,J⟩
 rintro k F s1 ⟨G,i,m,rfl,H,hm,hi,rfl,hs⟩
 refine yE (zE (zC J (zH J (yF xV J J J (xB J J (fun h=>?_) (fun h=>?_))))))
 ·refine zD (yJ rfl (yN (zR (yE (yR ?_)))))
  obtain⟨b1,off1,c1_,rfl,hg1,hb1,hc1⟩:=ht.atD (i:=(i:Int)) (k:=i) rfl (by rw[qT];omega)
  rw[nats_getD O]at hc1
  have hkm:tr.getD i 0∈tr:=wM O
  have hkl:=hlt _ hkm
  generalize hkd:tr.getD i 0=kk at *
  obtain⟨q,hq⟩:=hA.get hkl
  obtain⟨b2,off2,c2_,rfl,hg2,hb2,hc9,_,_,_⟩:=vT hl hkl hq
  obtain⟨e0,e3,e4⟩:=hE kk hkl
  have e1:(ends l kk).1=(l.getD kk default).a:=rfl
  have e2:(ends l kk).2=(l.getD kk default).b:=rfl
  rw[e1]at e0 e3
  rw[e2]at e3 e4
  have hml:=Nat.mul_le_mul_right (3+cost 3 f) (show i≤5 by omega)
  refine zE (zH J (zH J (zC J (zP qn J J O O (zJ sh3 J W8 hc1 (zP el24 J J O O (zN sh40 J (H.old hb2 hg2) hc9 (zS H zf40 O (fun b13 s1 H=>?_)))))))))
  refine zT (vs:=(l.getD kk default).cells) H sz40 J J (beq_llen hq.len) hq.plain (lput_full (by rw[hq.len];rfl)) O (fun s9 H=>?_)
  refine zD (yE (zE (zH J (zC J (zP qn J J O O (zJ sh3 J W8 hc1 (zC J (qh J J (fun h=>?_) (fun h=>?_)))))))))
  ·refine zI J (zO J (zO J (zO J (zO J (zO J (zO J (zO J (zO J (zO J (zO J (xS J ?_)))))))))))
   refine zD (yJ rfl (ql (xU (xX (zR (yA (zC J (yH J J Y (zL J (zD (xG ?_)))))))))))
   refine⟨tr.length-(i+1),by omega,_,i+1,_,yZ ⟨J,J,J,J,J,J,trivial⟩,H.sub Z9,by rw[Nat.add_mul,Nat.one_mul];omega,by omega,J,?_⟩
   refine vA 0 O hs ?_
   rw[hkd]
   exact stp_off (by unfold Inc;omega)
  refine zI J (zB vV J (zJ sh3 J H.own0 J (zC J (k6 J J (fun h=>?_) (fun h=>?_)))))
  ·refine zI J (zB wJ J (zJ sh3 J H.own0 J (zC J (k6 J J (fun h=>?_) (fun h=>?_)))))
   ·refine yD J J (yG J J (zD (yJ rfl (ql (xU (xX (zR (yA (zC J (yH J J Y (zL J ?_)))))))))))
    refine zD (xG (⟨tr.length-(i+1),by omega,_,i+1,_,yZ ⟨J,J,J,J,J,J,trivial⟩,H.sub Z9,by rw[Nat.add_mul,Nat.one_mul];omega,by omega,J,?_⟩))
    refine vA 0 O hs ?_
    rw[hkd]
    exact stp_off (by unfold Inc;omega)
   refine yD J J (yG J J (zD (yL rfl (yN (zR (zE (zB vV J (zJ sh3 J H.own0 J (zB wJ J (zJ sh3 J H.own0 J (yH J J Y ?_)))))))))))
   refine zC J (qC J J Y (zL J (zD (zE (zH J (zH J (zC J (zC J (zH J (zC J (zP qn J J O O ?_)))))))))))
   refine zJ sh3 J W8 hc1 (zF J fc50 J ?_)
   obtain⟨_,s9,hr,D9,vr,rfl,Hc,hvr⟩:=ih O H.fine (hl.kept H) (ht.kept H) (v:=oth (ends l) kk v) (last:=(kk:Int)) (by unfold oth;omega) (by unfold oth;omega) (hTm kk hkm O (by unfold Inc;omega)) Z
   refine⟨_,_,hr,?_⟩
   clear hr
   obtain⟨Φ,_,_,_,hDS,H⟩:=mergeT1 (K:=fun _ _=>False) (Φ:=[]) H Hc
   replace hvr:=hvr.mono hDS
   clear Hc hDS
   have hst:=stp_on (tr:=tr) (f:=f) (w:=w) (show(kk:Int)≠last by omega) (show Inc (ends l) kk v by unfold Inc;omega)
   rcases hd:dfs (ends l) tr f (oth (ends l) kk v) w (kk:Int)with _|r9
   ·rw[hd]at hvr
    simp only[Option.getD_none,Option.getD_some]at hvr
    refine qo J (yI J J (yI J J (xT (zK J (zD (zE (zI J (zD (yL rfl (yN (xF ?_)))))))))))
    refine zR (yA (zC J (yH J J Y (zL J (zD (xG (⟨tr.length-(i+1),by omega,_,i+1,_,yZ ⟨J,J,J,J,J,J,trivial⟩,H.sub Z9,by rw[Nat.add_mul,Nat.one_mul];omega,by omega,J,?_⟩)))))))
    refine vA 0 O hs ?_
    rw[hkd,hst,hd]
    rfl
   rw[hd]at hvr
   simp only[Option.getD_none,Option.getD_some]at hvr
   refine qo J (yI J J (yI J J (xT (zK J (zD (zE (zI J (zD (yJ rfl (zE (zH J ?_)))))))))))
   refine zC J (zP qn J J O O (zJ sh3 J W8 hc1 (yS (c:=[.int _ _]) H kg J J O (fun b75 s2 H=>?_))))
   refine xL ?_
   have hr9:=dfs_len hd
   refine op_append1 H kg xV J J J (hvr.els H Z8) J (ints_plain _) (by rw[vF];omega) (by rw[qT];omega) O (fun b77 cap77 s77 hcap77 H=>?_)
   refine yU J (zG (zD (yO (qc (xI (kX (qc (xI (yB (end_tt J J ?_))))))))))
   rw[dfs_stp hvw,findSome_hit 0 O hs (by rw[hkd,hst,hd];rfl)]
   refine⟨_,.slice (some ⟨b77,0,none⟩) (1+(ki r9).length) cap77,J,H.up O,?_⟩
   have ho:Own tI 1 [(b77,MObj.cells (qm (ki (kk::r9))) tI)] (.slice (some ⟨b77,0,none⟩) (1+(ki r9).length) cap77) (qm (ki (kk::r9))) (1+(ki r9).length):=.block b77 cap77 _ _ (by rw[vF,qT,qT];simp only[List.length_cons];omega) O
   exact(Own.slIn ho).2.mono (by intro p hp;rw[List.mem_singleton]at hp;subst hp;exact List.mem_cons_self ..)
  refine zI J (zO J (zO J (zO J (zO J (yY J (yG J J (zD (yL rfl (yN (zR (zE ?_)))))))))))
  refine zB vV J (zJ sh3 J H.own0 J (zB wJ J (zJ sh3 J H.own0 J (yH J J Y (zC J (qC J J Y (zL J (zD (zE (zH J (zH J ?_)))))))))))
  refine zC J (zC J (zH J (zC J (zP qn J J O O (zJ sh3 J W8 hc1 (zF J fc50 J ?_))))))
  obtain⟨_,s9,hr,D9,vr,rfl,Hc,hvr⟩:=ih O H.fine (hl.kept H) (ht.kept H) (v:=oth (ends l) kk v) (last:=(kk:Int)) (by unfold oth;omega) (by unfold oth;omega) (hTm kk hkm O (by unfold Inc;omega)) Z
  refine⟨_,_,hr,?_⟩
  clear hr
  obtain⟨Φ,_,_,_,hDS,H⟩:=mergeT1 (K:=fun _ _=>False) (Φ:=[]) H Hc
  replace hvr:=hvr.mono hDS
  clear Hc hDS
  have hst:=stp_on (tr:=tr) (f:=f) (w:=w) (show(kk:Int)≠last by omega) (show Inc (ends l) kk v by unfold Inc;omega)
  rcases hd:dfs (ends l) tr f (oth (ends l) kk v) w (kk:Int)with _|r9
  ·rw[hd]at hvr
   simp only[Option.getD_none,Option.getD_some]at hvr
   refine qo J (yI J J (yI J J (xT (zK J (zD (zE (zI J (zD (yL rfl (yN (xF ?_)))))))))))
   refine zR (yA (zC J (yH J J Y (zL J (zD (xG (⟨tr.length-(i+1),by omega,_,i+1,_,yZ ⟨J,J,J,J,J,J,trivial⟩,H.sub Z9,by rw[Nat.add_mul,Nat.one_mul];omega,by omega,J,?_⟩)))))))
   refine vA 0 O hs ?_
   rw[hkd,hst,hd]
   rfl
  rw[hd]at hvr
  simp only[Option.getD_none,Option.getD_some]at hvr
  refine qo J (yI J J (yI J J (xT (zK J (zD (zE (zI J (zD (yJ rfl (zE (zH J ?_)))))))))))
  refine zC J (zP qn J J O O (zJ sh3 J W8 hc1 (yS (c:=[.int _ _]) H kg J J O (fun b75 s3 H=>?_))))
  refine xL ?_
  have hr9:=dfs_len hd
  refine op_append1 H kg xV J J J (hvr.els H Z8) J (ints_plain _) (by rw[vF];omega) (by rw[qT];omega) O (fun b77 cap77 s77 hcap77 H=>?_)
  refine yU J (zG (zD (yO (qc (xI (kX (qc (xI (yB (end_tt J J ?_))))))))))
  rw[dfs_stp hvw,findSome_hit 0 O hs (by rw[hkd,hst,hd];rfl)]
  refine⟨_,.slice (some ⟨b77,0,none⟩) (1+(ki r9).length) cap77,J,H.up O,?_⟩
  have ho:Own tI 1 [(b77,MObj.cells (qm (ki (kk::r9))) tI)] (.slice (some ⟨b77,0,none⟩) (1+(ki r9).length) cap77) (qm (ki (kk::r9))) (1+(ki r9).length):=.block b77 cap77 _ _ (by rw[vF,qT,qT];simp only[List.length_cons];omega) O
  exact(Own.slIn ho).2.mono (by intro p hp;rw[List.mem_singleton]at hp;subst hp;exact List.mem_cons_self ..)
 refine zD (yL rfl (ql (xU (xZ (xX (zR (zE (zG (zG (zD (yO ?_)))))))))))
 refine yB (end_tt J J ?_)
 have hml:=Nat.mul_le_mul_right (3+cost 3 f) (show i≤6 by omega)
 rw[dfs_stp hvw,findSome_end O hs]
 exact⟨[],_,J,H.up O,.nil _ J J⟩
end Go.Proofs.YtocnbjjmmgolfaaGreat
namespace Go.Proofs.YtocnbjjmmgolfaaGreat
open Go Go.M Go.Proofs.C14
theorem fb49:xK Tryz.f49 (Tryz.f49.body.getD .skip) 1=true:=by kernel_rfl
theorem fb53:xK Tryz.f53 (Tryz.f53.body.getD .skip) 2=true:=by kernel_rfl
theorem fb14:xK Tryz.f14 (Tryz.f14.body.getD .skip) 2=true:=by kernel_rfl
theorem cost_top{n:Nat}(h:n≤6):cost 3 (n+1)≤1200000:=by
 have:=cost_mono 3 (show n+1≤7 by omega)
 rw[cost7]at this
 omega
variable{I:xP}{K:Kw}{va vl:Value}{l:List Ft}{s:St}{i:Nat}
theorem way14_ok(hI:xA I){vt:Value}{tr:List Nat}(hA:FtsA K l)(hE:Ends l)(hlt:∀k∈tr,k<l.length)(h6:tr.length≤6)(hFo:Fo (ends l) tr)(hf:Fine s)(hl:SlF s vl l)(ht:SlD s vt (ki tr)){v w:Int}(hv0:0≤v)(hv1:v≤12)(hw0:0≤w)(hw1:w≤12)(hroom:1200000+s.next≤yC) :
  ∃v' s',xN Tryz.prog I 50 #[vl,vt,.int .i64 v,.int .i64 w,.int .i64 (-1)] s v' s'∧PostW s 1200000 (way (ends l) tr v w) v' s':=by
 have hc:=cost_top h6
 obtain⟨v',s',hr,D,vr,e,H,hv⟩:=path14_ok hI hA hE hlt h6 hw0 hw1 (tr.length+1) O hf hl ht hv0 hv1 (hFo.tm v (-1)) O
 exact⟨v',s',hr,D,vr,e,H.up hc,hv⟩
def PostI(s:St)(k:Nat)(r:List Int)(v:Value)(s':St):Prop:=∃D,HL [] s s' D k∧SlIn D v r
theorem sub_one{b:Nat}{o:MObj}{L:Hp'}:[(b,o)]⊆(b,o)::L:=by intro p hp;rw[List.mem_singleton]at hp;subst hp;exact List.mem_cons_self ..
theorem take_filter{α:Type}{l:List α}{p:α→Bool}(d:α)(hi:i<l.length):(l.take (i+1)).filter p=(l.take i).filter p++(if p (l.getD i d)then [l.getD i d]else []):=by
 rw[List.take_add_one,List.getElem?_eq_getElem hi,List.filter_append,List.getD_eq_getElem?_getD,List.getElem?_eq_getElem hi]
 simp[List.filter_cons]
theorem ends_take{k:Nat}(h:k<i):ends (l.take i) k=ends l k:=by
 unfold ends
 rw[List.getD_eq_getElem?_getD,List.getElem?_take,if_pos h,←List.getD_eq_getElem?_getD]
theorem Ends.take(h:Ends l):Ends (l.take i):=fun k hk=>by
 rw[List.length_take]at hk
 rw[ends_take O]
 exact h k O
theorem trees_take(h:i≤l.length):qj (ends (l.take i)) (l.take i).length=qj (ends l) i:=by
 rw[List.length_take,Nat.min_eq_left h]
 exact(trees_congr fun k hk=>ends_take hk).1
theorem FtsA.take(h:FtsA K l):FtsA K (l.take i):=fun g hg=>h g (List.mem_of_mem_take hg)
set_option maxHeartbeats 4000000 in
set_option maxRecDepth 10000 in
theorem tree14_ok(hI:xA I)(hA:FtsA K l)(hE:Ends l)(h6:(qj (ends l) l.length).length≤6)(h64:l.length≤65)(hf:Fine s)(hl:SlF s vl l)(hroom:s.next+80000000≤yC) :
  ∃v' s',xN Tryz.prog I 49 #[vl] s v' s'∧PostI s 80000000 (ki (qj (ends l) l.length)) v' s':=by
 rw[Nat.add_comm]at hroom
 have H:=hf.hl
 obtain⟨al,len,cap,rfl,hn⟩:=hl.isSlice
 rw[List.length_map]at hn
 subst hn
 refine zX 1 (hI 49 U U) Tryz.func49 J fb49 J ?_
 refine zE (zG (zD (zE (zG (zD (yE (zE (zG (zD (yR (xR (fun k F s1=>∃(G:FF) (i m:Nat) (v:Value) (Do:Hp'),F=lay G [(0,.slice al l.length cap),(3,v),(4,.int .i64 (i:Int))]∧HL [] s s1 Do m∧m≤i*1200010∧i≤l.length∧k=l.length-i∧Own tI 1 Do v (qm (ki (qj (ends l) i))) (ki (qj (ends l) i)).length) ?_ l.length _ _ ?_)))))))))))
 rotate_left
 ·exact⟨_,0,_,_,[],yZ ⟨J,J,J,trivial⟩,H,by omega,by omega,by omega,.nil⟩
 rintro k F s1 ⟨G,i,m,v,Do,rfl,H,hm,hi,rfl,ho⟩
 refine yE (zE (zC J (zH J (yF un24 J J J (xB J J (fun h=>?_) (fun h=>?_))))))
 ·refine zD (yJ rfl (yN (zR (yE (yR ?_)))))
  have hii:i<l.length:=by omega
  obtain⟨q,hq⟩:=hA.get hii
  obtain⟨b1,off1,c1_,rfl,hg1,hb1,_,hca,hcb,_⟩:=vT hl hii hq
  have hlb:b1<yC:=by omega
  have htl:=trees_le (e:=ends l) (show i≤l.length by omega)
  obtain⟨e0,e3,e4⟩:=hE i hii
  refine yT [⟨0,0,.light,[6,11]⟩,⟨1,0,.light,[6,11]⟩,⟨2,0,.light,[11]⟩,⟨3,0,.light,[11]⟩,⟨4,12,.light,[11]⟩,⟨5,28,.light,[11]⟩,⟨6,60,.light,[11]⟩,⟨7,0,.light,[6]⟩,⟨8,0,.light,[6]⟩,⟨9,384,.light,[6]⟩,⟨10,896,.light,[6]⟩,⟨11,1920,.light,[6]⟩,⟨12,4095,.whole,[]⟩,⟨13,8191,.light,[]⟩,⟨14,16383,.light,[]⟩,⟨15,16383,.light,[]⟩,⟨16,32767,.light,[]⟩,⟨17,131071,.light,[]⟩] Z0 Z0 (zA J J (zH J ⟨J,(zA J J (xL ⟨J,(zA J J (zH J ⟨J,(zA J J (zC J ⟨J,(zA J J (zP el24 J J O O ⟨J,(zA J J (zB vV J ⟨J,(zV J J sh3 J W8 hlb hca (zA J J (zH J ⟨J,(zA J J (zC J ⟨J,(zA J J (zP el24 J J O O ⟨J,(zA J J (zB wJ J ⟨J,?_⟩))⟩))⟩))⟩)))⟩))⟩))⟩))⟩))⟩))⟩))
  refine zV J J sh3 J W8 hlb hcb (zM J J (zF J fc50 J ?_))
  obtain⟨_,s9,hr,D9,vr,rfl,Hc,hvr⟩:=way14_ok hI hA hE (tr:=qj (ends l) i) (fun k hk=>Nat.lt_trans (vC i k hk) hii) O (kr i) H.fine (hl.kept H) ((Own.slIn ho).2.sl H Z7) (v:=(ends l i).1) (w:=(ends l i).2) O O O O Z4
  refine⟨_,_,hr,?_⟩
  clear hr
  have Hc:=HL.wider H.fine Z3 Z7 Hc
  have H:=(H.callE Hc).left
  clear Hc hvr
  rcases hw:way (ends l) (qj (ends l) i) (ends l i).1 (ends l i).2 with _|r9
  ·refine zA J J (qo J ⟨J,(zA J J (yI J J ⟨J,(zA J J (yI J J ⟨J,(zA J J (xT ⟨J,(zA J J (zK J ⟨J,(zU (zE (zI J (qt J (zD (yJ rfl (yA ?_)))))))⟩))⟩))⟩))⟩))⟩)
   refine xL (zC J (yS (c:=[.int _ _]) H kg J J O (fun b33 s1 H=>?_)))
   have hnl:=qT (qj (ends l) i)
   have hgt:=H.own0
   have H:=H.drop0
   refine qi (L:=[]) (D:=Do) V8 ho kg xV J J J W0 U J J O O (fun b34 s34 H ho=>?_)
   refine yU J (zD (xF (zR (yA (zC J (yH J J Y (zL J (zD (xG (⟨l.length-(i+1),by omega,_,i+1,_,_,_,yZ ⟨J,J,J,trivial⟩,H,by omega,by omega,J,?_⟩))))))))))
   rw[qj,hw]
   have e9:ki (qj (ends l) i++[i])=ki (qj (ends l) i)++[(i:Int)]:=by simp[ki]
   simp only[Option.isSome_none,Bool.false_eq_true,if_false]
   rw[e9,vS,List.length_append]
   exact ho
  refine zA J J (qo J ⟨J,(zA J J (yI J J ⟨J,(zA J J (yI J J ⟨J,(zA J J (xT ⟨J,(zA J J (zK J ⟨J,(zU (zE (zI J (qt J (zD (yL rfl (yN ?_)))))))⟩))⟩))⟩))⟩))⟩)
  refine xF (zR (yA (zC J (yH J J Y (zL J (zD (xG (⟨l.length-(i+1),by omega,_,i+1,_,_,_,yZ ⟨J,J,J,trivial⟩,H,by omega,by omega,J,?_⟩))))))))
  rw[qj,hw]
  exact ho
 refine zD (yL rfl (ql (xU (xZ (xX (zR (zE (xL (xT (zD (yO ?_)))))))))))
 refine yB (yV ?_)
 rw[show i=l.length by omega]at ho
 exact⟨_,H.up O,(Own.slIn ho).2⟩
set_option maxHeartbeats 4000000 in
set_option maxRecDepth 10000 in
theorem add14_ok(hI:xA I)(hf:Fine s){l:List Int}(hl:SlD s va l)(h64:l.length≤100){n:Int}(hroom:s.next+500≤yC) :
  ∃v' s',xN Tryz.prog I 53 #[va,.int .i64 n] s v' s'∧PostI s 500 (insS l n) v' s':=by
 have H:=hf.hl
 obtain⟨al,len,cap,rfl,hn⟩:=hl.isSlice
 rw[List.length_map]at hn
 subst hn
 refine zX 2 (hI 53 U U) Tryz.func53 J fb53 J ?_
 refine zE (zG (zD (zE (zG (zD (yE (zE (zG (zD (yR (xR (fun k F s1=>∃(G:FF) (i m:Nat) (v:Value) (o:List Int) (Do:Hp'),F=lay G [(0,.slice al l.length cap),(1,.int .i64 n),(5,v),(6,.int .i64 (i:Int))]∧HL [] s s1 Do m∧m≤i*2∧i≤l.length∧k=l.length-i∧Own tI 1 Do v (qm o) o.length∧o=(l.take i).filter (·<n)∧o.length≤i) ?_ l.length _ _ ?_)))))))))))
 rotate_left
 ·exact⟨_,0,_,_,[],[],yZ ⟨J,J,J,J,trivial⟩,H,by omega,by omega,by omega,.nil,J,Nat.le_refl _⟩
 rintro k F s1 ⟨G,i,m,v,o,Do,rfl,H,hm,hi,rfl,ho,hoe,hol⟩
 refine yE (zE (zC J (zH J (yF xV J J J (xB J J (fun h=>?_) (fun h=>?_))))))
 ·refine zD (yJ rfl (yN (zR (yE (yR ?_)))))
  obtain⟨b1,off1,c1_,rfl,hg1,hb1,hc1⟩:=hl.atD (i:=(i:Int)) (k:=i) rfl O
  refine zE (zH J (zC J (zP qn J J O O (zJ sh3 J W8 hc1 (zC J (xB J J (fun h=>?_) (fun h=>?_)))))))
  ·refine zD (yJ rfl (yA (xL (zH J (zC J (zP qn J J O O (zJ sh3 J W8 hc1 (yS (c:=[.int _ _]) H kg J J O (fun b25 s1 H=>?_)))))))))
   have hgt:=H.own0
   have H:=H.drop0
   refine qi (L:=[]) (D:=Do) V8 ho kg xV J J J W0 U J J O O (fun b26 s26 H ho=>?_)
   refine yU J (zD (xF (zR (yA (zC J (yH J J Y (zL J (zD (xG (⟨l.length-(i+1),by omega,_,i+1,_,_,o++[l.getD i 0],_,yZ ⟨J,J,J,J,trivial⟩,H,by omega,by omega,J,by rw[vS,List.length_append];exact ho,?_,by rw[List.length_append,List.length_singleton];omega⟩))))))))))
   rw[take_filter 0 O,if_pos (decide_eq_true O),hoe]
  refine zD (yL rfl (yN (xF (zR (yA (zC J (yH J J Y (zL J (zD (xG (⟨l.length-(i+1),by omega,_,i+1,_,_,o,_,yZ ⟨J,J,J,J,trivial⟩,H,by omega,by omega,J,ho,?_,by omega⟩)))))))))))
  rw[take_filter 0 O,if_neg (by rw[decide_eq_true_eq];omega),List.append_nil,hoe]
 refine zD (yL rfl (ql (xU (xZ (xX (zR (zE (xL (zC J (yS (c:=[.int _ _]) H kg J J O (fun b29 s2 H=>?_)))))))))))
 have hgt:=H.own0
 have H:=H.drop0
 refine qi (L:=[]) (D:=Do) V8 ho kg xV J J J W0 U J J O O (fun b30 s30 H ho=>?_)
 refine yU J (zD (yE (zE (zG (zD (yR (xR (fun k F s1=>∃(G:FF) (i m:Nat) (v:Value) (o2:List Int) (Do:Hp'),F=lay G [(0,.slice al l.length cap),(1,.int .i64 n),(5,v),(7,.int .i64 (i:Int))]∧HL [] s s1 Do m∧m≤210+i*2∧i≤l.length∧k=l.length-i∧Own tI 1 Do v (qm o2) o2.length∧o2=o++n::(l.take i).filter (n<·)∧o2.length≤102+i) ?_ l.length _ _ ?_)))))))
 rotate_left
 ·exact⟨_,0,_,_,o++[n],_,yZ ⟨J,J,J,J,trivial⟩,H,by omega,by omega,by omega,by rw[vS,List.length_append];exact ho,J,by rw[List.length_append,List.length_singleton];omega⟩
 rintro k F s1 ⟨G,i,m,v,o2,Do,rfl,H,hm,hi,rfl,ho,hoe2,hol2⟩
 refine yE (zE (zC J (zH J (yF xV J J J (xB J J (fun h=>?_) (fun h=>?_))))))
 ·refine zD (yJ rfl (yN (zR (yE (yR ?_)))))
  obtain⟨b1,off1,c1_,rfl,hg1,hb1,hc1⟩:=hl.atD (i:=(i:Int)) (k:=i) rfl O
  refine zE (zH J (zC J (zP qn J J O O (zJ sh3 J W8 hc1 (zC J (qv J J (fun h=>?_) (fun h=>?_)))))))
  ·refine zD (yJ rfl (yA (xL (zH J (zC J (zP qn J J O O (zJ sh3 J W8 hc1 (yS (c:=[.int _ _]) H kg J J O (fun b48 s3 H=>?_)))))))))
   have hgt:=H.own0
   have H:=H.drop0
   refine qi (L:=[]) (D:=Do) V8 ho kg xV J J J W0 U J J O O (fun b49 s49 H ho=>?_)
   refine yU J (zD (xF (zR (yA (zC J (yH J J Y (zL J (zD (xG (⟨l.length-(i+1),by omega,_,i+1,_,_,o2++[l.getD i 0],_,yZ ⟨J,J,J,J,trivial⟩,H,by omega,by omega,J,by rw[vS,List.length_append];exact ho,?_,by rw[List.length_append,List.length_singleton];omega⟩))))))))))
   rw[take_filter 0 O,if_pos (decide_eq_true O),hoe2,List.append_assoc,List.cons_append]
  refine zD (yL rfl (yN (xF (zR (yA (zC J (yH J J Y (zL J (zD (xG (⟨l.length-(i+1),by omega,_,i+1,_,_,o2,_,yZ ⟨J,J,J,J,trivial⟩,H,by omega,by omega,J,ho,?_,by omega⟩)))))))))))
  rw[take_filter 0 O,if_neg (by rw[decide_eq_true_eq];omega),List.append_nil,hoe2]
 refine zD (yL rfl (ql (xU (xZ (xX (zR (zE (xL (xT (zD (yO ?_)))))))))))
 refine yB (yV (⟨_,H.up O,?_⟩))
 have h9:=(Own.slIn ho).2
 rw[hoe2,show i=l.length by omega,List.take_length,hoe]at h9
 rw[List.take_of_length_le O]at h9
 exact h9
set_option maxHeartbeats 4000000 in
set_option maxRecDepth 10000 in
theorem sameInts_ok(hI:xA I)(hf:Fine s){vb:Value}{l:List Int}(hl:SlD s va l)(hm:SlD s vb l)(h64:l.length≤10000)(hroom:s.next≤yC) :
  ∃v' s',xN Tryz.prog I 14 #[va,vb] s v' s'∧(v'=.bool true∧s'=s):=by
 obtain⟨al,len,cap,rfl,hn⟩:=hl.isSlice
 rw[List.length_map]at hn
 subst hn
 obtain⟨al2,len,cap2,rfl,hn⟩:=hm.isSlice
 rw[List.length_map]at hn
 subst hn
 refine zX 2 (hI 14 U U) Tryz.func14 J fb14 J ?_
 refine zE (zG (zD (yE (zE (zH J (yF xV J J J (zH J (yF xV J J J (k6 J J Y6 (fun h=>?_))))))))))
 refine zD (yL rfl (yN (zR (yE (zE (zG (zD (yR (xR (fun k F s1=>∃(G:FF) (i:Nat),F=lay G [(0,.slice al l.length cap),(1,.slice al2 l.length cap2),(5,.int .i64 (i:Int))]∧s1=s∧i≤l.length∧k=l.length-i) ?_ l.length _ _ ?_)))))))))
 rotate_left
 ·exact⟨_,0,yZ ⟨J,J,J,trivial⟩,J,by omega,by omega⟩
 rintro k F s1 ⟨G,i,rfl,hs1,hi,rfl⟩
 subst hs1
 refine yE (zE (zC J (zH J (yF xV J J J (xB J J (fun h=>?_) (fun h=>?_))))))
 ·refine zD (yJ rfl (yN (zR (yE (yR ?_)))))
  obtain⟨b1,off1,c1_,rfl,hg1,hb1,hc1⟩:=hl.atD (i:=(i:Int)) (k:=i) rfl O
  obtain⟨b2,off2,c2_,rfl,hg2,hb2,hc2⟩:=hm.atD (i:=(i:Int)) (k:=i) rfl O
  have hlb1:b1<yC:=by omega
  have hlb2:b2<yC:=by omega
  refine yT [⟨0,0,.light,[7]⟩,⟨1,0,.light,[7]⟩,⟨2,3,.light,[7]⟩,⟨3,7,.light,[7]⟩,⟨4,0,.light,[3]⟩,⟨5,0,.light,[3]⟩,⟨6,48,.light,[3]⟩,⟨7,112,.light,[3]⟩,⟨8,255,.light,[]⟩] Z0 Z0 (zA J J (zH J ⟨J,(zA J J (zC J ⟨J,(zA J J (zP qn J J O O ⟨J,(zV J J sh3 J hg1 hlb1 hc1 (zA J J (zH J ⟨J,(zA J J (zC J ⟨J,(zA J J (zP qn J J O O ⟨J,(zV J J sh3 J hg2 hlb2 hc2 (zA J J (k6 J J Y6 (fun h=>⟨J,?_⟩))))⟩))⟩))⟩)))⟩))⟩))⟩))
  refine zU (yL rfl (yN (xF (zR (yA (zC J (yH J J Y (zL J (zD (xG ?_))))))))))
  exact⟨l.length-(i+1),by omega,_,i+1,yZ ⟨J,J,J,trivial⟩,J,by omega,J⟩
 refine zD (yL rfl (ql (xU (xZ (xX (zR (zE (zG (zD (yO (yB ?_)))))))))))
 refine yV ?_
 exact⟨J,J⟩
end Go.Proofs.YtocnbjjmmgolfaaGreat
namespace Go.Proofs.YtocnbjjmmgolfaaGreat
open Go Go.M Go.Proofs.C14
theorem fb52:xK Tryz.f52 (Tryz.f52.body.getD .skip) 3=true:=by kernel_rfl
theorem el42:elemF Tryz.prog 42=some (true,0,8):=by kernel_rfl
theorem fb13:xK Tryz.f13 (Tryz.f13.body.getD .skip) 2=true:=by kernel_rfl
theorem fc51:xJ Tryz.prog 51=true:=by kernel_rfl
theorem un42:Tryz.prog.underlying 42=some (.slice 36):=by kernel_rfl
variable{K:Kw}{q:Q2}{i:Nat}{T:Nat→Q2}{r:List Nat}{cs:List (List Value)}{qs:List Q2}{I:xP}{s:St}
theorem cells_t{f:Ft}(h:FtK K f q):qX 8 (kw 5 f.cells)=some f.t:=by
 show qX 8 (f.t++(f.lo++f.hi))=some f.t
 rw[vE,if_pos (by rw[List.length_append,h.t.len];omega),List.take_append_of_le_length (by rw[h.t.len];exact Nat.le_refl _),List.take_of_length_le (by rw[h.t.len];exact Nat.le_refl _)]
theorem pow5(h:i≤5):25 ^ i≤9765625:=Nat.le_trans (Nat.pow_le_pow_right U h) U
theorem pow6(h:i≤6):25 ^ i≤244140625:=Nat.le_trans (Nat.pow_le_pow_right U h) U
theorem along_cons{e:Nat→Int×Int}{k:Nat}{v:Int}{t:Q2}:vH e T (k::r) v t=vH e T r (oth e k v) (aft t (if (e k).1=v then T k else bck (T k))):=rfl
structure TurnsK(K:Kw)(cs:List (List Value))(qs:List Q2):Prop where
 len:cs.length=qs.length
 vec:∀k,k<qs.length→VecK K (cs.getD k []) (qs.getD k wC).1 (qs.getD k wC).2 244140625 244140625
theorem TurnsK.mono{K':Kw}(h:TurnsK K cs qs)(hs:KLe K K'):TurnsK K' cs qs:=⟨h.len,fun k hk=>(h.vec k hk).mono hs⟩
theorem TurnsK.all(h:TurnsK K cs qs):∀x∈cs,x.length=8:=all_len fun k hk=>(h.vec k (by rw[←h.len];exact hk)).len
theorem TurnsK.snoc{c:List Value}(h:TurnsK K cs qs)(hc:VecK K c q.1 q.2 244140625 244140625):TurnsK K (cs++[c]) (qs++[q]):=by
 refine⟨by simp[h.len],fun k hk=>?_⟩
 rw[List.getD_eq_getElem?_getD,List.getD_eq_getElem?_getD]
 by_cases hl:k<qs.length
 ·rw[List.getElem?_append_left hl,List.getElem?_append_left (by rw[h.len];exact hl),←List.getD_eq_getElem?_getD,←List.getD_eq_getElem?_getD]
  exact h.vec k hl
 ·have:k=qs.length:=by rw[List.length_append,List.length_singleton]at hk;omega
  subst this
  rw[List.getElem?_append_right (Nat.le_refl _),List.getElem?_append_right (by rw[h.len];exact Nat.le_refl _),h.len,Nat.sub_self]
  exact hc
theorem TurnsK.nil:TurnsK K [] []:=⟨rfl,fun k hk=>by simp at hk⟩
set_option maxHeartbeats 4000000 in
set_option maxRecDepth 10000 in
theorem along14_ok(hI:xA I)(hf:Fine s)(hK:Kn s K){vl vw:Value}{l:List Ft}(hF:FtsK K l T)(hE:Ends l)(hl:SlF s vl l)(h6:r.length≤6)(hrl:∀k∈r,k<l.length)(hw:SlD s vw (ki r)){tr:List Nat}{v0 last0 w:Int}(hnb:NB (ends l) tr v0 last0 r w)(hroom:s.next+500000≤yC) :
  ∃v' s',xN Tryz.prog I 52 #[vl,vw,.int .i64 v0] s v' s'∧PostV K s 500000 (vH (ends l) T r v0 wC).1 (vH (ends l) T r v0 wC).2 244140625 244140625 v' s':=by
 rw[Nat.add_comm]at hroom
 have H:=hf.hl
 obtain⟨al,len,cap,rfl,hn⟩:=hl.isSlice
 rw[List.length_map]at hn
 subst hn
 obtain⟨aw,len2,cap2,rfl,hn2⟩:=hw.isSlice
 rw[List.length_map,qT]at hn2
 subst hn2
 refine zX 3 (hI 52 U U) Tryz.func52 J fb52 J ?_
 refine zE (zS H zf36 O (fun b6 s1 H=>?_))
 refine zD (zE (zF J fc37 J (kn (still05_ok hI H.fine (kn1 hK H) Z) (fun s9 D9 n1 a1 m1 c1 n1d a1d m1d c1d n1y a1y m1y c1y n1yd a1yd m1yd c1yd Hc h101a h101b=>?_))))
 obtain⟨Φ,ku,kd,H⟩:=ko (K:=K) H Hc
 replace h101a:=h101a.mono kd
 replace h101b:=h101b.mono kd
 clear Hc ku kd
 refine zS H zf36 O (fun b7 s2 H=>?_)
 refine zT (vs:=[.bool _,.slice _ _ _,.bool _,.slice _ _ _,.bool _,.slice _ _ _,.bool _,.slice _ _ _]) H jo J J J J J O (fun s3 H=>?_)
 refine zD (yE (zE (zG (zD (yR (xR (fun k F s1=>∃(G:FF) (i m:Nat) (v:Int) (t:Q2) (Φ:Hp') (last:Int) (n31:Bool) (a31:Option Addr) (m31 c31:Nat) (n32:Bool) (a32:Option Addr) (m32 c32:Nat) (n33:Bool) (a33:Option Addr) (m33 c33:Nat) (n34:Bool) (a34:Option Addr) (m34 c34:Nat),F=lay G [(0,.slice al l.length cap),(1,.slice aw r.length cap2),(2,.int .i64 v),(6,.pointer (some ⟨b6,0,none⟩)),(7,.pointer (some ⟨b7,0,none⟩)),(8,.int .i64 (i:Int))]∧HL [] s s1 ((b7,.cells [.bool n31,.slice a31 m31 c31,.bool n32,.slice a32 m32 c32,.bool n33,.slice a33 m33 c33,.bool n34,.slice a34 m34 c34] 36)::(b6,.cells [.bool false,.slice none 0 0,.bool false,.slice none 0 0,.bool false,.slice none 0 0,.bool false,.slice none 0 0] 36)::Φ) m∧m≤1300+i*81000∧i≤r.length∧k=r.length-i∧Tn (25 ^ i) t∧RatK (KX K Φ) n31 a31 m31 c31 n32 a32 m32 c32 t.1 (25 ^ i) (25 ^ i)∧RatK (KX K Φ) n33 a33 m33 c33 n34 a34 m34 c34 t.2 (25 ^ i) (25 ^ i)∧vH (ends l) T r v0 wC=vH (ends l) T (r.drop i) v t∧NB (ends l) tr v last (r.drop i) w) ?_ r.length _ _ ?_))))))
 rotate_left
 ·exact⟨_,0,_,_,wC,Φ,_,_,_,_,_,_,_,_,_,_,_,_,_,_,_,_,_,yZ ⟨J,J,J,J,J,J,trivial⟩,H,by omega,by omega,by omega,tn_still,h101a,h101b,J,hnb⟩
 rintro k F s1 ⟨G,i,m,v,t,Φ,last,n31,a31,m31,c31,n32,a32,m32,c32,n33,a33,m33,c33,n34,a34,m34,c34,rfl,H,hm,hi,rfl,ht,hX,hY,hal,hnb9⟩
 refine yE (zE (zC J (zH J (yF xV J J J (xB J J (fun h=>?_) (fun h=>?_))))))
 ·refine zD (yJ rfl (yN (zR (yE (yR ?_)))))
  have hir:i<r.length:=by omega
  obtain⟨b1,off1,c1_,rfl,hg1,hb1,hc1⟩:=hw.atD (i:=(i:Int)) (k:=i) rfl (by rw[qT];omega)
  rw[nats_getD hir]at hc1
  have hkl:=hrl _ (wM (l:=r) (y:=0) hir)
  rw[drop_getD 0 hir,along_cons]at hal
  rw[drop_getD 0 hir]at hnb9
  generalize hkd:r.getD i 0=kk at *
  have hq:=hF.fit kk hkl
  obtain⟨b2,off2,c2_,rfl,hg2,hb2,hc9,_,_,_⟩:=vT hl hkl hq
  obtain⟨e0,e3,e4⟩:=hE kk hkl
  obtain⟨_,_,hinc,hnb9⟩:=hnb9
  have e1:(ends l kk).1=(l.getD kk default).a:=rfl
  have e2:(ends l kk).2=(l.getD kk default).b:=rfl
  have hct:=cells_t hq
  obtain⟨n1,a1,m1,c1,n2,a2,m2,c2,n3,a3,m3,c3,n4,a4,m4,c4,eT,hX1,hY1⟩:=hq.t
  rw[eT]at hct
  replace hX1:=hX1.mono (zZ (D:=Φ))
  replace hY1:=hY1.mono (zZ (D:=Φ))
  have hp5:=pow5 (show i≤5 by omega)
  replace hX:=hX.le (N':=9765625) (M':=9765625) hp5 hp5
  replace hY:=hY.le (N':=9765625) (M':=9765625) hp5 hp5
  refine zE (zH J (zH J (zC J (zP qn J J O O (zJ sh3 J W8 hc1 (zP el24 J J O O (zN sh40 J (H.old hb2 hg2) hc9 (zS H zf40 O (fun b9 s4 H=>?_)))))))))
  refine zT (vs:=(l.getD kk default).cells) H sz40 J J (beq_llen hq.len) hq.plain (lput_full (by rw[hq.len];rfl)) (by omega) (fun s9 H=>?_)
  refine zD (zE (zB vV J (zJ sh3 J H.own0 J (zC J (qh J J (fun h=>?_) (fun h=>?_))))))
  ·refine zD (yJ rfl (zE (zN kU J H.own1 J (zB of40_5 J (zN kU J H.own0 hct (zF J fc73 J (kn (after05_ok hI H.fine (kn3 hK H) hX hY hX1 hY1 U U U U U U Z) (fun s9 D9 n2 a2 m2 c2 n2d a2d m2d c2d n2y a2y m2y c2y n2yd a2yd m2yd c2yd Hc h102a h102b=>?_))))))))
   obtain⟨Φ,ku,kd,H⟩:=qk (K:=K) H Hc
   try replace hX:=hX.mono ku
   try replace hY:=hY.mono ku
   try replace hX1:=hX1.mono ku
   try replace hY1:=hY1.mono ku
   replace h102a:=h102a.mono kd
   replace h102b:=h102b.mono kd
   clear Hc ku kd
   refine qu (vs:=[.bool _,.slice _ _ _,.bool _,.slice _ _ _,.bool _,.slice _ _ _,.bool _,.slice _ _ _]) H jo J J J J J O (fun s5 H=>?_)
   refine zD (yA (zB wJ J (zJ sh3 J H.own0 J (zL J (zD (xF (zR (yA (zC J (yH J J Y (zL J ?_)))))))))))
   refine zD (xG ?_)
   rw[if_pos (by omega)]at hal
   have ht9:Tn (25 ^ (i+1)) (aft t (T kk)):=ht.aft hq.tn
   have e9:oth (ends l) kk v=(l.getD kk default).b:=by unfold Inc at hinc;unfold oth;omega
   rw[e9]at hal hnb9
   refine⟨r.length-(i+1),by omega,_,i+1,_,_,_,Φ,(kk:Int),_,_,_,_,_,_,_,_,_,_,_,_,_,_,_,_,yZ ⟨J,J,J,J,J,J,trivial⟩,H.drop0,by omega,by omega,J,ht9,(h102a).bd ht9.bd.1,(h102b).bd ht9.bd.2,hal,hnb9⟩
  refine zD (yL rfl (yT [⟨0,0,.light,[2]⟩,⟨1,0,.light,[0]⟩,⟨2,2,.light,[0]⟩,⟨3,6,.whole,[0]⟩,⟨4,15,.whole,[]⟩,⟨5,31,.whole,[]⟩] Z0 Z0 (zQ J J kU J H.own1 Y1 J (zA J J (zB of40_5 J ⟨J,(zQ J J kU J H.own0 Y0 hct (zM J J (zF J fc100 J (kn (back05_ok hI (Fine.pr H.fine (xW H.lt1 qO)) X3 hX1 hY1 U Z) (fun s9 D9 n3 a3 m3 c3 n3d a3d m3d c3d n3y a3y m3y c3y n3yd a3yd m3yd c3yd Hc h103a h103b=>?_)))))⟩)))))
  have Hc:=HL.wider H.fine Z3 Z5 Hc
  obtain⟨Φ,ku,kd,H⟩:=qk (K:=K) H Hc
  try replace hX:=hX.mono ku
  try replace hY:=hY.mono ku
  replace h103a:=h103a.mono kd
  replace h103b:=h103b.mono kd
  clear Hc ku kd
  refine zM J J (zF J fc73 J (kn (after05_ok hI H.fine (kn3 hK H) hX hY h103a h103b U U U U U U Z) (fun s9 D9 n4 a4 m4 c4 n4d a4d m4d c4d n4y a4y m4y c4y n4yd a4yd m4yd c4yd Hc h104a h104b=>?_)))
  have Hc:=HL.wider H.fine Z3 Z7 Hc
  obtain⟨Φ,ku,kd,H⟩:=qk (K:=K) H Hc
  try replace hX:=hX.mono ku
  try replace hY:=hY.mono ku
  replace h104a:=h104a.mono kd
  replace h104b:=h104b.mono kd
  clear Hc ku kd
  refine kT (vs:=[.bool _,.slice _ _ _,.bool _,.slice _ _ _,.bool _,.slice _ _ _,.bool _,.slice _ _ _]) (fr:=[]) H J J jo J J J J J J Z2 O (fun s6 H=>?_)
  refine zU (yA (zB vV J (zJ sh3 J H.own0 J (zL J (zD (xF (zR (yA (zC J (yH J J Y (zL J ?_)))))))))))
  refine zD (xG ?_)
  rw[if_neg (by omega)]at hal
  have ht9:Tn (25 ^ (i+1)) (aft t (bck (T kk))):=ht.aft hq.tn.bck
  have e9:oth (ends l) kk v=(l.getD kk default).a:=by unfold Inc at hinc;unfold oth;omega
  rw[e9]at hal hnb9
  refine⟨r.length-(i+1),by omega,_,i+1,_,_,_,Φ,(kk:Int),_,_,_,_,_,_,_,_,_,_,_,_,_,_,_,_,yZ ⟨J,J,J,J,J,J,trivial⟩,H.drop0,by omega,by omega,J,ht9,(h104a).bd ht9.bd.1,(h104b).bd ht9.bd.2,hal,hnb9⟩
 refine zD (yL rfl (ql (xU (xZ (xX (zR (zE (zN kU J H.own0 J (qu (vs:=[.bool _,.slice _ _ _,.bool _,.slice _ _ _,.bool _,.slice _ _ _,.bool _,.slice _ _ _]) H jo J J J J J O (fun s7 H=>?_))))))))))
 refine zD (yO (yB (yP kU J H.own1 J ?_)))
 have hi6:=pow6 (show i≤6 by omega)
 have hal9:vH (ends l) T r v0 wC=t:=by rw[hal,List.drop_eq_nil_of_le (by omega)];rfl
 rw[hal9]
 exact⟨Φ,_,_,_,_,_,_,_,_,_,_,_,_,_,_,_,_,J,(frz2 H).up O,hX.le hi6 hi6,hY.le hi6 hi6⟩
theorem sameTurn05_yes(hI:xA I)(hf:Fine s)(hK:Kn s K){n1:Bool}{a1:Option Addr}{m1 c1:Nat}{n2:Bool}{a2:Option Addr}{m2 c2:Nat}{n3:Bool}{a3:Option Addr}{m3 c3:Nat}{n4:Bool}{a4:Option Addr}{m4 c4:Nat}{n5:Bool}{a5:Option Addr}{m5 c5:Nat}{n6:Bool}{a6:Option Addr}{m6 c6:Nat}{n7:Bool}{a7:Option Addr}{m7 c7:Nat}{n8:Bool}{a8:Option Addr}{m8 c8:Nat}{p q:Rat}{N1 M1 N2 M2:Nat}(hx:RatK K n1 a1 m1 c1 n2 a2 m2 c2 p N1 M1)(hy:RatK K n3 a3 m3 c3 n4 a4 m4 c4 q N1 M1)(hz:RatK K n5 a5 m5 c5 n6 a6 m6 c6 p N2 M2)(hw:RatK K n7 a7 m7 c7 n8 a8 m8 c8 q N2 M2)(h1:N1<1000000000000000000000000000000000000000000000000000000)(h2:N2<1000000000000000000000000000000000000000000000000000000)(h3:M1<1000000000000000000000000000000000000000000000000000000)(h4:M2<1000000000000000000000000000000000000000000000000000000)(hroom:s.next+1000≤yC) :
  ∃v' s',xN Tryz.prog I 51 #[.agg ⟨[.bool n1,.slice a1 m1 c1,.bool n2,.slice a2 m2 c2,.bool n3,.slice a3 m3 c3,.bool n4,.slice a4 m4 c4]⟩,.agg ⟨[.bool n5,.slice a5 m5 c5,.bool n6,.slice a6 m6 c6,.bool n7,.slice a7 m7 c7,.bool n8,.slice a8 m8 c8]⟩] s v' s'∧qQ s 1000 (.bool true) v' s':=by
 have:=sameTurn05_ok hI hf hK hx hy hz hw h1 h2 h3 h4 hroom
 rwa[decide_eq_true (⟨rfl,rfl⟩:p=p∧q=q)]at this
set_option maxHeartbeats 4000000 in
set_option maxRecDepth 10000 in
theorem sameTurns14_ok(hI:xA I)(hf:Fine s)(hK:Kn s K){va vb:Value}{ca cb:List (List Value)}(ha:Sl s 36 8 va ca)(hb:Sl s 36 8 vb cb)(hqa:TurnsK K ca qs)(hqb:TurnsK K cb qs)(h12:qs.length≤12)(hroom:s.next+20000≤yC) :
  ∃v' s',xN Tryz.prog I 13 #[va,vb] s v' s'∧qQ s 20000 (.bool true) v' s':=by
 rw[Nat.add_comm]at hroom
 have H:=hf.hl
 obtain⟨al,len,cap,rfl,hn⟩:=ha.isSlice
 rw[hqa.len]at hn
 subst hn
 obtain⟨al2,len,cap2,rfl,hn⟩:=hb.isSlice
 rw[hqb.len]at hn
 subst hn
 refine zX 2 (hI 13 U U) Tryz.func13 J fb13 J ?_
 refine zE (zG (zD (yE (zE (zH J (yF un42 J J J (zH J (yF un42 J J J (k6 J J Y6 (fun h=>?_))))))))))
 refine zD (yL rfl (yN (zR (yE (zE (zG (zD (yR (xR (fun k F s1=>∃(G:FF) (i m:Nat),F=lay G [(0,.slice al qs.length cap),(1,.slice al2 qs.length cap2),(5,.int .i64 (i:Int))]∧HL [] s s1 [] m∧m≤i*1000∧i≤qs.length∧k=qs.length-i) ?_ qs.length _ _ ?_)))))))))
 rotate_left
 ·exact⟨_,0,_,yZ ⟨J,J,J,trivial⟩,H,by omega,by omega,by omega⟩
 rintro k F s1 ⟨G,i,m,rfl,H,hm,hi,rfl⟩
 refine yE (zE (zC J (zH J (yF un42 J J J (xB J J (fun h=>?_) (fun h=>?_))))))
 ·refine zD (yJ rfl (yN (zR (yE (yR ?_)))))
  have hii:i<qs.length:=by omega
  obtain⟨b1,off1,c1_,rfl,hg1,hb1,hc1⟩:=ha.at (i:=(i:Int)) (k:=i) rfl (by rw[hqa.len];omega)
  obtain⟨b2,off2,c2_,rfl,hg2,hb2,hc2⟩:=hb.at (i:=(i:Int)) (k:=i) rfl (by rw[hqb.len];omega)
  have hlb1:b1<yC:=by omega
  have hlb2:b2<yC:=by omega
  obtain⟨nx1,ax1,mx1,cx1,nx2,ax2,mx2,cx2,nx3,ax3,mx3,cx3,nx4,ax4,mx4,cx4,ex,hX1,hY1⟩:=hqa.vec i hii
  obtain⟨ny1,ay1,my1,cy1,ny2,ay2,my2,cy2,ny3,ay3,my3,cy3,ny4,ay4,my4,cy4,ey,hX2,hY2⟩:=hqb.vec i hii
  rw[ex]at hc1
  rw[ey]at hc2
  replace hX1:=hX1.mono (zZ (D:=[]))
  replace hY1:=hY1.mono (zZ (D:=[]))
  replace hX2:=hX2.mono (zZ (D:=[]))
  replace hY2:=hY2.mono (zZ (D:=[]))
  refine yT [⟨0,0,.light,[7]⟩,⟨1,0,.light,[7]⟩,⟨2,3,.light,[7]⟩,⟨3,7,.light,[7]⟩,⟨4,0,.light,[3]⟩,⟨5,0,.light,[3]⟩,⟨6,48,.light,[3]⟩,⟨7,112,.light,[3]⟩,⟨8,255,.whole,[]⟩,⟨9,511,.light,[]⟩] Z0 Z0 (zA J J (zH J ⟨J,(zA J J (zC J ⟨J,(zA J J (zP el42 J J O O ⟨J,(zQ J J kU J W8 hlb1 hc1 (zA J J (zH J ⟨J,(zA J J (zC J ⟨J,(zA J J (zP el42 J J O O ⟨J,(zQ J J kU J (H.old hb2 hg2) hlb2 hc2 (zM J J (zF J fc51 J (callE (sameTurn05_yes hI H.fine (kn0 hK H) hX1 hY1 hX2 hY2 U U U U Z) (fun s9 Hc=>?_)))))⟩))⟩))⟩)))⟩))⟩))⟩))
  have Hc:=HL.wider H.fine Z3 Z7 Hc
  have H:=H.call0 Hc
  clear Hc
  refine zA J J (qt J ⟨J,(zU (yL rfl (yN (xF (zR (yA (zC J (yH J J Y (zL J (zD (xG ?_)))))))))))⟩)
  exact⟨qs.length-(i+1),by omega,_,i+1,_,yZ ⟨J,J,J,trivial⟩,H,by omega,by omega,J⟩
 refine zD (yL rfl (ql (xU (xZ (xX (zR (zE (zG (zD (yO (yB ?_)))))))))))
 refine yV ?_
 exact⟨J,H.up O⟩
end Go.Proofs.YtocnbjjmmgolfaaGreat
namespace Go.Proofs.YtocnbjjmmgolfaaGreat
open Go Go.M Go.Proofs.C14
theorem fb16:xK Tryz.f16 (Tryz.f16.body.getD .skip) 2=true:=by kernel_rfl
theorem fc49:xJ Tryz.prog 49=true:=by kernel_rfl
def rts(n:Nat)(l:List Ft):List Int:=kL (ends l) n l.length
variable{k n:Nat}{l:List Ft}{e:Nat→Int×Int}{T:Nat→Q2}{r:List Nat}
theorem rts_of(h:kA n l=true):RootsOf (ends l) n (qj (ends l) l.length) (rts n l):=roots_of fun k hk=>by
 have:=List.all_eq_true.mp h (l.getD k default) (wM hk)
 have:=of_decide_eq_true this
 exact this
theorem range_snoc{α:Type}(f:Nat→α)(i:Nat):(List.range (i+1)).map f=(List.range i).map f++[f i]:=by rw[List.range_succ,List.map_append,List.map_singleton]
theorem map_range_eq{l:List Int}{f:Nat→Int}(h1:l.length=n)(h2:∀i,i<n→l.getD i 0=f i):(List.range n).map f=l:=by
 apply List.ext_getElem
 ·simp[h1]
 ·intro i h3 h4
  rw[List.getElem_map,List.getElem_range]
  have:=h2 i O
  rw[List.getD_eq_getElem?_getD,List.getElem?_eq_getElem h4]at this
  exact this.symm
def trn(n:Nat)(l:List Ft)(T:Nat→Q2)(i:Nat):Q2:=vH (ends l) T ((way (ends l) (qj (ends l) l.length) ((rts n l).getD i 0) i).getD []) ((rts n l).getD i 0) wC
def turnsR(n:Int)(l:List Ft)(T:Nat→Q2):List Q2×List Int×Int:=
 if 12<n∨64<l.length then([],[],4)else if n<0∨kA n l=false then([],[],1)else
  match first (ends l) T l.length with
  |some (k,r)=>([],(ki r).foldl insS [(k:Int)],14)
  |none=>((List.range n.toNat).map (trn n.toNat l T),[],0)
def PostTu(K:Kw)(s:St)(k:Nat)(x:List Q2×List Int×Int)(v:Value)(s':St):Prop:=∃D vt vi cs,v=.tuple ⟨[vt,vi,.int .i64 x.2.2]⟩∧HL [] s s' D k∧SlG D 36 8 vt cs∧TurnsK (KX K D) cs x.1∧SlIn D vi x.2.1
theorem first_step(h:first e T n=none):first e T (n+1)=(clash e T n).map (n, ·):=by rw[first,h]
theorem first_some{e:Nat→Int×Int}{T:Nat→Q2}{n:Nat}{x:Nat×List Nat}(h:first e T n=some x):∀{m:Nat},n≤m→first e T m=some x:=fun{m} hm=>by
 induction hm with
 |refl=>exact h
 |step _ ih=>rw[first,ih]
theorem clash_none(h:way e (qj e k) (e k).1 (e k).2=none):clash e T k=none:=by unfold clash;rw[h]
theorem clash_ok(h:way e (qj e k) (e k).1 (e k).2=some r)(h2:vH e T r (e k).1 wC=T k):clash e T k=none:=by unfold clash;rw[h];exact if_pos h2
theorem clash_some(h:way e (qj e k) (e k).1 (e k).2=some r)(h2:¬vH e T r (e k).1 wC=T k):clash e T k=some r:=by unfold clash;rw[h];exact if_neg h2
theorem q2_eq{t u:Q2}:(t.1=u.1∧t.2=u.2)↔t=u:=⟨fun h=>Prod.ext h.1 h.2,fun h=>by rw[h];exact⟨rfl,rfl⟩⟩
set_option maxHeartbeats 4000000 in
set_option maxRecDepth 10000 in
theorem parts14_ok{I:xP}(hI:xA I){K:Kw}{vl:Value}(hA:FtsA K l)(hn:n≤12)(hR:kA n l=true)(h6:(qj (ends l) l.length).length≤6)(h64:l.length≤65){s:St}(hf:Fine s)(hl:SlF s vl l)(hroom:s.next+300000000≤yC) :
  ∃v' s',xN Tryz.prog I 16 #[.int .i64 (n:Int),vl] s v' s'∧PostI s 300000000 (rts n l) v' s':=by
 rw[Nat.add_comm]at hroom
 have H:=hf.hl
 have hE:=rightB_ends hR O
 have hRo:=rts_of hR
 have hlt:∀k∈(qj (ends l) l.length),k<l.length:=fun k hk=>vC _ k hk
 refine zX 2 (hI 16 U U) Tryz.func16 J fb16 J ?_
 refine zE (zG (zD (zE (xL (zF J fc49 J ?_)))))
 obtain⟨vt,s9,hr,Φ,Hc,hst⟩:=tree14_ok hI hA hE h6 h64 H.fine (hl.kept H) Y7
 refine⟨_,_,hr,?_⟩
 clear hr
 have H:=H.callE Hc
 rw[List.nil_append]at H
 clear Hc
 refine xT (zD (zE (zG (zD (yE (zE (zG (zD (yR (xR (fun k F s1=>∃(G:FF) (i m:Nat) (v:Value) (Do:Hp'),F=lay G [(0,.int .i64 (n:Int)),(1,vl),(5,vt),(6,v),(7,.int .i64 (i:Int))]∧HL [] s s1 (Do++Φ) m∧m≤80000000+i*16000000∧i≤n∧k=n-i∧Own tI 1 Do v (qm ((List.range i).map fun i=>lst (ends l) (qj (ends l) l.length) i (i+1))) ((List.range i).map fun i=>lst (ends l) (qj (ends l) l.length) i (i+1)).length) ?_ n _ _ ?_))))))))))
 rotate_left
 ·exact⟨_,0,_,_,[],yZ ⟨J,J,J,J,J,trivial⟩,H,by omega,by omega,by omega,.nil⟩
 rintro k F s1 ⟨G,i,m,v,Do,rfl,H,hm,hi,rfl,ho⟩
 refine yE (zE (zC J (zC J (xB J J (fun h=>?_) (fun h=>?_)))))
 ·refine zD (yJ rfl (yN (zR (yE (yR (zE (zC J (zL J (zD (yE (zE ?_)))))))))))
  refine zC J (zL J (zD (yR (xR (fun k F s1=>∃(G:FF) (j m3:Nat),F=lay G [(0,.int .i64 (n:Int)),(1,vl),(5,vt),(6,v),(7,.int .i64 (i:Int)),(8,.int .i64 (lst (ends l) (qj (ends l) l.length) i j)),(9,.int .i64 ((i:Int)-(j:Int)))]∧HL [] s s1 (Do++Φ) m3∧m3≤m+j*1200010∧j≤i+1∧k=i+1-j) ?_ (i+1) _ _ ?_))))
  rotate_left
  ·exact⟨_,0,_,yZ ⟨J,J,J,J,J,J,by show Value.int .i64 (i:Int)=_;simp,trivial⟩,H,by omega,by omega,by omega⟩
  rintro k F s1 ⟨G,j,m3,rfl,H,hm3,hj,rfl⟩
  refine yE (zE (zC J (k7 J J (fun h=>?_) (fun h=>?_))))
  ·refine zD (yJ rfl (yN (zR (yE (yR (zE (xL (xL (zC J (zC J (zF J fc50 J ?_)))))))))))
   obtain⟨_,s9,hr,D9,vr,rfl,Hc,hvr⟩:=way14_ok hI hA hE hlt h6 (kr _) H.fine (hl.kept H) (hst.sl H Z8) (v:=(i:Int)-(j:Int)) (w:=(i:Int)) O O O O Z4
   refine⟨_,_,hr,?_⟩
   clear hr
   have H:=(H.callE Hc).left
   clear Hc hvr
   rcases hw:way (ends l) (qj (ends l) l.length) ((i:Int)-(j:Int)) (i:Int)with _|r9
   ·refine qo J (yI J J (yI J J (xT (zK J (zD (zE (zI J (zD (yL rfl (yN (xF ?_)))))))))))
    refine zR (yA (zC J (qC J J Y (zL J (zD (xG (⟨i+1-(j+1),by omega,_,j+1,_,yZ ⟨J,J,J,J,J,?_,?_,trivial⟩,H,by omega,by omega,J⟩)))))))
    ·show Value.int .i64 _=Value.int .i64 (lst (ends l) (qj (ends l) l.length) i (j+1))
     rw[lst,hw]
     rfl
    ·show Value.int .i64 ((i:Int)-(j:Int)-1)=_
     congr 1
     omega
   refine qo J (yI J J (yI J J (xT (zK J (zD (zE (zI J (zD (yJ rfl (yA (zC J ?_)))))))))))
   refine zL J (zD (xF (zR (yA (zC J (qC J J Y (zL J (zD (xG (⟨i+1-(j+1),by omega,_,j+1,_,yZ ⟨J,J,J,J,J,?_,?_,trivial⟩,H,by omega,by omega,J⟩))))))))))
   ·show Value.int .i64 _=Value.int .i64 (lst (ends l) (qj (ends l) l.length) i (j+1))
    rw[lst,hw]
    rfl
   ·show Value.int .i64 ((i:Int)-(j:Int)-1)=_
    congr 1
    omega
  refine zD (yL rfl (ql (xU (xZ (xX (zR ?_))))))
  have hj9:j=i+1:=by omega
  subst hj9
  refine yA (xL (zC J (yS (c:=[.int _ _]) H kg J J O (fun b37 s1 H=>?_))))
  have hgt:=H.own0
  have H:=H.drop0
  refine qi (L:=Φ) (D:=Do) H ho kg xV J J J (jy hgt J) (by decide) J J (by rw[List.length_map,List.length_range];omega) (by omega) (fun b38 s38 H ho=>?_)
  refine yU J (zD (xF (zR (yA (zC J (yH J J Y (zL J (zD (xG (⟨n-(i+1),by omega,_,i+1,_,_,[_],yZ ⟨J,J,J,J,J,trivial⟩,H,by omega,by omega,J,?_⟩))))))))))
  rw[range_snoc,vS,List.length_append]
  exact ho
 refine zD (yL rfl (ql (xU (xZ (xX (zR (zE (xL (xT (zD (yO ?_)))))))))))
 refine yB (yV ?_)
 rw[show i=n by omega]at ho
 rw[map_range_eq (l:=rts n l) hRo.len fun i hi=>(lst_root (kr _) hRo hi).symm]at ho
 exact⟨_,H.up O,(Own.slIn ho).2.mono W1⟩
end Go.Proofs.YtocnbjjmmgolfaaGreat
