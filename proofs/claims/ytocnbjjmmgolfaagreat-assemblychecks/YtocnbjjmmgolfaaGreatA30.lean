/- slices.Delete on a list of its own: one element goes. -/
/- bits.Len of short lists' lengths: some number. -/
/- The evaluator: single operations. -/
/- The evaluator: single operations that write. -/
import Derived.Test.YtocnbjjmmgolfaaGreatA29
namespace Go.Proofs.YtocnbjjmmgolfaaGreat
open Go Go.M Go.Proofs.C14
section
variable{P:Program}{s:St}
theorem slice_step{t e:TypeId}{b len cap l h:Nat}{inf:TypeInfo}{c:List Value}{lo hi:Option Value}(hu:P.underlying t=some (.slice e))(hi':P.info? e=some inf)(hg:s.get b=some (.cells c e))(hlo:yR lo 0=some l)(hhi:yR hi len=some h)(h1:l≤h)(h2:h≤cap / 2) :
  ∃off cap',cap' / 2=cap / 2-l∧(off=l*inf.size∨l=h)∧(l=0→off=0)∧xa P t (.slice (some ⟨b,0,none⟩) len cap) lo hi none s=.ok (.value (.slice (some ⟨b,off,none⟩) (h-l) cap')) s:=by
 have hble:(Nat.ble l h&&Nat.ble h (cap / 2)&&Nat.ble (cap / 2) (cap / 2)&&(hi.isSome || !(none:Option Value).isSome))=true:=by
  simp only[Bool.and_eq_true]
  exact⟨⟨⟨Nat.ble_eq_true_of_le h1,Nat.ble_eq_true_of_le h2⟩,Nat.ble_eq_true_of_le (Nat.le_refl _)⟩,by simp⟩
 have hbn:yR (none:Option Value) (cap / 2)=some (cap / 2):=rfl
 have hadd:∀n,(Addr.mk b 0 none).add n=⟨b,n,none⟩:=fun n=>by
  unfold Addr.add
  split
  ·next h=>subst h;rfl
  ·next h=>simp only[Nat.zero_add]
 by_cases hpar:cap % 2=0
 ·by_cases hml:cap / 2=l
  ·refine⟨0,2*(cap / 2-l),by omega,.inr Oz,fun _=>rfl,?_⟩
   have:Nat.beq (cap / 2) l=true:=by rw[hml];exact Nat.beq_refl _
   simp only[xa,hu,hi',hpar,y9,hlo,hhi,hbn,hble,Bool.true_or,this,if_true]
   rfl
  ·refine⟨l*inf.size,2*(cap / 2-l),by omega,.inl rfl,(by rintro rfl;rw[Nat.zero_mul]),?_⟩
   have:Nat.beq (cap / 2) l=false:=by
    rw[Bool.eq_false_iff];exact fun h=>hml (Nat.eq_of_beq_eq_true h)
   simp only[xa,hu,hi',hpar,y9,hlo,hhi,hbn,hble,Bool.true_or,this,Option.map_some,hadd]
   rfl
 ·have hpar:cap % 2=1:=by omega
  refine⟨l*inf.size,2*(cap / 2-l)+1,by omega,.inl rfl,(by rintro rfl;rw[Nat.zero_mul]),?_⟩
  have hrow:rowB e (some ⟨b,0,none⟩) cap s=true:=by
   simp only[rowB,hpar,hg,Nat.beq_refl]
  simp only[xa,hu,hi',hpar,hrow,y9,hlo,hhi,hbn,hble,Option.map_some,hadd]
  rfl
theorem slice_step3{t e:TypeId}{b len cap l h:Nat}{inf:TypeInfo}{c:List Value}{lo hi:Option Value}{m:Nat}{mx:Value}(hu:P.underlying t=some (.slice e))(hi':P.info? e=some inf)(hg:s.get b=some (.cells c e))(hlo:yR lo 0=some l)(hhi:yR hi len=some h)(hmx:yR (some mx) (cap / 2)=some m)(h0:hi.isSome=true)(h1:l≤h)(h2:h≤m)(h3:m≤cap / 2) :
  ∃v,xa P t (.slice (some ⟨b,0,none⟩) len cap) lo hi (some mx) s=.ok (.value v) s:=by
 have hble:(Nat.ble l h&&Nat.ble h m&&Nat.ble m (cap / 2)&&(hi.isSome || !(some mx).isSome))=true:=by
  simp only[Bool.and_eq_true,h0]
  exact⟨⟨⟨Nat.ble_eq_true_of_le h1,Nat.ble_eq_true_of_le h2⟩,Nat.ble_eq_true_of_le h3⟩,rfl⟩
 by_cases hpar:cap % 2=0
 ·exact⟨_,by simp only[xa,hu,hi',hpar,y9,hlo,hhi,hmx,hble,Bool.true_or];rfl⟩
 ·have hpar:cap % 2=1:=by omega
  have hrow:rowB e (some ⟨b,0,none⟩) cap s=true:=by
   simp only[rowB,hpar,hg,Nat.beq_refl]
  exact⟨_,by simp only[xa,hu,hi',hpar,hrow,y9,hlo,hhi,hmx,hble];rfl⟩
end
theorem op_clear1{P:Program}{I:zT}{F:FF}{s:St}{Q:FF→St→Prop}{d:Option Nat}{ty:TypeId}{pos:String}{af:Array Edge}{g:Option (Nat×Bool)}{args:Array Operand}{ts:Array TypeId}{t e e':TypeId}{tr:List TypeId}{x:Operand}{b off cap m:Nat}{c c':List Value}{z:Value}{inf:TypeInfo}
  (hu:P.underlying t=some (.slice e)) (ht:ts.toList=t::tr) (ha:args.toList=[x]) (hx:ze F x=.slice (some ⟨b,off,none⟩) m cap) (hm:m=1) (hin:P.info? e=some inf) (hz:zeroL P e=some [z]) (hp:Go.M.plainCell z=true) (hg:s.get b=some (.cells c e')) (hmay:s.may b=true) (hput:xh off [z] c=some c')
  (k:Q (upd F d (.tuple ⟨[]⟩)) (s.put b (some (.cells c' e')))):OpW P I ⟨d,.call ⟨.builtin .clear,args,ts⟩,ty,pos,af,g⟩ F s Q:=by
 subst hm
 refine zU (v:=.tuple ⟨[]⟩) (s':=s.put b (some (.cells c' e'))) ?_ k
 have h1:repL [z] 1=[z]:=rfl
 have h2:[z].all Go.M.plainCell=true:=by simp only[List.all_cons,hp,List.all_nil,Bool.and_self]
 have h3:yB b off [z] s=.ok .skip (s.put b (some (.cells c' e'))):=by
  unfold yB
  simp only[hg,h2,hmay,hput,Bool.and_self]
 simp only[zh,yy,ht,ha,yw,hx,clearM,hu,hin,hz,h1,h3]
 rfl
theorem fb307:funcB Tryz.f307 (Tryz.f307.body.getD .skip) 3=true:=by kernel_rfl
theorem zr3:zeroL Tryz.prog 3=some [.int .i64 0]:=by kernel_rfl
theorem bnd_nat{kd:IntKind}{n m:Nat}:yR (some (Value.int kd (n:Int))) m=some n:=rfl
theorem bnd_suc{kd:IntKind}{n m:Nat}:yR (some (Value.int kd ((n:Int)+1))) m=some (n+1):=rfl
theorem erase_put{l:List Value}{i:Nat}(hi:i<l.length):∃r,xh i (l.drop (i+1)) l=some (l.eraseIdx i++[r]):=by
 induction l generalizing i with
 |nil=>simp at hi
 |cons x l ih=>
  cases i with
  |zero=>
   simp only[List.drop_succ_cons,List.drop_zero,List.eraseIdx_zero,List.tail_cons,xh]
   have:∀(l:List Value) (x:Value),∃r,xO l (x::l)=some (l++[r]):=by
    intro l
    induction l with
    |nil=>intro x;exact⟨x,rfl⟩
    |cons y l ih=>
     intro x
     obtain⟨r,h⟩:=ih y
     exact⟨r,by simp only[xO,h,List.cons_append]⟩
   exact this l x
  |succ i=>
   obtain⟨r,h⟩:=ih (i:=i) (by simpa using hi)
   exact⟨r,by simp only[List.drop_succ_cons,xh,h,List.eraseIdx_cons_succ,List.cons_append]⟩
theorem put_last{l:List Value}{r v:Value}:xh l.length [v] (l++[r])=some (l++[v]):=by
 induction l with
 |nil=>rfl
 |cons x l ih=>simp only[List.length_cons,List.cons_append,xh,ih]
set_option maxHeartbeats 4000000 in
set_option maxRecDepth 20000 in
theorem del_ok{I:zT}(hI:zQ I){s0 s:St}{A B:Hp'}{b cap n i:Nat}{l:List Value}(H:HL [] s0 s (A++(b,.cells l 3)::B) n)(hr:s0.next+n≤z3)(hp:l.all Go.M.plainCell=true)(hcap:cap / 2=l.length)(hi:i<l.length) :
  ∃v s',Rets Tryz.prog I 307 #[.slice (some ⟨b,0,none⟩) l.length cap,.int .i64 (i:Int),.int .i64 ((i:Int)+1)] s v s' ∧
   ∃cap',v=.slice (some ⟨b,0,none⟩) (l.length-1) cap'∧l.length-1≤cap' / 2∧HL [] s0 s' (A++(b,.cells (l.eraseIdx i++[.int .i64 0]) 3)::B) n:=by
 obtain⟨hu,inf,z',hin,hsz,-,-,-,-⟩:=yL sl22
 have hg:=H.ownA
 have hne:l≠[]:=by rintro rfl;simp at hi
 refine call_of 3 (hI 307 Uz Uz) Tryz.func307 rfl fb307 rfl ?_
 refine xM (zJ rfl (qp (xJ (xM (zJ rfl (yu (zJ rfl (yu (zJ rfl (yu (zJ rfl (yu (zJ rfl (op_len hu rfl rfl rfl ?_))))))))))))))
 obtain⟨v1,e1⟩:=slice_step3 (t:=22) (lo:=some (.int .i64 (i:Int))) (hi:=some (.int .i64 ((i:Int)+1))) (mx:=.int .i64 (l.length:Int)) (m:=l.length) (len:=l.length) (cap:=cap) hu hin hg bnd_nat bnd_suc bnd_nat rfl Oz Oz Oz
 refine zJ rfl (zU e1 (xJ (cw_seq (xM (zJ rfl (yu (zJ rfl (yu (zJ rfl (op_eql rfl rfl (fun h=>by omega) (fun _=>?_)))))))))))
 refine xJ (cw_else rfl (cw_skip (seq_norm (xM (zJ rfl (yu (zJ rfl (op_len hu rfl rfl rfl (zJ rfl (qp (xJ (cw_dseq [⟨0,0,.light,[]⟩,⟨1,0,.light,[]⟩,⟨3,0,.light,[]⟩,⟨4,0,.light,[]⟩,⟨2,3,.fresh,[]⟩,⟨5,24,.fresh,[]⟩,⟨6,63,.whole,[]⟩,⟨7,127,.light,[]⟩] Z0 Z0 (draw_light rfl rfl (yu ⟨rfl,(draw_light rfl rfl (yu ⟨rfl,?_⟩))⟩))))))))))))))
 refine draw_light rfl rfl (yu ⟨rfl,(draw_light rfl rfl (yu ⟨rfl,?_⟩))⟩)
 obtain⟨off2,cap2,g1,g2,g3,e2⟩:=slice_step (s:={s with bar:=s.next}) (t:=22) (lo:=none) (hi:=some (.int .i64 (i:Int))) (len:=l.length) (cap:=cap) hu hin hg rfl bnd_nat (Nat.zero_le _) Oz
 obtain rfl:=g3 rfl
 refine qn rfl rfl (zU e2 ?_)
 obtain⟨off3,cap3,g4,g5,g6,e3⟩:=slice_step (s:={s with bar:=s.next}) (t:=22) (lo:=some (.int .i64 ((i:Int)+1))) (hi:=none) (len:=l.length) (cap:=cap) hu hin hg bnd_suc rfl Oz Oz
 refine qn rfl rfl (zU e3 ?_)
 obtain⟨r,hput⟩:=erase_put hi
 have hel:qr s 1 (.slice (some ⟨b,off3,none⟩) (l.length-(i+1)) cap3) (l.length-(i+1)) (l.drop (i+1)):=by
  rcases g5 with rfl|h
  ·rw[hsz,Nat.mul_one]
   refine elems_block hg ?_ Oz
   rw[Nat.mul_one,List.take_of_length_le (by rw[List.length_drop];omega)]
  ·rw[show l.length-(i+1)=0 by omega,List.drop_eq_nil_of_le Oz]
   exact⟨⟨_,_,rfl⟩,by simp only[yD,hg,Nat.zero_mul];rfl⟩
 have H0:=H
 refine draw_whole rfl rfl (op_appendRoom (A:=A) (L:=B) (m:=l.length-(i+1)) (len:=i) (l:=l.drop (i+1)) (c':=l.eraseIdx i++[r]) H sl22 hu rfl rfl rfl hel Oz ?_ (by rw[Nat.mul_one];exact hput) hr (fun s1 H=>?_))
 ·rw[List.all_eq_true]at hp ⊢
  exact fun x hx=>hp x (List.mem_of_mem_drop hx)
 have H:=HL.same H0 H
 refine draw_light rfl rfl (qp ⟨rfl,(draw_nil ?_)⟩)
 have hlen:(l.eraseIdx i).length=l.length-1:=by rw[List.length_eraseIdx,if_pos hi]
 have hg2:=H.ownA
 refine xM (zJ rfl (yu (zJ rfl (yu (zJ rfl (op_len hu rfl rfl rfl (zJ rfl (yu ?_))))))))
 have e5:((i+(l.length-(i+1)):Nat):Int)=((l.length-1:Nat):Int):=by omega
 obtain⟨off4,cap4,g7,g8,g9,e4⟩:=slice_step (t:=22) (lo:=some (.int .i64 ((i+(l.length-(i+1)):Nat):Int))) (hi:=some (.int .i64 (l.length:Int))) (len:=i+(l.length-(i+1))) (cap:=cap2) hu hin hg2 bnd_nat bnd_nat Oz Oz
 refine zJ rfl (zU e4 ?_)
 have hoff:off4=(l.eraseIdx i).length:=by rcases g8 with h|h<;>(try rw[h,hsz])<;>omega
 have hmay:=(H.own (b,.cells (l.eraseIdx i++[r]) 3) Y8).2.2.1
 have H2:=H.putAt A (.cells (l.eraseIdx i++[.int .i64 0]) 3) hr
 refine zJ rfl (op_clear1 hu rfl rfl rfl Oz hin zr3 rfl hg2 hmay (by rw[hoff];exact put_last) (xJ (xM (zJ rfl (yu (zJ rfl (qp (xJ (cw_ret (ret_end (end_t ?_)))))))))))
 exact⟨_,by rw[show l.length-1=i+(l.length-(i+1))by omega];rfl,by omega,H2⟩
end Go.Proofs.YtocnbjjmmgolfaaGreat
namespace Go.Proofs.YtocnbjjmmgolfaaGreat
open Go Go.M Go.Proofs.C14
theorem fb186:funcB Tryz.f186 (Tryz.f186.body.getD .skip) 1=true:=by kernel_rfl
theorem fb108:funcB Tryz.f108 (Tryz.f108.body.getD .skip) 1=true:=by kernel_rfl
theorem fc186:funcF Tryz.prog 186=true:=by kernel_rfl
section
variable{P:Program}{I:zT}{F:FF}{s:St}{Q:FF→St→Prop}{d:Option Tmp}{ty:TypeId}{pos:String}{af:Array Edge}{g:Option (Nat×Bool)}
theorem op_geqU{t:TypeId}{x y:Operand}{yt:TypeId}{a b:Int}(hx:ze F x=.int .u64 a)(hy:ze F y=.int .u64 b)(h:a<b)(k:Q (upd F d (.bool false)) s):OpW P I ⟨d,.binOp .geq t x y yt,ty,pos,af,g⟩ F s Q:=by
 refine zU (v:=.bool false) (s':=s) ?_ k
 have h2:decide (b≤a)=false:=decide_eq_false Oz
 simp only[zh,qt,hx,hy,intM,Go.binOp,Op.intCmp,h2];rfl
theorem op_indexB{t:TypeId}{x i:Operand}{kd:IntKind}{m:Nat}{b:ByteArray}(hu:P.underlying t=some .string)(hx:ze F x=.string b)(hi:ze F i=.int kd (m:Int))(hl:m<b.data.toList.length)(k:∀c:UInt8,Q (upd F d (.int .u8 c.toNat)) s):OpW P I ⟨d,.index t x i,ty,pos,af,g⟩ F s Q:=by
 refine zU (v:=.int .u8 (b.data.toList[m]).toNat) (s':=s) ?_ (k _)
 have h1:zM b.data.toList m=some (b.data.toList[m]):=by rw[zC];exact List.getElem?_eq_getElem hl
 show indexV P t (ze F x) (ze F i) s=_
 rw[hx,hi]
 show indexV P t (.string b) (.int kd (Int.ofNat m)) s=_
 simp only[indexV,hu,h1]
 rfl
theorem op_convert8{src dst:TypeId}{x:Operand}{kd:IntKind}{a:Int}{u:TypeDesc}(hu:P.underlying src=some u)(hd:P.underlying dst=some (.int .u8))(hx:ze F x=.int kd a)(h:IntKind.u8.wrap a=a)(k:Q (upd F d (.int .u8 a)) s):OpW P I ⟨d,.convert src dst x,ty,pos,af,g⟩ F s Q:=
 op_convertI hu hd hx (by rw[h];exact k)
end
section
variable{P:Program}{I:zT}{f:FuncId}{args:Array Value}{s:St}{Q:Value→St→Prop}
theorem callSome(h:∃v s',Rets P I f args s v s'∧((∃z,v=.int .i64 z)∧s'=s))(c:∀z,Q (.int .i64 z) s):∃v s',Rets P I f args s v s'∧Q v s':=by
 obtain⟨v,s',hr,⟨z,rfl⟩,rfl⟩:=h
 exact⟨_,_,hr,c z⟩
end
theorem wrap8:∀n:Nat,n≤12→IntKind.u8.wrap (n:Int)=n:=by decide
theorem un5:Tryz.prog.underlying 5=some (.int .u8):=by kernel_rfl
theorem un9:Tryz.prog.underlying 9=some .string:=by kernel_rfl
set_option maxHeartbeats 4000000 in
set_option maxRecDepth 10000 in
theorem len64_ok{I:zT}(hI:zQ I){s:St}{n:Nat}(hn:n≤12):∃v' s',Rets Tryz.prog I 186 #[.int .u64 (n:Int)] s v' s'∧((∃z,v'=.int .i64 z)∧s'=s):=by
 refine call_of 1 (hI 186 Uz Uz) Tryz.func186 rfl fb186 rfl ?_
 refine xM (zJ rfl (op_assignC (xJ (cw_seq (xM ?_)))))
 first|refine zJ rfl (op_moveI rfl ?_)|refine zJ rfl (yu ?_)
 refine zJ rfl (op_geqU rfl rfl Oz (xJ (cw_else rfl (cw_skip (seq_norm (cw_seq (xM ?_)))))))
 first|refine zJ rfl (op_moveI rfl ?_)|refine zJ rfl (yu ?_)
 refine zJ rfl (op_geqU rfl rfl Oz (xJ (cw_else rfl (cw_skip (seq_norm (cw_seq (xM ?_)))))))
 first|refine zJ rfl (op_moveI rfl ?_)|refine zJ rfl (yu ?_)
 refine zJ rfl (op_geqU rfl rfl Oz (xJ (cw_else rfl (cw_skip (seq_norm (xM ?_))))))
 first|refine zJ rfl (op_moveI rfl ?_)|refine zJ rfl (yu ?_)
 first|refine zJ rfl (op_moveI rfl ?_)|refine zJ rfl (yu ?_)
 refine zJ rfl (op_convert8 un183 un5 rfl (wrap8 n hn) (zJ rfl (op_indexB un9 rfl rfl (by show n<_;exact Nat.lt_of_le_of_lt hn Uz) (fun c=>?_))))
 refine zJ rfl (op_convert un5 un3 rfl (by have:=c.toNat_lt;unfold xG;omega) (zJ rfl (op_add rfl rfl (by have:=c.toNat_lt;unfold xG;omega) ?_)))
 first|refine zJ rfl (op_assignI rfl ?_)|refine zJ rfl (qp ?_)
 refine xJ (cw_ret (ret_end (end_t ?_)))
 exact⟨⟨_,rfl⟩,rfl⟩
set_option maxHeartbeats 4000000 in
set_option maxRecDepth 10000 in
theorem lenB_ok{I:zT}(hI:zQ I){s:St}{n:Nat}(hn:n≤12):∃v' s',Rets Tryz.prog I 108 #[.int .u64 (n:Int)] s v' s'∧((∃z,v'=.int .i64 z)∧s'=s):=by
 refine call_of 1 (hI 108 Uz Uz) Tryz.func108 rfl fb108 rfl ?_
 refine xM (zJ rfl (op_assignC (xJ (cw_seq (cw_else rfl (cw_skip (seq_norm (xM ?_))))))))
 first|refine zJ rfl (op_moveI rfl ?_)|refine zJ rfl (yu ?_)
 refine zJ rfl (op_call rfl fc186 rfl (callSome (len64_ok hI hn) (fun z=>?_)))
 first|refine zJ rfl (op_assignI rfl ?_)|refine zJ rfl (qp ?_)
 refine xJ (cw_ret (ret_end (end_t ?_)))
 exact⟨⟨_,rfl⟩,rfl⟩
end Go.Proofs.YtocnbjjmmgolfaaGreat
namespace Go.Proofs.YtocnbjjmmgolfaaGreat
open Go Go.M Go.Proofs.C14
section
variable{W:Wd}{Q:Qs}
theorem PsR.len:∀{ps:List Pv} {vs:List Value},PsR W Q ps vs→vs.length=ps.length
 | [],vs,h=>by rw[show vs=[]from h];rfl
 |p::ps,vs,⟨v,r,e,_,h⟩=>by rw[e,List.length_cons,List.length_cons,h.len]
end
def rnum(Q:Qs)(g:FuncId):FuncId:=match Nat.ble zo g with
 |true=>match Q[g-zo]? with
  |some q=>zo+q.2
  |none=>g
 |false=>g
theorem rnum_low{Q:Qs}{g:FuncId}(h:Nat.ble zo g=false):rnum Q g=g:=by unfold rnum;rw[h]
theorem rnum_rnd{Q:Qs}{j:Nat}{q:Value×Nat}(h:Q[j]? = some q):rnum Q (zo+j)=zo+q.2:=by
 unfold rnum
 rw[Nat.ble_eq_true_of_le (Nat.le_add_right ..),Nat.add_sub_cancel_left,h]
def InlOK{ρ:Type}(I:zT)(W:Wd)(s0:St)(inl:Inl ρ)(rc:Nat):Prop:=
 ∀⦃g:FuncId⦄ ⦃co:List Ob⦄ ⦃lent:Nat⦄ ⦃ps:List Pv⦄ ⦃objs:List Ob⦄ ⦃k:Pv→List Ob→Option ρ⦄ ⦃r:ρ⦄,inl g co lent ps objs k=some r →
 ∀⦃QL:Qs⦄ ⦃s:St⦄ ⦃stk:List Fra⦄ ⦃m:Nat⦄ ⦃Q:Qs⦄ ⦃O:List (Option MObj)⦄ ⦃L Φ:Hp'⦄ ⦃n:Nat⦄ ⦃F:FF⦄ ⦃vs:List Value⦄,GX QL W s0 s ⟨[],co,n,lent⟩ stk ⟨[],objs⟩ F m Q O L Φ→n=objs.length→PsR (W.x Φ) Q ps vs→s0.next+(m+rc)≤z3 →
 ∀⦃Post:Value→St→Prop⦄,(∀p v o s' m' Q' O' L' Φ',m'≤m+rc→GX QL W s0 s' ⟨[],co,n,lent⟩ stk ⟨[],o⟩ F m' Q' O' L' Φ'→PvR (W.x Φ') Q' p v→k p o=some r→Post v s')→∃v s',Rets Tryz.prog I (rnum Q g) ⟨vs⟩ s v s'∧Post v s'
section
variable{W W':Wd}{Q Q':Qs}{n:Nat}
theorem LfR.back(hn:Q.length≤n∨True){Q0:Qs}{W0:Wd}{x:Lf}{c0 c:List Value}{a:Nat}(h0:LfR W0 (Q0.take a) x c0)(h:LfR W Q x c):LfR W (Q.take a) x c:=by
 have key:∀(j:Nat) q0,(Q0.take a)[j]? = some q0→∀q,Q[j]? = some q→(Q.take a)[j]? = some q:=fun j q0 h1 q h2=>by
  rw[List.getElem?_take]at h1 ⊢
  split at h1
  ·next hj=>rw[if_pos hj];exact h2
  ·cases h1
 cases x with
 |own j=>obtain⟨q0,h1,_⟩:=h0;obtain⟨q,h2,h3⟩:=h;exact⟨q,key _ _ h1 _ h2,h3⟩
 |ptr j off=>obtain⟨q0,h1,_⟩:=h0;obtain⟨q,h2,h3⟩:=h;exact⟨q,key _ _ h1 _ h2,h3⟩
 |op j w i off=>obtain⟨q0,h1,_⟩:=h0;obtain⟨q,h2,h3⟩:=h;exact⟨q,key _ _ h1 _ h2,h3⟩
 |yl j=>obtain⟨q0,h1,_⟩:=h0;obtain⟨q,h2,h3⟩:=h;exact⟨q,key _ _ h1 _ h2,h3⟩
 |asl j n=>obtain⟨q0,h1,_⟩:=h0;obtain⟨q,h2,h3⟩:=h;exact⟨q,key _ _ h1 _ h2,h3⟩
 |cl f js=>
  obtain⟨cs0,e0,h0⟩:=h0
  obtain⟨cs,e,h⟩:=h
  refine⟨cs,e,?_⟩
  clear e e0
  induction js generalizing cs0 cs with
  |nil=>exact h
  |cons j js ih=>
   obtain⟨q0,c0',h1,_,h2⟩:=h0
   obtain⟨q,c',h3,e,h4⟩:=h
   exact⟨q,c',key _ _ h1 _ h3,e,ih _ h2 _ h4⟩
 |_=>exact h
theorem LsR.back{Q0:Qs}{W0:Wd}{a:Nat}:∀{x:List Lf} {c0 c:List Value},LsR W0 (Q0.take a) x c0→LsR W Q x c→LsR W (Q.take a) x c
 | [],_,_,_,h=>h
 |_::_,_,_,⟨_,_,_,h1,h2⟩,⟨c3,c4,e,h3,h4⟩=>⟨c3,c4,e,LfR.back (n:=0) (.inr trivial) h1 h3,LsR.back h2 h4⟩
theorem QR.back{W W0:Wd}{Q Q0:Qs}{a:Nat}{p:Bool×List Lf}{v0 v:Value}(h0:QR W0 (Q0.take a) p v0)(h:QR W Q p v):QR W (Q.take a) p v:=by
 obtain⟨g,l⟩:=p
 cases g with
 |true=>obtain⟨c0,_,h0⟩:=h0;obtain⟨c,e,h⟩:=h;exact⟨c,e,LsR.back h0 h⟩
 |false=>
  obtain⟨x0,e0,h0⟩:=h0
  obtain⟨x,e,h⟩:=h
  simp only at e0 e
  subst e0
  cases e
  exact⟨_,rfl,LfR.back (n:=0) (.inr trivial) h0 h⟩
theorem TsR.back{W W0:Wd}{Q Q0:Qs}{a:Nat}:∀{l:List (Bool×List Lf)} {v0 v:List Value},TsR W0 (Q0.take a) l v0→TsR W Q l v→TsR W (Q.take a) l v
 | [],_,_,_,h=>h
 |_::_,_,_,⟨_,_,_,h1,h2⟩,⟨x,r,e,h3,h4⟩=>⟨x,r,e,QR.back h1 h3,TsR.back h2 h4⟩
theorem PvR.back{W W0:Wd}{Q Q0:Qs}{a:Nat}{p:Pv}{v0 v:Value}(h0:PvR W0 (Q0.take a) p v0)(h:PvR W Q p v):PvR W (Q.take a) p v:=by
 cases p with
 |undef=>exact h
 |any=>trivial
 |one x=>exact LfR.back (n:=0) (.inr trivial) h0 h
 |agg l=>obtain⟨_,_,h0⟩:=h0;obtain⟨c,e,h⟩:=h;exact⟨c,e,LsR.back h0 h⟩
 |tup l=>obtain⟨_,_,h0⟩:=h0;obtain⟨c,e,h⟩:=h;exact⟨c,e,TsR.back h0 h⟩
 |clo f l=>obtain⟨_,_,h0⟩:=h0;obtain⟨c,e,h⟩:=h;exact⟨c,e,LsR.back h0 h⟩
theorem SvF.back{W W0:Wd}{Q Q0:Qs}{a:Nat}{l:List (Nat×Pv)}{F0 F:FF}(h0:SvF W0 (Q0.take a) l F0)(h:SvF W Q l F):SvF W (Q.take a) l F:=fun p hp=>PvR.back (h0 p hp) (h p hp)
theorem ObjR.back{Q0:Qs}{W0:Wd}{a:Nat}{b:Ob}{q0 q:Value×Nat}{o0 o:Option MObj}(h0:ObjR W0 (Q0.take a) b q0 o0)(h:ObjR W Q b q o):ObjR W (Q.take a) b q o:=by
 cases b with
 |cells l=>obtain⟨_,_,_,h0⟩:=h0;obtain⟨c,t,e,h⟩:=h;exact⟨c,t,e,LsR.back h0 h⟩
 |loop=>obtain⟨_,_,_,_,_,h0⟩:=h0;obtain⟨g1,fr,F0,e,ha,h⟩:=h;exact⟨g1,fr,F0,e,ha,SvF.back h0 h⟩
 |_=>exact h
theorem cobK_get:∀{a c:List Ob} {i:Nat} {b:Ob},(cobK a c)[i]? = some b→(a[i]? = some .const∧c[i]? = some b)∨(a[i]? = some b)
 | [],[],i,b,h=>by cases h
 | [],_::_,i,b,h=>by cases h
 |o::r,[],i,b,h=>.inr (by cases o<;>exact h)
 |o::r,d::s,0,b,h=>by cases o<;>first|exact .inl ⟨rfl,h⟩|exact .inr h
 |o::r,d::s,i+1,b,h=>by
  have:(cobK r s)[i]? = some b:=by cases o<;>exact h
  simpa only[List.getElem?_cons_succ]using cobK_get this
theorem cobK_const:∀{a c:List Ob} {i:Nat} {b:Ob},a[i]? = some .const→c[i]? = some b→(cobK a c)[i]? = some b
 | [],_,i,b,h,_=>by cases h
 |o::r,[],i,b,_,h=>by cases h
 |o::r,d::s,0,b,h,h'=>by cases h;exact h'
 |o::r,d::s,i+1,b,h,h'=>by
  have:=cobK_const (a:=r) (c:=s) (i:=i) (b:=b) h h'
  cases o<;>exact this
theorem constB_ok:∀{a c:List Ob} {i:Nat},constB a c=true→c[i]? = some .const→a[i]? = some .const
 | [],[],i,h,h'=>by cases h'
 |o::r,[],i,h,h'=>by cases h'
 | [],p::s,0,h,h'=>by cases h';cases h
 | [],p::s,i+1,h,h'=>by
  simp only[constB,Bool.and_eq_true]at h
  have:=constB_ok (a:=[]) (i:=i) h.2 h'
  cases this
 |o::r,p::s,0,h,h'=>by
  cases h'
  simp only[constB,xK,Bool.not_true,Bool.false_or,Bool.and_eq_true]at h
  cases o<;>first|rfl|(simp[xK]at h)
 |o::r,p::s,i+1,h,h'=>by
  simp only[constB,Bool.and_eq_true]at h
  exact constB_ok (a:=r) (c:=s) (i:=i) h.2 h'
end
section
variable{W:Wd}{s0 s:St}{C:Cx}{QL:Qs}{stk:List Fra}{e:En}{F:FF}{m:Nat}{Q:Qs}{O:List (Option MObj)}{L Φ:Hp'}
theorem flat_single{α β:Type}{f:α→β}:∀{l:List α},(l.map fun x=>[f x]).flatten=l.map f
 | []=>rfl
 |x::l=>by simp only[List.map_cons,List.flatten_cons,flat_single,List.singleton_append]
theorem GX.evs(G:GX QL W s0 s C stk e F m Q O L Φ):∀{ops:List Operand} {ps:List Pv},e.evs C ops=some ps→PsR (W.x Φ) Q ps (yw (ze F) ops)
 | [],ps,h=>by cases h;rfl
 |x::l,ps,h=>by
  simp only[En.evs]at h
  split at h
  ·next v vs hv hvs=>cases h;exact⟨ze F x,yw (ze F) l,rfl,G.ev hv,G.evs hvs⟩
  ·cases h
theorem PsR.app{W:Wd}{Q:Qs}:∀{a b:List Pv} {v w:List Value},PsR W Q a v→PsR W Q b w→PsR W Q (a++b) (v++w)
 | [],b,v,w,h,h'=>by rw[show v=[]from h];exact h'
 |p::a,b,v,w,⟨x,r,e,h1,h2⟩,h'=>⟨x,r++w,by rw[e];rfl,h1,PsR.app h2 h'⟩
theorem PsR.caps{W:Wd}{Q:Qs}:∀{l:List Lf} {cs:List Value},LsR W Q l cs→(l.all fun x=>Nat.beq x.w 1)=true→PsR W Q (l.map .one) cs
 | [],cs,h,_=>h
 |x::l,cs,⟨c1,c2,e,h1,h2⟩,hw=>by
  simp only[List.all_cons,Bool.and_eq_true]at hw
  have hl:=h1.len
  rw[Nat.eq_of_beq_eq_true hw.1]at hl
  obtain⟨v,rfl⟩:=List.length_eq_one_iff.mp hl
  exact⟨v,c2,e,h1,PsR.caps h2 hw.2⟩
theorem PsR.mono{W W':Wd}{Q Q':Qs}(hw:WLe W W')(hq:QLe Q Q'):∀{a:List Pv} {v:List Value},PsR W Q a v→PsR W' Q' a v
 | [],v,h=>h
 |p::a,v,⟨x,r,e,h1,h2⟩=>⟨x,r,e,h1.mono hw hq,PsR.mono hw hq h2⟩
theorem GX.enter(G:GX QL W s0 s C stk e F m Q O L Φ)(F':FF):GX QL W s0 s ⟨[],cobK e.objs C.objs,e.objs.length,C.lent⟩ (⟨e.slots,F,Q.length,[]⟩::⟨C.slots,F,C.n,[]⟩::stk) ⟨[],e.objs⟩ F' m Q O L Φ:=
 {G with
  cn:=by rw[G.len];exact Nat.le_refl _
  ln:=by rw[G.len];exact Nat.le_trans G.ln G.cn
  cob:=fun i b q o h0 h0' h1 h2=>by
   simp only at h0 h0' ⊢
   rw[G.len,List.take_length]
   rcases cobK_get h0' with⟨h3,h4⟩|h3
   ·exact(G.cob i b q o h3 h4 h1 h2).mono WLe.rfl QLe.take
   ·exact G.obj i b q o h3 h1 h2
  slots:=fun _ h=>nomatch h
  cslots:=fun _ h=>nomatch h
  stk:=fun f hf=>by
   simp only
   rcases List.mem_cons.mp hf with rfl|hf
   ·exact⟨by simp only[G.len,Nat.le_refl],by simp only[List.take_length];exact G.slots,List.nil_subset _⟩
   ·rcases List.mem_cons.mp hf with rfl|hf
    ·exact⟨by simp only[G.len];exact G.cn,G.cslots,List.nil_subset _⟩
    ·obtain⟨h1,h2⟩:=G.stk f hf
     exact⟨by rw[G.len];exact Nat.le_trans h1 G.cn,h2⟩}
theorem GX.exit(G:GX QL W s0 s C stk e F m Q O L Φ){F' F'':FF}{s':St}{m':Nat}{Q':Qs}{O':List (Option MObj)}{L' Φ':Hp'}{o:List Ob}
  (G':GX QL W s0 s' ⟨[],cobK e.objs C.objs,e.objs.length,C.lent⟩ (⟨e.slots,F,Q.length,[]⟩::⟨C.slots,F,C.n,[]⟩::stk) ⟨[],o⟩ F' m' Q' O' L' Φ') (hc:constB e.objs o=true):GX QL W s0 s' C stk {e with objs:=o} F m' Q' O' L' Φ':=
 {G' with
  cn:=by have h1:=G'.cn;have h2:=G.cn;simp only at h1;rw[G.len]at h1;omega
  ln:=G.ln
  cob:=fun i b q o h0 h0' h1 h2=>by
   have hco:=constB_ok hc h0
   have h3:=G'.cob i b q o h0 (cobK_const hco h0') h1 h2
   have hi:i<Q.length:=by rw[←G.len];exact(List.getElem?_eq_some_iff.mp hco).1
   have h4:=G.cob i b _ _ hco h0' (List.getElem?_eq_getElem hi) (List.getElem?_eq_getElem (by rw[G.oq];exact hi))
   exact ObjR.back h4 (h3.mono WLe.rfl QLe.take)
  slots:=(G'.stk _ (List.mem_cons_self ..)).2.1.mono WLe.rfl QLe.take
  cslots:=(G'.stk _ (List.mem_cons_of_mem _ (List.mem_cons_self ..))).2.1
  stk:=fun f hf=>⟨(G.stk f hf).1,(G'.stk f (List.mem_cons_of_mem _ (List.mem_cons_of_mem _ hf))).2⟩}
theorem GX.frzNew(G:GX QL W s0 s C stk e F m Q O L Φ){j:Nat}{q:Value×Nat}{o o':MObj}(hq:Q[j]? = some q)(ho:O[j]? = some (some o))(hj:C.lent≤j){A B:Hp'}(hL:L=A++(q.2,o)::B){s':St}(H':HL [] s0 s' (A++(q.2,o')::B) m) :
  GX QL W s0 s' C stk (e.setO j .dead) F m Q (zt O j none) (A++(q.2,o')::B) ((q.2,o')::Φ):=by
 have G1:=G.drop j
 have hw:WLe (W.x Φ) (W.x ((q.2,o')::Φ)):=wx_up fun p hp=>List.mem_cons_of_mem _ hp
 have hin:∀p,p∈L→p.1≠q.2→p∈A++(q.2,o')::B:=fun p hp hne=>by
  rw[hL]at hp
  rcases List.mem_append.mp hp with h|h
  ·exact List.mem_append_left _ h
  ·rcases List.mem_cons.mp h with rfl|h
   ·exact(hne rfl).elim
   ·exact List.mem_append_right _ (List.mem_cons_of_mem _ h)
 have hO:∀(i:Nat) o1,(zt O j none)[i]? = some (some o1)→i≠j∧O[i]? = some (some o1):=fun i o1 h=>by
  rw[yO]at h
  split at h
  ·cases h
  ·next h1=>
   refine⟨fun e=>?_,h⟩
   subst e
   exact h1 ⟨rfl,(List.getElem?_eq_some_iff.mp h).1⟩
 have hne:∀(i:Nat) q1 o1,Q[i]? = some q1→(zt O j none)[i]? = some (some o1)→q1.2≠q.2:=fun i q1 o1 h1 h2 he=>(hO i o1 h2).1 (G.inj i j q1 q o1 o h1 hq (hO i o1 h2).2 ho he)
 exact{G1 with
  H:=H'
  fro:=fun p hp=>by
   rcases List.mem_cons.mp hp with rfl|hp
   ·exact List.mem_append_right _ (List.mem_cons_self ..)
   ·exact hin p (G.fro hp) (G.dis j q o p hj hq ho hp)
  own:=fun i q1 o1 h1 h2 hi=>hin _ (G.own i q1 o1 h1 (hO i o1 h2).2 hi) (hne i q1 o1 h1 h2)
  lent:=fun i q1 o1 h1 h2 hi=>by
   obtain⟨g1,g2⟩:=G.lent i q1 o1 h1 (hO i o1 h2).2 hi
   exact⟨by rw[H'.get g2,←G.H.get g2];exact g1,g2⟩
  dis:=fun i q1 o1 p hi h1 h2 hp=>by
   rcases List.mem_cons.mp hp with rfl|hp
   ·exact fun he=>hne i q1 o1 h1 h2 he.symm
   ·exact G.dis i q1 o1 p hi h1 (hO i o1 h2).2 hp
  obj:=fun i b q1 o1 h0 h1 h2=>(G1.obj i b q1 o1 h0 h1 h2).mono hw QLe.rfl
  cob:=fun i b q1 o1 h0 h0' h1 h2=>(G1.cob i b q1 o1 h0 h0' h1 h2).mono hw QLe.rfl
  slots:=G.slots.mono hw QLe.rfl
  cslots:=G.cslots.mono hw QLe.rfl
  stk:=fun f hf=>⟨(G.stk f hf).1,(G.stk f hf).2.1.mono hw QLe.rfl,fun p hp=>List.mem_cons_of_mem _ ((G.stk f hf).2.2 hp)⟩}
theorem GX.good(G:GX QL W s0 s C stk e F m Q O L Φ):qb QL W s0 s C stk e F m:=⟨_,_,_,_,G⟩
end
section
variable{I:zT}{T:FuncId→Option Con}{ρ:Type}{inl:Inl ρ}{rc:Nat}{W:Wd}{s0 s:St}{C:Cx}{QL:Qs}{stk:List Fra}{e:En}{F:FF}{m:Nat}{Q:Qs}{O:List (Option MObj)}{L Φ:Hp'}
theorem mask_ok{W W':Wd}{Q:Qs}{τ:Ty}{x:τ.T}{v:Value}{p:Pv}(h:RepV W τ v x)(hp:maskP τ x=some p):PvR W' Q p v:=by
 unfold maskP at hp
 split at hp
 ·cases hp
  obtain⟨v1,v2,rfl,h1,h2⟩:=h
  obtain⟨a,cap,L,e1,_⟩:=(show Rep W (.sl _ _ _) [v1] _ from h1)
  refine⟨_,rfl,v1,[v2],rfl,⟨_,rfl,v1,rfl,by rw[(List.cons.inj e1).1];rfl⟩,v2,[],rfl,⟨_,rfl,?_⟩,rfl⟩
  rw[show v2=.bool _ from h2]
  rfl
 ·cases hp
theorem callK_ok(hI:zQ I)(hT:ConI I T)(hin:InlOK I W s0 inl rc)(G:GX QL W s0 s C stk e F m Q O L Φ){st:Bool}{d:Option Nat}{g:FuncId}{ops:List Operand}{caps:List Lf}{cs:List Value}{k:En→Option ρ}{r:ρ}{R:Nat}(hlow:Nat.ble zo g=false)
  (hcs:LsR (W.x Φ) Q caps cs) (hw:(caps.all fun x=>Nat.beq x.w 1)=true) (h:callK T inl rc C st e d g ops caps k=some r) (hR:∀con,T g=some con→st=true→con.room≤R) (hR2:T g=none∨st=false→rc≤R) (hB:s0.next+(m+R)≤z3)
  {P:FF→St→Prop} (hk:∀e' F' s' m',m'≤m+R→qb QL W s0 s' C stk e' F' m'→k e'=some r→P F' s') :
  ∃v s',Rets Tryz.prog I g ⟨yw (ze F) ops++cs⟩ s v s'∧P (upd F d v) s':=by
 unfold callK at h
 split at h
 ·next ps hps=>
  split at h
  ·next con hcon=>
   split at h
   ·next e1 hf hst=>
    simp only[Bool.and_eq_true,Bool.or_eq_true]at hst
    have hroom:con.room≤R:=by
     rcases hst.1 with h1|h1
     ·exact hR _ hcon h1
     ·cases st with
      |true=>exact hR _ hcon rfl
      |false=>exact Nat.le_trans (Nat.le_of_ble_eq_true h1) (hR2 (.inr rfl))
    obtain⟨O1,Φ1,G1⟩:=G.frzP hf
    split at h
    ·next ps1 hps1=>
     split at h
     ·next x hx=>
      obtain⟨y,hy,h⟩:=zA h
      have hm:=G.H.most
      obtain⟨v,s',hr,D,H',hv⟩:=hT g con hcon G1.H.fine G1.see.kn (rdP_ok (G1.evs hps1) hx) hy Oz
      split at h
      ·obtain⟨p,hp,h⟩:=yc h
       obtain⟨e',G3,h3⟩:=(G.call H').set (mask_ok hv hp) h
       refine⟨v,s',?_,hk e' _ s' _ Oz G3.good h3⟩
       rw[show cs=[]from hcs,List.append_nil]
       exact hr
      ·have G2:=G1.call H'
       have hp:=toP_ok (Q:=Q) (RepV.mono (wx_in (List.subset_append_right _ _) (List.subset_append_left _ _)) hv) hst.2
       obtain⟨e',G3,h3⟩:=G2.set hp h
       refine⟨v,s',?_,hk e' _ s' _ Oz G3.good h3⟩
       rw[show cs=[]from hcs,List.append_nil]
       exact hr
     ·cases h
    ·cases h
   ·cases h
  ·next hcon=>
   have hrc:=hR2 (.inl hcon)
   split at h
   ·next h108=>
    obtain rfl:=Nat.eq_of_beq_eq_true h108
    split at h
    ·next a=>
     split at h
     ·next ha=>
      obtain⟨n,rfl⟩:=Int.eq_ofNat_of_zero_le ha.1
      obtain⟨v,s',hr,⟨z,rfl⟩,rfl⟩:=lenB_ok hI (s:=s) (n:=n) Oz
      obtain⟨e',G3,h3⟩:=G.set (p:=.any) (v:=.int .i64 z) trivial h
      refine⟨_,_,?_,hk e' _ s' m Oz G3.good h3⟩
      obtain⟨v1,r1,e1,g1,g2⟩:=G.evs hps
      rw[e1,show cs=[]from hcs,show v1=_ from(List.cons.inj (show [v1]=_ from g1)).1,show r1=[]from g2]
      exact hr
     ·cases h
    ·cases h
   ·split at h
    ·next h307=>
     obtain rfl:=Nat.eq_of_beq_eq_true h307
     split at h
     ·next j a b=>
      split at h
      ·next l hoj hlj=>
       have hlj:=Nat.le_of_ble_eq_true hlj
       obtain⟨x,hx,h5⟩:=zA h
       unfold delZ at hx
       split at hx
       ·next hab=>
        cases hx
        obtain⟨h0,h1,rfl⟩:=hab
        obtain⟨i,rfl⟩:=Int.eq_ofNat_of_zero_le h0
        rw[zC]at hoj
        have hjq:j<Q.length:=by rw[←G.len];exact(List.getElem?_eq_some_iff.mp hoj).1
        obtain⟨q,hq⟩:∃q,Q[j]? = some q:=⟨_,List.getElem?_eq_getElem hjq⟩
        obtain⟨o,ho⟩:∃o,O[j]? = some o:=⟨_,List.getElem?_eq_getElem (by rw[G.oq];exact hjq)⟩
        obtain⟨a',cap,hv,_,hn,hsz,Y,hY1,hY2,hY3,hY4⟩:=G.obj j _ q o hoj hq ho
        obtain⟨v1,r1,e1,⟨q',hq',gv,_⟩,v2,r2,e2,g2,v3,r3,e3,g3,g4⟩:=G.evs hps
        rw[hq]at hq';cases hq'
        have hYl:Y.flatten.length=l.length:=by rw[xy hY3,hY1,Nat.mul_one]
        have hil:i<l.length:=by omega
        have hYg:∀(k:Nat) x,l[k]? = some x→Y[k]? = some [Value.int .i64 x]:=fun k x hx=>by
         have hkl:=(List.getElem?_eq_some_iff.mp hx).1
         have:=hY4 k x hx
         have hkY:k<Y.length:=by omega
         rw[List.getD_eq_getElem?_getD,List.getElem?_eq_getElem hkY]at this
         rw[List.getElem?_eq_getElem hkY]
         exact congrArg some this
        have hY:Y.flatten=l.map (Value.int .i64):=by
         have:Y=l.map fun x=>[Value.int .i64 x]:=List.ext_getElem? fun k=>by
          rw[List.getElem?_map]
          by_cases hk:k<l.length
          ·rw[List.getElem?_eq_getElem hk,hYg k _ (List.getElem?_eq_getElem hk)];rfl
          ·rw[List.getElem?_eq_none Oz,List.getElem?_eq_none Oz];rfl
         rw[this,flat_single]
        generalize hD:blkD q.2 o=D at hY2
        generalize hsl:(Value.slice a' l.length cap)=sl at hY2
        generalize hc:Y.flatten=c at hY2 hY hYl
        generalize hn':l.length=n at hY2
        cases hY2 with
        |nil=>omega
        |block b' cap2 _ _ hl2 hcap2=>
         cases hsl
         cases o with
         |none=>cases hD
         |some o=>
          cases hD
          have hmem:=G.own j q _ hq ho hlj
          obtain⟨A,B,hL⟩:=List.append_of_mem hmem
          have hm:=G.H.most
          obtain⟨v,s',hr,cap',rfl,hcap',H'⟩:=del_ok hI (A:=A) (B:=B) (b:=q.2) (cap:=cap) (i:=i) (l:=c) (by rw[←hL];exact G.H) Oz (by rw[hY,List.all_map,List.all_eq_true];intro x _;rfl) Oz Oz
          have G2:=G.frzNew hq ho hlj hL H'
          have hce:c.eraseIdx i=(l.eraseIdx i).map (Value.int .i64):=by rw[hY,List.eraseIdx_eq_take_drop_succ,List.eraseIdx_eq_take_drop_succ,List.map_append,List.map_take,List.map_drop]
          have hlen:c.length-1=(l.eraseIdx i).length:=by rw[hYl,List.length_eraseIdx,if_pos hil]
          have hrep:Rep (W.x ((q.2,.cells (c.eraseIdx i++[.int .i64 0]) 3)::Φ)) (.sl 3 1 (.int .i64)) [.slice (some ⟨q.2,0,none⟩) (c.length-1) cap'] (l.eraseIdx i):=by
           refine⟨_,cap',(l.eraseIdx i).map fun x=>[Value.int .i64 x],by rw[hlen],.inr (.block q.2 0 cap' _ (by rw[List.length_map]) (List.mem_cons_self ..) V4 fun k hk=>?_),by rw[List.length_map],fun k x hx=>?_⟩
           ·rw[List.length_map]at hk
            rw[Nat.zero_add,Nat.mul_one,y6,y5,hce,List.length_drop,List.length_append,List.length_map,if_pos (by simp;omega),List.drop_append_of_le_length V4,←List.map_drop,List.drop_eq_getElem_cons hk]
            simp only[List.map_cons,List.cons_append,List.take_succ_cons,List.take_zero,List.getD_eq_getElem?_getD,List.getElem?_map,List.getElem?_eq_getElem hk,Option.map_some,Option.getD_some]
           ·simp only[List.getD_eq_getElem?_getD,List.getElem?_map,hx,Option.map_some,Option.getD_some]
            rfl
          unfold En.frzAs at h5
          obtain⟨e',G3,h3⟩:=G2.set (p:=.one (.sl 3 1 (.int .i64) (l.eraseIdx i))) (v:=.slice (some ⟨q.2,0,none⟩) (c.length-1) cap') hrep h5
          refine⟨_,s',?_,hk e' _ s' m Oz G3.good h3⟩
          rw[e1,e2,e3,show r3=[]from g4,show cs=[]from hcs,show v1=q.1 from(List.cons.inj gv).1,show v2=_ from(List.cons.inj (show [v2]=_ from g2)).1,show v3=_ from(List.cons.inj (show [v3]=_ from g3)).1,hv]
          rw[hYl]at hr ⊢
          exact hr
       ·cases hx
      ·cases h
     ·cases h
    ·rw[←rnum_low (Q:=Q) hlow]
     refine hin h (G.enter F) rfl ((G.evs hps).app (PsR.caps hcs hw)) Oz ?_
     intro p v o s' m' Q' O' L' Φ' hm' G' hp hk'
     split at hk'
     ·next hc=>
      have G2:=G.exit (F'':=F) G' hc
      obtain⟨e',G3,h3⟩:=G2.set hp hk'
      exact hk e' _ s' m' Oz G3.good h3
     ·cases hk'
 ·cases h
end
end Go.Proofs.YtocnbjjmmgolfaaGreat
namespace Go.Proofs.YtocnbjjmmgolfaaGreat
open Go Go.M Go.Proofs.C14
section
variable{W:Wd}{D:Hp'}{Q:Qs}
theorem rep_ok{l:List Lf}{c:List Value}(h:LsR W Q l c):∀n,LsR W Q (repLf l n) (repL c n)
 |0=>rfl
 |n+1=>h.append (rep_ok h n)
end
section
variable{I:zT}{Γ:TypeId→Option Ty}{T:FuncId→Option Con}{ρ:Type}{inl:Inl ρ}{rc:Nat}{W:Wd}{s0 s:St}{C:Cx}{QL:Qs}{stk:List Fra}{e:En}{F:FF}{m:Nat}{Q:Qs}{O:List (Option MObj)}{L Φ:Hp'}
theorem elK_ok{t el:TypeId}{sz:Nat}{τ:Ty}{z:List Lf}(h:elK Γ t=some (el,sz,τ,z)):∃by_ zc,qw Tryz.prog t=some (el,sz,by_,zc)∧by_≤8000∧τ.sz=sz∧∀(W:Wd) (D:Hp') (Q:Qs),LsR (W.x D) Q z zc:=by
 unfold elK at h
 split at h
 ·next el' sz' by_ zc hs=>
  split at h
  ·next τ' hΓ=>
   split at h
   ·next l hb hl=>
    cases h
    simp only[Bool.and_eq_true]at hb
    exact⟨by_,zc,hs,Nat.le_of_ble_eq_true hb.2,Nat.eq_of_beq_eq_true hb.1,fun W D Q=>zleaves_ok hl⟩
   ·cases h
  ·cases h
 ·cases h
theorem GX.newK(G:GX QL W s0 s C stk e F m Q O L Φ)(hr:s0.next+m<z3){o:MObj}{b:Ob}{v w:Value}{d:Option Nat}{k:En→Option ρ}{r:ρ}{l:Nat→Lf}(hb:ObjR (W.x Φ) (Q++[(v,s.next)]) b (v,s.next) (some o))(hbc:b≠.const)
  (hl:LfR (W.x Φ) (Q++[(v,s.next)]) (l e.objs.length) [w]) (h:En.new C e d b l k=some r):∃e',qb QL W s0 (s.new o) C stk e' (upd F d w) (m+1)∧k e'=some r:=by
 have G1:=G.new hr hb hbc
 unfold En.new at h
 rw[zH,Nat.add_zero]at h
 obtain⟨e',G2,h2⟩:=G1.set (p:=.one (l e.objs.length)) hl h
 exact⟨e',G2.good,h2⟩
theorem GX.nth(G:GX QL W s0 s C stk e F m Q O L Φ){q:Value×Nat}:(Q++[q])[e.objs.length]? = some q:=by rw[G.len];simp
abbrev reS(s s':St):St:={next:=s'.next,bar:=s.bar,prot:=s.prot,heap:=s'.heap}
theorem GX.move(G:GX QL W s0 s C stk e F m Q O L Φ){s':St}(H':HL [] s0 s' L m){j:Nat}{q:Value×Nat}{o:Option MObj}{bo:Ob}(hq:Q[j]? = some q)(ho:O[j]? = some o)(hj:C.lent≤j)(hb:ObjR (W.x Φ) (Q++[q]) bo q o)(hbc:bo≠.const) :
  GX QL W s0 s' C stk {e with objs:=(e.setO j .dead).objs++[bo]} F m (Q++[q]) (zt O j none++[o]) L Φ:=by
 have G1:=G.drop j
 have hjq:j<Q.length:=(List.getElem?_eq_some_iff.mp hq).1
 have hO:∀{i:Nat} {y},(zt O j none++[o])[i]? = some (some y)→(i<Q.length∧i≠j∧O[i]? = some (some y))∨(i=Q.length∧some y=o):=fun{i y} h=>by
  rcases yA h with⟨h1,h2⟩|⟨h1,h2⟩
  ·rw[ya,G.oq]at h1
   rw[yO]at h2
   split at h2
   ·cases h2
   ·next h3=>exact .inl ⟨h1,fun e=>by subst e;exact h3 ⟨rfl,by rw[G.oq];exact h1⟩,h2⟩
  ·rw[ya,G.oq]at h1;exact .inr ⟨h1,h2⟩
 have hE:∀{i:Nat} {y},((e.setO j .dead).objs++[bo])[i]? = some y→(i<Q.length∧(e.setO j .dead).objs[i]? = some y)∨(i=Q.length∧y=bo):=fun h=>by
  have:=yA h;rwa[G1.len]at this
 exact{
  K:=G.K,H:=H'
  oq:=by simp[ya,G.oq]
  len:=by rw[List.length_append,G1.len];simp
  cn:=by have:=G.cn;simp;omega
  ln:=G.ln
  pre:=fun i hi=>by rw[List.getElem?_append_left (by have:=G.ln;have:=G.cn;omega)];exact G.pre i hi
  fro:=G.fro
  own:=fun i q1 o1 h1 h2 hi=>by
   rcases hO h2 with⟨h3,h4,h5⟩|⟨h3,h4⟩<;>rcases yA h1 with⟨h6,h7⟩|⟨h6,h7⟩<;>try omega
   ·exact G.own i q1 o1 h7 h5 hi
   ·subst h7 h4;exact G.own j _ o1 hq ho hj
  lent:=fun i q1 o1 h1 h2 hi=>by
   have:=G.ln;have:=G.cn
   rcases hO h2 with⟨h3,h4,h5⟩|⟨h3,h4⟩<;>rcases yA h1 with⟨h6,h7⟩|⟨h6,h7⟩<;>try omega
   obtain⟨g1,g2⟩:=G.lent i q1 o1 h7 h5 hi
   exact⟨by rw[H'.get g2,←G.H.get g2];exact g1,g2⟩
  inj:=fun i i' q1 q2 o1 o2 h1 h2 h3 h4 he=>by
   rcases hO h3 with⟨a1,a2,a3⟩|⟨a1,a2⟩<;>rcases hO h4 with⟨b1,b2,b3⟩|⟨b1,b2⟩<;>rcases yA h1 with⟨a4,a5⟩|⟨a4,a5⟩<;>rcases yA h2 with⟨b4,b5⟩|⟨b4,b5⟩<;>try omega
   ·exact G.inj i i' q1 q2 o1 o2 a5 b5 a3 b3 he
   ·subst b5 b2;exact(a2 (G.inj i j q1 _ o1 o2 a5 hq a3 ho he)).elim
   ·subst a5 a2;exact(b2 (G.inj i' j q2 _ o2 o1 b5 hq b3 ho he.symm)).elim
  dis:=fun i q1 o1 p hi h1 h2 hp=>by
   rcases hO h2 with⟨h3,h4,h5⟩|⟨h3,h4⟩<;>rcases yA h1 with⟨h6,h7⟩|⟨h6,h7⟩<;>try omega
   ·exact G.dis i q1 o1 p hi h7 h5 hp
   ·subst h7 h4;exact G.dis j _ o1 p hj hq ho hp
  obj:=fun i b1 q1 o1 hb1 h1 h2=>by
   rcases hE hb1 with⟨h3,h4⟩|⟨h3,h4⟩<;>rcases yA h1 with⟨h5,h6⟩|⟨h5,h6⟩<;>try omega
   ·rcases yA h2 with⟨h7,h8⟩|⟨h7,h8⟩
    ·exact(G1.obj i b1 q1 o1 h4 h6 h8).mono WLe.rfl QLe.app
    ·rw[ya,G.oq]at h7;omega
   ·rcases yA h2 with⟨h7,h8⟩|⟨h7,h8⟩
    ·rw[ya,G.oq]at h7;omega
    ·subst h6 h4 h8;exact hb
  cob:=fun i b1 q1 o1 hc1 hb1 h1 h2=>by
   rw[List.take_append_of_le_length G.cn]
   rcases hE hc1 with⟨h3,h4⟩|⟨h3,h4⟩<;>rcases yA h1 with⟨h5,h6⟩|⟨h5,h6⟩<;>try omega
   ·rcases yA h2 with⟨h7,h8⟩|⟨h7,h8⟩
    ·exact G1.cob i b1 q1 o1 h4 hb1 h6 h8
    ·rw[ya,G.oq]at h7;omega
   ·exact(hbc h4.symm).elim
  slots:=G.slots.mono WLe.rfl QLe.app
  cslots:=by rw[List.take_append_of_le_length G.cn];exact G.cslots
  stk:=fun f hf=>by
   obtain⟨h1,h2,h3⟩:=G.stk f hf
   exact⟨h1,by rw[List.take_append_of_le_length (by have:=G.cn;omega)];exact h2,h3⟩}
theorem app_ne{α:Type}{l m r:List α}{x:α}(h:app l (x::m)=some r):r.length≠0:=by
 obtain⟨rfl,_⟩:=app_some h
 simp
theorem app_step{t t2 el el2:TypeId}{ts:List TypeId}{sz by_:Nat}{zc:List Value}{a:Option Addr}{b n:Nat}{y:Value}{l:List Value}{S:St}(hs:qw Tryz.prog t=some (el,sz,by_,zc))(hu2:Tryz.prog.underlying t2=some (.slice el2))(ha:a=none∨a=some ⟨b,0,none⟩∧S.get b=some (.cells [] el))(he:qr S sz y n l)(hp:l.all Go.M.plainCell=true)(hl:l.length=n*sz)(hb:n*(by_+1)≤1073741824)(hroom:S.room=true) :
  (n=0→∃S',yi Tryz.prog (t::t2::ts) [.slice a 0 0,y] S=.ok (.value (.slice a 0 0)) S'∧(S'=S∨S.may b=true∧a=some ⟨b,0,none⟩∧S'=S.put b (some (.cells [] el)))) ∧
  (0<n→yi Tryz.prog (t::t2::ts) [.slice a 0 0,y] S=.ok (.value (.slice (some ⟨S.next,0,none⟩) n (2*n+1))) (S.new (.cells l el))):=by
 obtain⟨hu,inf,z',hi,rfl,rfl,hz,hz1,hz2⟩:=yL hs
 have hnew:=newL_ok hu2 he
 constructor
 ·rintro rfl
  have hl0:l=[]:=by rw[Nat.zero_mul]at hl;exact List.length_eq_zero_iff.mp hl
  subst hl0
  have h0:Nat.ble (0+0) (0 / 2)=true:=rfl
  rcases ha with rfl|⟨rfl,hg⟩
  ·exact⟨S,by simp only[yi,hu,hi,hnew,yX,h0];rfl,.inl rfl⟩
  ·cases hm:S.may b with
   |true=>exact⟨_,by simp only[yi,hu,hi,hnew,yX,h0,yB,Nat.zero_mul,Nat.add_zero,hg,List.all_nil,Bool.true_and,hm,xh,xO];rfl,.inr ⟨rfl,rfl,rfl⟩⟩
   |false=>exact⟨S,by simp only[yi,hu,hi,hnew,yX,h0,yB,Nat.zero_mul,Nat.add_zero,hg,List.all_nil,Bool.true_and,hm,xh,xO];rfl,.inl rfl⟩
 ·intro hn
  have h0:Nat.ble (0+n) (0 / 2)=false:=by
   rw[Bool.eq_false_iff];intro h;have:=Nat.le_of_ble_eq_true h;omega
  have hgrow:growB inf (0+n) n l=true:=growB_ok (t:=t) (e:=el) hz1 hz2 (by rw[Nat.zero_add];exact hb) hp hl
  have hrow:rowB el a 0 S=true:=rfl
  have hfirst:yD inf.size 0 (.slice a 0 0) S=some []:=by
   rcases ha with rfl|⟨rfl,hg⟩
   ·rfl
   ·simp only[yD,hg,Nat.zero_mul];rfl
  have hkill:killM a 0 S=some S:=rfl
  simp only[yi,hu,hi,hnew,yX,h0,hgrow,hrow,Bool.and_self,hfirst,growM,hkill,newS,hroom,List.nil_append]
  simp only[Nat.zero_add]
  rfl
theorem appD_ok(G:GX QL W s0 s C stk e F m Q O L Φ){d:Option Nat}{t t2 el2:TypeId}{ts:Array TypeId}{tr:List TypeId}{ag:Array Operand}{x y:Operand}{k:En→Option ρ}{r:ρ}{j t' w':Nat}{τ':Ty}{xs:List τ'.T}
  (hts:ts.toList=t::t2::tr) (has:ag.toList=[x,y]) (hu2:Tryz.prog.underlying t2=some (.slice el2)) (hx:e.ev C x=some (.one (.own j))) (hy:e.ev C y=some (.one (.sl t' w' τ' xs))) (h:appK Γ C e d t (.one (.own j)) (.one (.sl t' w' τ' xs)) k=some r) (hB:s0.next+(m+1)≤z3) (hj0:∃t w τ,zM e.objs j=some (.list t w τ [])) :
  ∃v,∀bar prot,s.next≤bar→∃S1,zh Tryz.prog (ze F) (.call ⟨.builtin .append,ag,ts⟩) {next:=s.next,bar:=bar,prot:=prot,heap:=s.heap}=.ok (.value v) S1∧∃e',qb QL W s0 (reS s S1) C stk e' (upd F d v) (m+1)∧k e'=some r:=by
 unfold appK at h
 split at h
 ·next el sz τ z hel=>
  obtain⟨by_,zc,hs,hby,hsz,_⟩:=elK_ok hel
  simp only at h
  split at h
  ·next hh=>
   obtain⟨rfl,rfl,rfl⟩:=hh
   split at h
   ·next t2' w2 τ2 l0 hck hoj=>
    obtain⟨t9,w9,τ9,hj0⟩:=hj0
    rw[hoj]at hj0
    cases hj0
    simp only[Bool.and_eq_true]at hck
    have hlj:=Nat.le_of_ble_eq_true hck.1
    have hw1:=Nat.le_of_ble_eq_true hck.2
    split at h
    ·next hh2=>
     obtain⟨g1,g2,g3⟩:=hh2
     subst t2' w2 τ2
     obtain⟨rr,hrr,h⟩:=zA h
     obtain⟨hrr2,hlen⟩:=app_some hrr
     have hrr2:rr=xs:=hrr2
     subst rr
     simp only[castL,List.length_nil,Nat.zero_add]at hlen
     rw[zC]at hoj
     have hjq:j<Q.length:=by rw[←G.len];exact(List.getElem?_eq_some_iff.mp hoj).1
     obtain⟨q,hq⟩:∃q,Q[j]? = some q:=⟨_,List.getElem?_eq_getElem hjq⟩
     obtain⟨o,ho⟩:∃o,O[j]? = some o:=⟨_,List.getElem?_eq_getElem (by rw[G.oq];exact hjq)⟩
     obtain⟨a,cap,hv,hc0,hn,hw,Y,hY1,hY2,hY3,hY4⟩:=G.obj j _ q o hoj hq ho
     obtain rfl:=hc0 rfl
     have hex:ze F x=.slice a 0 0:=by
      obtain⟨q',h1,h2,_⟩:=G.ev hx
      rw[hq]at h1;cases h1
      rw[(List.cons.inj h2).1,hv];rfl
     have hY0:Y=[]:=List.length_eq_zero_iff.mp (by simpa using hY1)
     subst hY0
     obtain⟨ay,cy,Ly,e1,hS,hLn,hLr⟩:=G.ev hy
     have hey:=(List.cons.inj e1).1
     have hsl:=G.see.kn.s _ _ _ _ hS
     have hLw:∀x∈Ly,x.length=w':=fun x hx=>by
      obtain⟨i,hi,rfl⟩:=List.getElem_of_mem hx
      have hi':i<xs.length:=by omega
      have:=(hLr i xs[i] (List.getElem?_eq_getElem hi')).len
      rw[List.getD_eq_getElem?_getD,List.getElem?_eq_getElem hi]at this
      exact this.trans hsz
     have hLp:Ly.flatten.all Go.M.plainCell=true:=by
      rw[List.all_eq_true]
      intro v hv
      obtain⟨c,hc,hv⟩:=List.mem_flatten.mp hv
      obtain⟨i,hi,rfl⟩:=List.getElem_of_mem hc
      have hi':i<xs.length:=by omega
      have:=(hLr i xs[i] (List.getElem?_eq_getElem hi')).plain
      rw[List.getD_eq_getElem?_getD,List.getElem?_eq_getElem hi]at this
      exact(List.all_eq_true.mp this) v hv
     have hel2:∀S:St,S.heap=s.heap→qr S w' (ze F y) xs.length Ly.flatten:=fun S hS'=>by
      rw[hey,←hLn]
      obtain⟨g1,g2⟩:=hsl.elems hLw hw1
      rw[hLn]at g1 g2 ⊢
      refine⟨g1,?_⟩
      rw[←g2]
      simp only[yD,St.get,hS']
     have hab:∀S:St,S.heap=s.heap→a=none∨a=some ⟨q.2,0,none⟩∧S.get q.2=some (.cells [] t'):=fun S hS'=>by
      generalize hD:blkD q.2 o=D at hY2
      generalize hsl:(Value.slice a ([]:List τ'.T).length 0)=sl at hY2
      generalize hcc:([]:List (List Value)).flatten=c at hY2
      generalize hn':([]:List τ'.T).length=n' at hY2
      cases hY2 with
      |nil=>cases hsl;exact .inl rfl
      |block b' cap2 _ _ hl2 hcap2=>
       cases hsl
       cases o with
       |none=>cases hD
       |some o=>
        cases hD
        subst hcc
        refine .inr ⟨rfl,?_⟩
        have:=G.get hq ho
        simpa only[St.get,hS',List.flatten_nil]using this
     have hmm:=G.H.most
     have hbl:xs.length*(by_+1)≤1073741824:=Nat.le_trans (Nat.mul_le_mul hlen (Nat.succ_le_succ hby)) Uz
     have hfl:Ly.flatten.length=xs.length*w':=by rw[xy hLw,hLn]
     have hstep:∀S,zh Tryz.prog (ze F) (.call ⟨.builtin .append,ag,ts⟩) S=yi Tryz.prog (t::t2::tr) [.slice a 0 0,ze F y] S:=fun S=>by
      simp only[zh,yy,hts,has,yw,hex]
     have hroom:∀S:St,S.next=s.next→S.room=true:=fun S hS'=>by
      rw[St.room,hS'];exact G.H.room Oz
     have hst:=fun(S:St) (h1:S.heap=s.heap) (h2:S.next=s.next)=>app_step (ts:=tr) (b:=q.2) hs hu2 (hab S h1) (hel2 S h1) hLp hfl hbl (hroom S h2)
     cases hxs:xs.length with
     |zero=>
      -- it stays,under another number
      have hx0:xs=[]:=List.length_eq_zero_iff.mp hxs
      subst hx0
      have hval:q.1=.slice a 0 0:=hv
      have fin:∀s1:St,HL [] s0 s1 L m→∃e',qb QL W s0 s1 C stk e' (upd F d (.slice a 0 0)) (m+1)∧k e'=some r:=fun s1 H'=>by
       have G1:=G.move H' (bo:=.list t' w' τ' ([]:List τ'.T)) hq ho hlj ⟨a,0,hv,fun _=>rfl,hn,hw,[],hY1,hY2,hY3,hY4⟩ (fun h=>nomatch h)
       unfold En.new at h
       rw[zH,Nat.add_zero]at h
       have hnth:=(G.drop j).nth (q:=q)
       obtain⟨e',G2,h2⟩:=G1.set (p:=.one (.own (e.setO j .dead).objs.length)) (v:=.slice a 0 0) ⟨q,hnth,by rw[hval],_,_,_,hval⟩ h
       exact⟨e',⟨_,_,_,_,{G2 with H:=G2.H.up Oz}⟩,h2⟩
      refine⟨.slice a 0 0,fun bar prot hbar=>?_⟩
      ·obtain⟨S',h1,h2⟩:=(hst {next:=s.next,bar:=bar,prot:=prot,heap:=s.heap} rfl rfl).1 hxs
       refine⟨S',by rw[hstep];exact h1,?_⟩
       rcases h2 with rfl|⟨hm,rfl,rfl⟩
       ·exact fin _ G.H
       ·exfalso
        rcases hab s rfl with h|⟨_,hg⟩
        ·cases h
        ·cases o with
         |none=>cases hY2
         |some o=>
          have:=G.lt hq ho
          simp only[St.may,Bool.and_eq_true]at hm
          have:=Nat.le_of_ble_eq_true hm.1
          omega
     |succ n=>
      have hpos:0<xs.length:=by omega
      have hv2:=fun(S:St) h1 h2=>(hst S h1 h2).2 hpos
      have how:OwnL (W.x Φ) t' w' τ' [(s.next,.cells Ly.flatten t')] (some ⟨s.next,0,none⟩) xs.length (2*xs.length+1) xs:=
       ⟨rfl,hsz,Ly,hLn,.block s.next _ _ _ hfl.symm Oz,hLw,hLr⟩
      have fin:∃e',qb QL W s0 (s.new (.cells Ly.flatten t')) C stk e' (upd F d (.slice (some ⟨s.next,0,none⟩) xs.length (2*xs.length+1))) (m+1)∧k e'=some r:=by
       obtain⟨e',G1,h3⟩:=(G.drop j).newK Oz (o:=.cells Ly.flatten t') (v:=.slice (some ⟨s.next,0,none⟩) xs.length (2*xs.length+1)) (w:=.slice (some ⟨s.next,0,none⟩) xs.length (2*xs.length+1)) (b:=.list t' w' τ' xs) (l:=.own)
        ⟨_,_,rfl,(fun h0=>by omega),how⟩ (fun h=>nomatch h) ⟨_,(G.drop j).nth,rfl,_,_,_,rfl⟩ h
       exact⟨e',G1,h3⟩
      refine⟨.slice (some ⟨s.next,0,none⟩) xs.length (2*xs.length+1),fun bar prot hbar=>⟨_,by rw[hstep];exact hv2 _ rfl rfl,fin⟩⟩
    ·cases h
   ·cases h
  ·cases h
 ·cases h
theorem op_appNN{ty:TypeId}{pos:String}{af:Array Edge}{g:Option (Nat×Bool)}{d:Option Nat}{t t2 el el2:TypeId}{ts:Array TypeId}{tr:List TypeId}{ag:Array Operand}{x y:Operand}{sz by_:Nat}{zc:List Value}{P:FF→St→Prop}(hs:qw Tryz.prog t=some (el,sz,by_,zc))(hu2:Tryz.prog.underlying t2=some (.slice el2))(hts:ts.toList=t::t2::tr)(has:ag.toList=[x,y])
  (hx:ze F x=.slice none 0 0) (he:qr s sz (ze F y) 0 []) (k:P (upd F d (.slice none 0 0)) s):OpW Tryz.prog I ⟨d,.call ⟨.builtin .append,ag,ts⟩,ty,pos,af,g⟩ F s P:=by
 obtain⟨hu,inf,z',hi,rfl,rfl,hz,hz1,hz2⟩:=yL hs
 refine zU (v:=.slice none 0 0) (s':=s) ?_ k
 have h0:Nat.ble (0+0) (0 / 2)=true:=rfl
 simp only[zh,yy,hts,has,yw,hx,yi,hu,hi,newL_ok hu2 he,yX,h0]
 rfl
theorem appF_ok(G:GX QL W s0 s C stk e F m Q O L Φ){d:Option Nat}{t t2 el2:TypeId}{ts:Array TypeId}{tr:List TypeId}{ag:Array Operand}{x y:Operand}{k:En→Option ρ}{r:ρ}{P:FF→St→Prop}{j t' w':Nat}{τ':Ty}{ty:TypeId}{pos:String}{af:Array Edge}{g:Option (Nat×Bool)}{xs:List τ'.T}
  (hts:ts.toList=t::t2::tr) (has:ag.toList=[x,y]) (hu2:Tryz.prog.underlying t2=some (.slice el2)) (hx:e.ev C x=some (.one (.own j))) (hy:e.ev C y=some (.one (.sl t' w' τ' xs))) (h:appK Γ C e d t (.one (.own j)) (.one (.sl t' w' τ' xs)) k=some r) (hB:s0.next+(m+1)≤z3)
  (hk:∀e' F' s' m',m'≤m+1→qb QL W s0 s' C stk e' F' m'→k e'=some r→P F' s'):OpW Tryz.prog I ⟨d,.call ⟨.builtin .append,ag,ts⟩,ty,pos,af,g⟩ F s P:=by
 unfold appK at h
 split at h
 ·next el sz τ z hel=>
  obtain⟨by_,zc,hs,hby,hsz,_⟩:=elK_ok hel
  simp only at h
  split at h
  ·next hh=>
   obtain⟨rfl,rfl,rfl⟩:=hh
   split at h
   ·next t3 w3 τ3 l hck hoj=>
    simp only[Bool.and_eq_true]at hck
    have hlj:=Nat.le_of_ble_eq_true hck.1
    have hw1:=Nat.le_of_ble_eq_true hck.2
    split at h
    ·next hh2=>
     obtain⟨rfl,rfl,rfl⟩:=hh2
     obtain⟨l',hl',h'⟩:=zA h
     clear h
     rw[zC]at hoj
     have hjq:j<Q.length:=by rw[←G.len];exact(List.getElem?_eq_some_iff.mp hoj).1
     obtain⟨qj,hqj⟩:∃q,Q[j]? = some q:=⟨_,List.getElem?_eq_getElem hjq⟩
     obtain⟨oj,hoj2⟩:∃o,O[j]? = some o:=⟨_,List.getElem?_eq_getElem (by rw[G.oq];exact hjq)⟩
     obtain⟨aj,cj,hvj,hc0,how⟩:=G.obj j _ qj oj hoj hqj hoj2
     have hex:ze F x=.slice aj l.length cj:=by
      obtain⟨q',h1,h2,_⟩:=G.ev hx
      rw[hqj]at h1;cases h1
      rw[←hvj];exact(List.cons.inj h2).1
     obtain⟨ay,cy,Ly,e1,hS,hLn,hLr⟩:=G.ev hy
     have hey:=(List.cons.inj e1).1
     have hsl:=G.see.kn.s _ _ _ _ hS
     have hLw:∀x∈Ly,x.length=w3:=fun x hx=>by
      obtain⟨i,hi,rfl⟩:=List.getElem_of_mem hx
      have hi':i<xs.length:=by omega
      have:=(hLr i xs[i] (List.getElem?_eq_getElem hi')).len
      rw[List.getD_eq_getElem?_getD,List.getElem?_eq_getElem hi]at this
      exact this.trans hsz
     have hel2:qr s w3 (ze F y) xs.length Ly.flatten:=by
      rw[hey,←hLn]
      have:=hsl.elems hLw hw1
      rw[hLn]at this ⊢
      exact this
     have Gj:=G.drop j
     -- the old block comes to the front
     obtain⟨L1,hperm,hsub⟩:∃L1,L.Perm (blkD qj.2 oj++L1)∧∀p,p∈L→(∀o,oj=some o→p.1≠qj.2)→p∈L1:=by
      cases oj with
      |none=>exact⟨L,.refl _,fun p hp _=>hp⟩
      |some o=>
       obtain⟨A,B,rfl⟩:=List.append_of_mem (G.own j qj o hqj hoj2 hlj)
       refine⟨A++B,List.perm_middle,fun p hp hne=>?_⟩
       rcases List.mem_append.mp hp with h|h
       ·exact List.mem_append_left _ h
       ·rcases List.mem_cons.mp h with rfl|h
        ·exact(hne o rfl rfl).elim
        ·exact List.mem_append_right _ h
     by_cases hxs:xs.length=0
     ·-- it stays,under another number
      have hx0:xs=[]:=List.length_eq_zero_iff.mp hxs
      subst hx0
      obtain rfl:l'=l:=by
       obtain⟨e2,_⟩:=app_some hl'
       rw[e2];exact List.append_nil _
      have hL0:Ly=[]:=List.length_eq_zero_iff.mp hLn
      subst hL0
      have fin:∀s1:St,HL [] s0 s1 L m→P (upd F d (.slice aj l'.length cj)) s1:=fun s1 H'=>by
       have G1:=G.move H' (bo:=.list t3 w3 τ3 l') hqj hoj2 hlj ⟨aj,cj,hvj,hc0,how⟩ (fun h=>nomatch h)
       unfold En.new at h'
       rw[zH,Nat.add_zero]at h'
       have hnth:=(G.drop j).nth (q:=qj)
       obtain⟨e',G2,h2⟩:=G1.set (p:=.one (.own (e.setO j .dead).objs.length)) (v:=.slice aj l'.length cj) ⟨qj,hnth,by rw[hvj],_,_,_,hvj⟩ h'
       exact hk e' _ s1 m Oz G2.good h2
      obtain⟨hn',hw',Y,hY1,hY2,hY3,hY4⟩:=how
      generalize hD:blkD qj.2 oj=D at hY2 hperm
      generalize hsl':(Value.slice aj l'.length cj)=sl at hY2 hex fin
      generalize hc:Y.flatten=c at hY2
      generalize hnn:l'.length=nn at hY2
      cases hY2 with
      |nil=>exact op_appNN hs hu2 hts has hex hel2 (fin s G.H)
      |block b cap2 _ _ hl2 hcap2=>
       have H1:=G.H.perm hperm
       refine op_appendNone' H1 hs hu2 hts has hex hel2 Oz Oz Oz fun s' H'=>fin s' (H'.perm hperm.symm)
     ·refine op_appL (W:=W.x Φ) (D:=blkD qj.2 oj) (L:=L1) (l:=castL rfl l) (xs:=castL rfl xs) (X:=Ly) (G.H.perm hperm) how hl' hs hu2 hts has hex hel2 hLn.symm Oz hLn.symm hLr hby Oz ?_
      intro a' cap' b c s' H' ho'
      have hgone:∀(a:Nat) o1,(zt O j none)[a]? = some (some o1)→a≠j∧O[a]? = some (some o1):=fun a o1 ha=>by
       rw[yO]at ha
       split at ha
       ·cases ha
       ·next h1=>
        refine⟨fun e=>?_,ha⟩
        subst e
        exact h1 ⟨rfl,by rw[G.oq];exact hjq⟩
      have hne:l'.length≠0:=by
       obtain⟨rfl,_⟩:=app_some hl'
       rw[List.length_append]
       have:(castL (rfl:τ3=τ3) xs).length=xs.length:=rfl
       omega
      have G1:=Gj.swap (v:=.slice a' l'.length cap') (bo:=.list t3 w3 τ3 l') H'
       (fun p hp=>hsub p (G.fro hp) fun o ho=>by subst ho;exact G.dis j qj o p hlj hqj hoj2 hp)
       (fun a q o1 h1 h2 h3=>by
        obtain⟨g1,g2⟩:=hgone a o1 h2
        exact hsub _ (G.own a q o1 h1 g2 h3) fun o ho he=>by subst ho;exact g1 (G.inj a j q qj o1 o h1 hqj g2 hoj2 he))
       ⟨a',cap',rfl,fun h0=>(hne h0).elim,ho'⟩ (fun h=>nomatch h)
      unfold En.new at h'
      rw[zH,Nat.add_zero]at h'
      have hnth:=Gj.nth (q:=(Value.slice a' l'.length cap',b))
      obtain⟨e',G2,h2⟩:=G1.set (p:=.one (.own (e.setO j .dead).objs.length)) (v:=.slice a' l'.length cap') ⟨_,hnth,rfl,_,_,_,rfl⟩ h'
      exact hk e' _ s' _ (Nat.le_refl _) G2.good h2
    ·cases h
   ·cases h
  ·cases h
 ·cases h
theorem appK_ok(G:GX QL W s0 s C stk e F m Q O L Φ){d:Option Nat}{t t2 el2:TypeId}{ts:Array TypeId}{tr:List TypeId}{ag:Array Operand}{x y:Operand}{px py:Pv}{k:En→Option ρ}{r:ρ}{P:FF→St→Prop}{ty:TypeId}{pos:String}{af:Array Edge}{g:Option (Nat×Bool)}
  (hts:ts.toList=t::t2::tr) (has:ag.toList=[x,y]) (hu2:Tryz.prog.underlying t2=some (.slice el2)) (hx:e.ev C x=some px) (hy:e.ev C y=some py) (h:appK Γ C e d t px py k=some r) (hB:s0.next+(m+1)≤z3)
  (hk:∀e' F' s' m',m'≤m+1→qb QL W s0 s' C stk e' F' m'→k e'=some r→P F' s'):OpW Tryz.prog I ⟨d,.call ⟨.builtin .append,ag,ts⟩,ty,pos,af,g⟩ F s P:=by
 unfold appK at h
 split at h
 ·next el sz τ z hel=>
  obtain⟨by_,zc,hs,hby,hsz,_⟩:=elK_ok hel
  split at h
  ·next i=>
   split at h
   ·next t' w' τ' mm hoi=>
    split at h
    ·next hh=>
     obtain⟨rfl,rfl,rfl⟩:=hh
     split at h
     ·cases h
     ·next m0 ml=>
      split at h
      ·cases h
      ·next hli=>
       have hli:=Nat.le_of_ble_eq_true hli
       rw[zC]at hoi
       have hiq:i<Q.length:=by rw[←G.len];exact(List.getElem?_eq_some_iff.mp hoi).1
       obtain⟨qi,hqi⟩:∃q,Q[i]? = some q:=⟨_,List.getElem?_eq_getElem hiq⟩
       obtain⟨oi,hoi2⟩:∃o,O[i]? = some o:=⟨_,List.getElem?_eq_getElem (by rw[G.oq];exact hiq)⟩
       obtain⟨ai,ci,hvi,_,hni,hwi,Y,hY1,hY2,hY3,hY4⟩:=G.obj i _ qi oi hoi hqi hoi2
       have hey:ze F y=qi.1:=by
        obtain⟨q',h1,h2,_⟩:=G.ev hy
        rw[hqi]at h1;cases h1
        exact(List.cons.inj h2).1
       have hel2:qr s w' (ze F y) (m0::ml).length Y.flatten:=by
        rw[hey,hvi]
        generalize hD:blkD qi.2 oi=D at hY2
        generalize hc:Y.flatten=c at hY2 ⊢
        generalize hsl:(Value.slice ai (m0::ml).length ci)=sl at hY2 ⊢
        generalize hn:(m0::ml).length=n at hY2 ⊢
        cases hY2 with
        |nil=>exact elems_nil
        |block b cap' _ _ hl hcap=>
         cases oi with
         |none=>cases hD
         |some o=>cases hD;exact elems_all (G.get hqi hoi2) hl
       have Gi:=G.drop i
       split at h
       ·-- onto nothing
        obtain⟨l',hl',h⟩:=zA h
        refine op_appL (W:=W.x Φ) (D:=[]) (L:=L) (a:=none) (len:=0) (cap:=0) (l:=[]) (xs:=m0::ml) (X:=Y) (by exact G.H) (OwnL.nil hsz) hl' hs hu2 hts has ?_ hel2 hY1.symm Y8 hY1.symm hY4 hby Oz ?_
        ·exact(List.cons.inj (show [ze F x]=_ from G.ev hx)).1
        ·intro a' cap' b c s' H' ho'
         have G1:=Gi.swap (v:=.slice a' l'.length cap') (bo:=.list t' w' τ' l') H' Gi.fro Gi.own ⟨a',cap',rfl,fun h0=>(app_ne (m:=ml) (x:=m0) hl' h0).elim,ho'⟩ (fun h=>nomatch h)
         unfold En.new at h
         rw[zH,Nat.add_zero]at h
         have hnth:=Gi.nth (q:=(Value.slice a' l'.length cap',b))
         obtain⟨e',G2,h2⟩:=G1.set (p:=.one (.own (e.setO i .dead).objs.length)) (v:=.slice a' l'.length cap') ⟨_,hnth,rfl,_,_,_,rfl⟩ h
         exact hk e' _ s' _ (Nat.le_refl _) G2.good h2
       ·next j=>
        split at h
        ·next t3 w3 τ3 l hji hoj=>
         split at h
         ·next hh2=>
          obtain⟨rfl,rfl,rfl⟩:=hh2
          simp only[Bool.or_eq_false_iff,Bool.not_eq_false']at hji
          have hne:j≠i:=fun e=>by subst e;simp at hji
          have hlj:=Nat.le_of_ble_eq_true hji.2
          obtain⟨l',hl',h⟩:=zA h
          rw[zC]at hoj
          have hjq:j<Q.length:=by rw[←G.len];exact(List.getElem?_eq_some_iff.mp hoj).1
          obtain⟨qj,hqj⟩:∃q,Q[j]? = some q:=⟨_,List.getElem?_eq_getElem hjq⟩
          obtain⟨oj,hoj2⟩:∃o,O[j]? = some o:=⟨_,List.getElem?_eq_getElem (by rw[G.oq];exact hjq)⟩
          obtain⟨aj,cj,hvj,_,how⟩:=G.obj j _ qj oj hoj hqj hoj2
          have hex:ze F x=.slice aj l.length cj:=by
           obtain⟨q',h1,h2,_⟩:=G.ev hx
           rw[hqj]at h1;cases h1
           rw[←hvj];exact(List.cons.inj h2).1
          have Gj:=Gi.drop j
          -- the old block comes to the front
          obtain⟨L1,hperm,hsub⟩:∃L1,L.Perm (blkD qj.2 oj++L1)∧∀p,p∈L→(∀o,oj=some o→p.1≠qj.2)→p∈L1:=by
           cases oj with
           |none=>exact⟨L,.refl _,fun p hp _=>hp⟩
           |some o=>
            obtain⟨A,B,rfl⟩:=List.append_of_mem (G.own j qj o hqj hoj2 hlj)
            refine⟨A++B,List.perm_middle,fun p hp hne=>?_⟩
            rcases List.mem_append.mp hp with h|h
            ·exact List.mem_append_left _ h
            ·rcases List.mem_cons.mp h with rfl|h
             ·exact(hne o rfl rfl).elim
             ·exact List.mem_append_right _ h
          have hgone:∀(a:Nat) o1,(zt (zt O i none) j none)[a]? = some (some o1)→a≠j∧O[a]? = some (some o1):=fun a o1 ha=>by
           rw[yO]at ha
           split at ha
           ·cases ha
           ·next h1=>
            rw[yO]at ha
            split at ha
            ·cases ha
            ·refine⟨fun e=>?_,ha⟩
             subst e
             exact h1 ⟨rfl,by rw[ya,G.oq];exact hjq⟩
          refine op_appL (W:=W.x Φ) (D:=blkD qj.2 oj) (L:=L1) (l:=castL rfl l) (xs:=castL rfl (m0::ml)) (X:=Y) (G.H.perm hperm) how hl' hs hu2 hts has hex hel2 hY1.symm Y8 hY1.symm hY4 hby Oz ?_
          intro a' cap' b c s' H' ho'
          have G1:=Gj.swap (v:=.slice a' l'.length cap') (bo:=.list t3 w3 τ3 l') H'
           (fun p hp=>hsub p (G.fro hp) fun o ho=>by subst ho;exact G.dis j qj o p hlj hqj hoj2 hp)
           (fun a q o1 h1 h2 h3=>by
            obtain⟨g1,g2⟩:=hgone a o1 h2
            exact hsub _ (G.own a q o1 h1 g2 h3) fun o ho he=>by subst ho;exact g1 (G.inj a j q qj o1 o h1 hqj g2 hoj2 he))
           ⟨a',cap',rfl,fun h0=>(app_ne (m:=ml) (x:=m0) hl' h0).elim,ho'⟩ (fun h=>nomatch h)
          unfold En.new at h
          rw[zH,Nat.add_zero]at h
          have hnth:=Gj.nth (q:=(Value.slice a' l'.length cap',b))
          obtain⟨e',G2,h2⟩:=G1.set (p:=.one (.own ((e.setO i .dead).setO j .dead).objs.length)) (v:=.slice a' l'.length cap') ⟨_,hnth,rfl,_,_,_,rfl⟩ h
          exact hk e' _ s' _ (Nat.le_refl _) G2.good h2
         ·cases h
        ·cases h
       ·cases h
    ·cases h
   ·cases h
  ·next t' w' τ' xs=>
   split at h
   ·next hh=>
    split at h
    ·next j=>
     exact appF_ok G hts has hu2 hx hy (by unfold appK;rw[hel];simp only;rw[dif_pos hh];exact h) hB hk
    ·cases h
   ·cases h
  ·cases h
 ·cases h
end
end Go.Proofs.YtocnbjjmmgolfaaGreat
