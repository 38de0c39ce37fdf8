/- slices.Compact on a list of its own. -/
import Derived.Test.YtocnbjjmmgolfaaGreatA15
set_option linter.unusedSimpArgs false
set_option linter.unusedVariables false
set_option linter.unusedSectionVars false
namespace Go.Proofs.YtocnbjjmmgolfaaGreat
open Go Go.M Go.Proofs.C14
theorem Jj:wF Tryz.prog 22=some (true,0,1):=by kernel_rfl
theorem fb78:vG Tryz.f78 (Tryz.f78.body.getD .skip) 1=true:=by kernel_rfl
theorem sh3d:zV Tryz.prog 3=some (none):=by kernel_rfl
theorem sz3d:qZ Tryz.prog 3=some 1:=by kernel_rfl
theorem zcG{l:List Int}{p:Nat}(h:p<l.length):l.getD p 0=l[p]:=by rw[aC,aE h];rfl
theorem jU{l:List Int}{p:Nat}(h:p<l.length):l.take (p+1)=l.take p++[l.getD p 0]:=by rw[zcG h,List.take_append_getElem h]
def wu(l:List Int):List Value:=l.map (Value.int .i64)
theorem uN{l:List Int}{p:Nat}(h:p<l.length):zF (wu l) p=some (.int .i64 (l.getD p 0)):=by
 rw[zJ,wu,List.getElem?_map,aE h,zcG h];rfl
theorem zbd{x:Int}:∀{l:List Int} {p:Nat} (_:p<l.length),yO p [.int .i64 x] (wu l)=some (wu (l.set p x))
 | [],_,h=>by simp at h
 |y::l,0,_=>rfl
 |y::l,p+1,h=>by
  have:=zbd (x:=x) (l:=l) (p:=p) (by simpa using h)
  simp only[wu,List.map_cons,yO,List.set_cons_succ]at this ⊢
  rw[this]
theorem WG{z:Value}:∀n,(kq [z] n).length=n
 |0=>rfl
 |n+1=>by show([z]++kq [z] n).length=_;rw[aQ,WG n];simp;omega
theorem XR{z:Value}(h:Go.M.plainCell z=true):∀n,(kq [z] n).all Go.M.plainCell=true
 |0=>rfl
 |n+1=>by show([z]++kq [z] n).all _=_;rw[List.all_append,XR h n,List.all_cons,h];rfl
theorem Va:∀{l c:List Value},l.length=c.length→xO l c=some l
 | [],[],_=>rfl
 | [],_::_,h=>by simp at h
 |_::_,[],h=>by simp at h
 |x::l,y::c,h=>by simp only[xO,Va (show l.length=c.length by simpa using h)]
theorem K6:∀{l c:List Value} {p:Nat},p+l.length=c.length→yO p l c=some (c.take p++l)
 |l,c,0,h=>by
  show xO l c=_
  rw[Va Oz];rfl
 |l,[],p+1,h=>by simp at h
 |l,y::c,p+1,h=>by
  simp only[yO,K6 (show p+l.length=c.length by simp at h;omega),List.take_succ_cons,bV]
theorem op_clearN{P:Program}{I:zU}{F:FF}{s:St}{Q:FF→St→Prop}{d:Option Nat}{ty:TypeId}{pos:String}{af:Array Edge}{g:Option (Nat×Bool)}{args:Array Operand}{ts:Array TypeId}{t e h:TypeId}{tr:List TypeId}{x:Operand}{b off cap m:Nat}{c c':List Value}{z:Value}{inf:TypeInfo}
 (hu:P.underlying t=some (.slice e)) (n:ts.toList=t::tr) (ha:args.toList=[x]) (hx:zd F x=.slice (some ⟨b,off,none⟩) m cap) (hm:0<m) (i:P.info? e=some inf) (o:we P e=some [z]) (hp:Go.M.plainCell z=true) (hg:s.get b=some (.cells c h)) (a:s.may b=true) (f:yO off (kq [z] m) c=some c')
 (k:Q (upd F d (.tuple ⟨[]⟩)) (s.put b (some (.cells c' h)))):OpW P I ⟨d,.call ⟨.builtin .clear,args,ts⟩,ty,pos,af,g⟩ F s Q:=by
 obtain⟨m,rfl⟩:∃j,m=j+1:=⟨m-1,by omega⟩
 refine zA (v:=.tuple ⟨[]⟩) (s':=s.put b (some (.cells c' h))) ?_ k
 have l:xy b off (kq [z] (m+1)) s=.ok .skip (s.put b (some (.cells c' h))):=by
  unfold xy
  simp only[hg,XR hp,a,f,Bool.and_self]
 simp only[zh,xp,n,ha,qB,hx,Z6,hu,i,o,l]
 rfl
set_option maxHeartbeats 4000000 in
set_option maxRecDepth 20000 in
theorem zfh{I:zU}(L:zH I){s0 s:St}{A B:Hp'}{b cap n:Nat}{l:List Int}(H:HL [] s0 s (A++(b,.cells (wu l) 3)::B) n)(y:s0.next+n≤zw)(hcap:cap / 2=l.length)(h0:0<l.length)(hlen:l.length≤1000000) :
 ∃v s',vo Tryz.prog I 78 #[.slice (some ⟨b,0,none⟩) l.length cap] s v s' ∧
  ∃cap' rest,v=.slice (some ⟨b,0,none⟩) (vM l l.length).length cap'∧(vM l l.length).length≤cap' / 2∧HL [] s0 s' (A++(b,.cells (wu (vM l l.length)++rest) 3)::B) n:=by
 obtain⟨hu,inf,z',d,hsz,-,-,-,-⟩:=yY uW
 have hzl:(wu l).length=l.length:=bI _
 refine qD 1 (L 78) Tryz.func78 rfl fb78 rfl ?_
 refine zg (zO (zb (zL (zg (zx rfl (qX hu rfl rfl rfl (kA rfl rfl (fun h=>?_) (fun h=>?_))))))))
 ·refine zb (yN rfl (zg (zx rfl (yq rfl (zb (qH (qp (xD (uH ?_)))))))))
  have e1:l.length=1:=by omega
  have e2:vM l l.length=l:=by
   obtain⟨x,rfl⟩:=List.length_eq_one_iff.mp e1
   rfl
  rw[e2]
  exact⟨cap,[],rfl,by omega,by rw[bM];exact H⟩
 refine zb (ye rfl (yo (zn (zL (zg (zO (zb (yj (kP (fun m F s1=>∃(G:FF) (k:Nat),F=lay G [(0,.slice (some ⟨b,0,none⟩) l.length cap),(3,.int .i64 (k:Int))]∧HL [] s0 s1 (A++(b,.cells (wu l) 3)::B) n∧1≤k∧k≤l.length∧m=l.length-k∧vM l k=l.take k) ?_ (l.length-1) _ _ ?_)))))))))
 rotate_left
 ·refine⟨_,1,slots ⟨rfl,rfl,trivial⟩,H,by omega,by omega,by omega,?_⟩
  show [l.getD 0 0]=_
  rw[jU h0];rfl
 clear H
 rintro m F s1 ⟨G,k,rfl,H,hk1,hk2,rfl,hc⟩
 refine zL (zg (zf rfl (zx rfl (qX hu rfl rfl rfl (kA rfl rfl (fun h2=>?_) (fun h2=>?_))))))
 rotate_left
 ·obtain rfl:k=l.length:=by omega
  refine zb (ye rfl (qw (xG (xv (xI (zn (zg (zx rfl (yq rfl (zb (qH ?_)))))))))))
  refine xD (uH ?_)
  rw[hc,aY]
  exact⟨cap,[],rfl,by omega,by rw[bM];exact H⟩
 have hg:=H.ownA
 have e:b<zw:=by have h1:=(H.own (b,.cells (wu l) 3) Y8).2.1;have h2:=H.most;simp only at h1;omega
 refine zb (yN rfl (yo (zn (zL (yj (vQ [⟨0,0,.light,[8]⟩,⟨1,0,.light,[8]⟩,⟨2,3,.light,[8]⟩,⟨3,7,.light,[8]⟩,⟨4,0,.light,[3]⟩,⟨5,0,.light,[3]⟩,⟨6,32,.light,[3]⟩,⟨7,112,.light,[3]⟩,⟨8,240,.light,[3]⟩,⟨9,511,.light,[]⟩] Z0 Z0 (za rfl rfl (zx rfl ⟨rfl,(za rfl rfl (zf rfl ⟨rfl,(za rfl rfl (z7 Jj rfl rfl Oz Oz ⟨rfl,(yL rfl rfl sh3d rfl hg e (v:=.int .i64 (l.getD k 0)) (by rw[Int.toNat_natCast,cG,cA];exact uN Oz) (za rfl rfl (zx rfl ⟨rfl,?_⟩)))⟩))⟩))⟩))))))))
 refine za rfl rfl (zf rfl ⟨rfl,(za rfl rfl (wa rfl rfl (by unfold yy;omega) ⟨rfl,(za rfl rfl (z7 Jj rfl rfl Oz Oz ⟨rfl,(yL rfl rfl sh3d rfl hg e (v:=.int .i64 (l.getD (k-1) 0)) (by rw[show((k:Int)-1).toNat=k-1 by omega,cG,cA];exact uN Oz) ?_)⟩))⟩))⟩)
 have a:vM l (k+1)=if l.getD k 0=l.getD (k-1) 0 then vM l k else vM l k++[l.getD k 0]:=by
  rw[vM,aD Oz]
 refine za rfl rfl (Xl rfl rfl (fun o=>⟨rfl,?_⟩) (fun o=>⟨rfl,?_⟩))
 rotate_left
 ·rw[aD o,hc,←jU Oz]at a
  refine yV (ye rfl (yo (xc (zn (zQ (zf rfl (xX rfl rfl (by unfold yy;omega) (z4 rfl (zb (yA ?_))))))))))
  exact⟨l.length-(k+1),by omega,_,k+1,slots ⟨rfl,rfl,trivial⟩,H,by omega,by omega,rfl,a⟩
 rw[aF o,hc]at a
 refine yV (yN rfl (zg (zx rfl (zf rfl ?_))))
 obtain⟨off2,cap2,g1,g2,g3,e2⟩:=ko (s:=s1) (t:=22) (lo:=some (.int .i64 (k:Int))) (hi:=none) (len:=l.length) (cap:=cap) hu d hg vS rfl Oz Oz
 obtain rfl:off2=k:=by rcases g2 with h|h;rw[h,hsz,cG];omega
 refine zZ rfl (zA e2 (yq rfl (zb (zL (zg (zO (zb (yj (kP (fun m F s1=>∃(G:FF) (p j:Nat) (X:List Int),F=lay G [(0,.slice (some ⟨b,0,none⟩) l.length cap),(3,.int .i64 (p:Int)),(4,.slice (some ⟨b,off2,none⟩) (l.length-off2) cap2),(5,.int .i64 (j:Int))]∧HL [] s0 s1 (A++(b,.cells (wu X) 3)::B) n∧1≤j∧off2+j≤l.length∧m=l.length-off2-j∧X.length=l.length∧p<off2+j∧X.take p=vM l (off2+j)∧(∀q,off2+j≤q+1→X.getD q 0=l.getD q 0)) ?_ (l.length-off2-1) _ _ ?_)))))))))
 rotate_left
 ·exact⟨_,off2,1,l,slots ⟨rfl,rfl,rfl,rfl,trivial⟩,H,by omega,by omega,by omega,rfl,by omega,a.symm,fun q _=>rfl⟩
 clear H
 rintro m F s1 ⟨G,p,j,X,rfl,H,hj1,hj2,rfl,r,hp,c,g⟩
 have hg:=H.ownA
 refine zL (zg (zf rfl (zx rfl (qX hu rfl rfl rfl (kA rfl rfl (fun K=>?_) (fun K=>?_))))))
 ·refine zb (yN rfl (yo (zn (zL (yj (vQ [⟨0,0,.light,[8]⟩,⟨1,0,.light,[8]⟩,⟨2,3,.light,[8]⟩,⟨3,7,.light,[8]⟩,⟨4,0,.light,[3]⟩,⟨5,0,.light,[3]⟩,⟨6,32,.light,[3]⟩,⟨7,112,.light,[3]⟩,⟨8,240,.light,[3]⟩,⟨9,511,.light,[]⟩] Z0 Z0 (za rfl rfl (zx rfl ⟨rfl,(za rfl rfl (zf rfl ⟨rfl,(za rfl rfl (z7 Jj rfl rfl Oz Oz ⟨rfl,(yL rfl rfl sh3d rfl hg e (v:=.int .i64 (l.getD (off2+j) 0)) (by rw[Int.toNat_natCast,cG,uN Oz,g _ Oz]) (za rfl rfl (zx rfl ⟨rfl,?_⟩)))⟩))⟩))⟩))))))))
  refine za rfl rfl (zf rfl ⟨rfl,(za rfl rfl (wa rfl rfl (by unfold yy;omega) ⟨rfl,(za rfl rfl (z7 Jj rfl rfl Oz Oz ⟨rfl,(yL rfl rfl sh3d rfl hg e (v:=.int .i64 (l.getD (off2+j-1) 0)) (by rw[show off2+((j:Int)-1).toNat*1=off2+j-1 by omega,uN Oz,g _ Oz]) ?_)⟩))⟩))⟩)
  have a:vM l (off2+j+1)=if l.getD (off2+j) 0=l.getD (off2+j-1) 0 then vM l (off2+j)else vM l (off2+j)++[l.getD (off2+j) 0]:=by
   rw[vM,aD Oz]
  refine za rfl rfl (op_neq rfl rfl (fun w=>⟨rfl,?_⟩) (fun w=>⟨rfl,?_⟩))
  ·rw[aD w]at a
   refine yV (yN rfl (zg (zx rfl (zf rfl (zx rfl (zf rfl (z7 Jj rfl rfl Oz Oz (yc sh3d rfl hg (v:=.int .i64 (l.getD (off2+j) 0)) (by rw[Int.toNat_natCast,cG,uN Oz,g _ Oz]) (z7 Jj rfl rfl Oz Oz (op_storeA (A:=A) (vs:=[.int .i64 (l.getD (off2+j) 0)]) H sz3d rfl rfl rfl rfl (by rw[Int.toNat_natCast,cG,cA];exact zbd Oz) y (fun s2 H=>?_)))))))))))
   refine zb (zQ (zf rfl (xX rfl rfl (by unfold yy;omega) (z4 rfl (zb (xc (zn (zQ (zf rfl (xX rfl rfl (by unfold yy;omega) (z4 rfl ?_)))))))))))
   refine zb (yA (⟨l.length-off2-(j+1),by omega,_,p+1,j+1,X.set p (l.getD (off2+j) 0),slots ⟨rfl,rfl,rfl,rfl,trivial⟩,H,by omega,by omega,rfl,by rw[bP];exact r,by omega,?_,fun q M=>?_⟩))
   ·rw[show off2+(j+1)=off2+j+1 by omega,a,←c,jU V3,List.take_set_of_le (aO _),aC,List.getElem?_set_self Oz]
    rfl
   ·rw[aC,List.getElem?_set_ne Oz,←aC]
    exact g q Oz
  ·rw[aF Oz]at a
   refine yV (ye rfl (yo (xc (zn (zQ (zf rfl (xX rfl rfl (by unfold yy;omega) (z4 rfl (zb (yA ?_))))))))))
   exact⟨l.length-off2-(j+1),by omega,_,p,j+1,X,slots ⟨rfl,rfl,rfl,rfl,trivial⟩,H,by omega,by omega,rfl,r,by omega,by rw[c];exact a.symm,fun q M=>g q Oz⟩
 have E:off2+j=l.length:=by omega
 rw[E]at c hp
 have u:(vM l l.length).length=p:=by rw[←c,bU];omega
 refine zb (ye rfl (qw (xG (xv (xI (zn (zg (zx rfl (zf rfl ?_)))))))))
 obtain⟨off4,cap4,g7,J,g9,z⟩:=ko (s:=s1) (t:=22) (lo:=some (.int .i64 (p:Int))) (hi:=none) (len:=l.length) (cap:=cap) hu d hg vS rfl Oz Oz
 obtain rfl:off4=p:=by rcases J with h|h;rw[h,hsz,cG];omega
 refine zZ rfl (zA z ?_)
 have f:=(H.own (b,.cells (wu X) 3) Y8).2.2.1
 have hzX:(wu X).length=l.length:=by rw[←r];exact bI _
 have H2:=H.putAt A (.cells ((wu X).take off4++kq [.int .i64 0] (l.length-off4)) 3) y
 refine zZ rfl (op_clearN hu rfl rfl rfl Oz d zr3 rfl hg f (K6 (by rw[WG];omega)) (zb (zg (zx rfl (zf rfl ?_)))))
 obtain⟨off5,cap5,g10,g11,i,C⟩:=ko (t:=22) (lo:=none) (hi:=some (.int .i64 (off4:Int))) (len:=l.length) (cap:=cap) hu d H2.ownA rfl vS (cJ _) Oz
 obtain rfl:=i rfl
 refine zZ rfl (zA C (yq rfl (zb (qH (vf (qp (gg (vf (qp (xD (uH (⟨cap5,kq [.int .i64 0] (l.length-off4),by rw[u];rfl,by omega,?_⟩))))))))))))
 have D:(wu X).take off4=wu (X.take off4):=by rw[wu,wu,List.map_take]
 rw[←c,←D]
 exact H2
section
variable{W:Wd}{Q:Qs}
theorem PsR.len:∀{ps:List Pv} {vs:List Value},PsR W Q ps vs→vs.length=ps.length
 | [],vs,h=>by rw[show vs=[]from h];rfl
 |p::ps,vs,⟨v,r,e,_,h⟩=>by rw[e,aW,aW,h.len]
end
def zbK(Q:Qs)(g:FuncId):FuncId:=match Nat.ble zu g with
 |true=>match Q[g-zu]? with
  |some q=>zu+q.2
  |none=>g
 |false=>g
theorem jx{Q:Qs}{g:FuncId}(h:Nat.ble zu g=false):zbK Q g=g:=by unfold zbK;rw[h]
theorem zbJ{Q:Qs}{j:Nat}{q:Value×Nat}(h:Q[j]? = some q):zbK Q (zu+j)=zu+q.2:=by
 unfold zbK
 rw[aZ (Nat.le_add_right ..),eS,h]
def Qi{ρ:Type}(I:zU)(W:Wd)(s0:St)(inl:Inl ρ)(rc:Nat):Prop:=
 ∀⦃g:FuncId⦄ ⦃a:List Ob⦄ ⦃lent:Nat⦄ ⦃ps:List Pv⦄ ⦃objs:List Ob⦄ ⦃k:Pv→List Ob→Option ρ⦄ ⦃r:ρ⦄,inl g a lent ps objs k=some r →
 ∀⦃QL:Qs⦄ ⦃s:St⦄ ⦃stk:List Fra⦄ ⦃m:Nat⦄ ⦃Q:Qs⦄ ⦃O:List (Option MObj)⦄ ⦃L Φ:Hp'⦄ ⦃n:Nat⦄ ⦃F:FF⦄ ⦃vs:List Value⦄,GX QL W s0 s ⟨[],a,n,lent⟩ stk ⟨[],objs⟩ F m Q O L Φ→n=objs.length→PsR (W.x Φ) Q ps vs→s0.next+(m+rc)≤zw →
 ∀⦃Post:Value→St→Prop⦄,(∀p v o s' b Q' d c Φ',b≤m+rc→GX QL W s0 s' ⟨[],a,n,lent⟩ stk ⟨[],o⟩ F b Q' d c Φ'→PvR (W.x Φ') Q' p v→k p o=some r→Post v s')→∃v s',vo Tryz.prog I (zbK Q g) ⟨vs⟩ s v s'∧Post v s'
section
variable{W W':Wd}{Q Q':Qs}{n:Nat}
theorem LfR.back(hn:Q.length≤n∨True){Q0:Qs}{W0:Wd}{x:Lf}{c0 c:List Value}{a:Nat}(h0:LfR W0 (Q0.take a) x c0)(h:LfR W Q x c):LfR W (Q.take a) x c:=by
 have key:∀(j:Nat) q0,(Q0.take a)[j]? = some q0→∀q,Q[j]? = some q→(Q.take a)[j]? = some q:=fun j q0 h1 q h2=>by
  rw[List.getElem?_take]at h1 ⊢
  split at h1
  ·next hj=>rw[aF hj];exact h2
  ·cases h1
 cases x with
 |own j=>obtain⟨q0,h1,_⟩:=h0;obtain⟨q,h2,b⟩:=h;exact⟨q,key _ _ h1 _ h2,b⟩
 |ptr j off=>obtain⟨q0,h1,_⟩:=h0;obtain⟨q,h2,b⟩:=h;exact⟨q,key _ _ h1 _ h2,b⟩
 |op j w i off=>obtain⟨q0,h1,_⟩:=h0;obtain⟨q,h2,b⟩:=h;exact⟨q,key _ _ h1 _ h2,b⟩
 |yl j=>obtain⟨q0,h1,_⟩:=h0;obtain⟨q,h2,b⟩:=h;exact⟨q,key _ _ h1 _ h2,b⟩
 |asl j n=>obtain⟨q0,h1,_⟩:=h0;obtain⟨q,h2,b⟩:=h;exact⟨q,key _ _ h1 _ h2,b⟩
 |cl f js=>
  obtain⟨cs0,d,h0⟩:=h0
  obtain⟨cs,e,h⟩:=h
  refine⟨cs,e,?_⟩
  clear e d
  induction js generalizing cs0 cs with
  |nil=>exact h
  |cons j js k=>
   obtain⟨q0,c0',h1,_,h2⟩:=h0
   obtain⟨q,c',b,e,g⟩:=h
   exact⟨q,c',key _ _ h1 _ b,e,k _ h2 _ g⟩
 |_=>exact h
theorem LsR.back{Q0:Qs}{W0:Wd}{a:Nat}:∀{x:List Lf} {c0 c:List Value},LsR W0 (Q0.take a) x c0→LsR W Q x c→LsR W (Q.take a) x c
 | [],_,_,_,h=>h
 |_::_,_,_,⟨_,_,_,h1,h2⟩,⟨b,d,e,f,g⟩=>⟨b,d,e,LfR.back (n:=0) (.inr trivial) h1 f,LsR.back h2 g⟩
theorem QR.back{W W0:Wd}{Q Q0:Qs}{a:Nat}{p:Bool×List Lf}{d v:Value}(h0:QR W0 (Q0.take a) p d)(h:QR W Q p v):QR W (Q.take a) p v:=by
 obtain⟨g,l⟩:=p
 cases g with
 |true=>obtain⟨c0,_,h0⟩:=h0;obtain⟨c,e,h⟩:=h;exact⟨c,e,LsR.back h0 h⟩
 |false=>
  obtain⟨x0,b,h0⟩:=h0
  obtain⟨x,e,h⟩:=h
  simp only at b e
  subst b
  cases e
  exact⟨_,rfl,LfR.back (n:=0) (.inr trivial) h0 h⟩
theorem TsR.back{W W0:Wd}{Q Q0:Qs}{a:Nat}:∀{l:List (Bool×List Lf)} {d v:List Value},TsR W0 (Q0.take a) l d→TsR W Q l v→TsR W (Q.take a) l v
 | [],_,_,_,h=>h
 |_::_,_,_,⟨_,_,_,h1,h2⟩,⟨x,r,e,b,c⟩=>⟨x,r,e,QR.back h1 b,TsR.back h2 c⟩
theorem PvR.back{W W0:Wd}{Q Q0:Qs}{a:Nat}{p:Pv}{b v:Value}(h0:PvR W0 (Q0.take a) p b)(h:PvR W Q p v):PvR W (Q.take a) p v:=by
 cases p with
 |undef=>exact h
 |any=>trivial
 |one x=>exact LfR.back (n:=0) (.inr trivial) h0 h
 |agg l=>obtain⟨_,_,h0⟩:=h0;obtain⟨c,e,h⟩:=h;exact⟨c,e,LsR.back h0 h⟩
 |tup l=>obtain⟨_,_,h0⟩:=h0;obtain⟨c,e,h⟩:=h;exact⟨c,e,TsR.back h0 h⟩
 |clo f l=>obtain⟨_,_,h0⟩:=h0;obtain⟨c,e,h⟩:=h;exact⟨c,e,LsR.back h0 h⟩
theorem SvF.back{W W0:Wd}{Q Q0:Qs}{a:Nat}{l:List (Nat×Pv)}{b F:FF}(h0:SvF W0 (Q0.take a) l b)(h:SvF W Q l F):SvF W (Q.take a) l F:=fun p hp=>PvR.back (h0 p hp) (h p hp)
theorem ObjR.back{Q0:Qs}{W0:Wd}{a:Nat}{b:Ob}{q0 q:Value×Nat}{f o:Option MObj}(h0:ObjR W0 (Q0.take a) b q0 f)(h:ObjR W Q b q o):ObjR W (Q.take a) b q o:=by
 cases b with
 |cells l=>obtain⟨_,_,_,h0⟩:=h0;obtain⟨c,t,e,h⟩:=h;exact⟨c,t,e,LsR.back h0 h⟩
 |loop=>obtain⟨_,_,_,_,_,h0⟩:=h0;obtain⟨g1,fr,d,e,ha,h⟩:=h;exact⟨g1,fr,d,e,ha,SvF.back h0 h⟩
 |_=>exact h
theorem gE:∀{a c:List Ob} {i:Nat} {b:Ob},(gG a c)[i]? = some b→(a[i]? = some .const∧c[i]? = some b)∨(a[i]? = some b)
 | [],[],i,b,h=>by cases h
 | [],_::_,i,b,h=>by cases h
 |o::r,[],i,b,h=>.inr (by cases o<;>exact h)
 |o::r,d::s,0,b,h=>by cases o<;>first|exact .inl ⟨rfl,h⟩|exact .inr h
 |o::r,d::s,i+1,b,h=>by
  have:(gG r s)[i]? = some b:=by cases o<;>exact h
  simpa only[cQ]using gE this
theorem ZY:∀{a c:List Ob} {i:Nat} {b:Ob},a[i]? = some .const→c[i]? = some b→(gG a c)[i]? = some b
 | [],_,i,b,h,_=>by cases h
 |o::r,[],i,b,_,h=>by cases h
 |o::r,d::s,0,b,h,f=>by cases h;exact f
 |o::r,d::s,i+1,b,h,f=>by
  have:=ZY (a:=r) (c:=s) (i:=i) (b:=b) h f
  cases o<;>exact this
theorem XD:∀{a c:List Ob} {i:Nat},wH a c=true→c[i]? = some .const→a[i]? = some .const
 | [],[],i,h,b=>by cases b
 |o::r,[],i,h,b=>by cases b
 | [],p::s,0,h,b=>by cases b;cases h
 | [],p::s,i+1,h,b=>by
  simp only[wH,aG]at h
  have:=XD (a:=[]) (i:=i) h.2 b
  cases this
 |o::r,p::s,0,h,b=>by
  cases b
  simp only[wH,kM,eJ,Bool.false_or,aG]at h
  cases o<;>first|rfl|(simp[kM]at h)
 |o::r,p::s,i+1,h,b=>by
  simp only[wH,aG]at h
  exact XD (a:=r) (c:=s) (i:=i) h.2 b
end
section
variable{W:Wd}{s0 s:St}{C:Cx}{QL:Qs}{stk:List Fra}{e:En}{F:FF}{m:Nat}{Q:Qs}{O:List (Option MObj)}{L Φ:Hp'}
theorem gl{α β:Type}{f:α→β}:∀{l:List α},(l.map fun x=>[f x]).flatten=l.map f
 | []=>rfl
 |x::l=>by simp only[List.map_cons,cU,gl,List.singleton_append]
theorem GX.evs(G:GX QL W s0 s C stk e F m Q O L Φ):∀{ops:List Operand} {ps:List Pv},e.evs C ops=some ps→PsR (W.x Φ) Q ps (qB (zd F) ops)
 | [],ps,h=>by cases h;rfl
 |x::l,ps,h=>by
  simp only[En.evs]at h
  split at h
  ·next v vs hv a=>cases h;exact⟨zd F x,qB (zd F) l,rfl,G.ev hv,G.evs a⟩
  ·cases h
theorem PsR.app{W:Wd}{Q:Qs}:∀{a b:List Pv} {v w:List Value},PsR W Q a v→PsR W Q b w→PsR W Q (a++b) (v++w)
 | [],b,v,w,h,c=>by rw[show v=[]from h];exact c
 |p::a,b,v,w,⟨x,r,e,h1,h2⟩,c=>⟨x,r++w,by rw[e];rfl,h1,PsR.app h2 c⟩
theorem PsR.caps{W:Wd}{Q:Qs}:∀{l:List Lf} {cs:List Value},LsR W Q l cs→(l.all fun x=>Nat.beq x.w 1)=true→PsR W Q (l.map .one) cs
 | [],cs,h,_=>h
 |x::l,cs,⟨c1,b,e,h1,h2⟩,a=>by
  simp only[List.all_cons,aG]at a
  have hl:=h1.len
  rw[aJ a.1]at hl
  obtain⟨v,rfl⟩:=List.length_eq_one_iff.mp hl
  exact⟨v,b,e,h1,PsR.caps h2 a.2⟩
theorem PsR.mono{W W':Wd}{Q Q':Qs}(c:WLe W W')(b:QLe Q Q'):∀{a:List Pv} {v:List Value},PsR W Q a v→PsR W' Q' a v
 | [],v,h=>h
 |p::a,v,⟨x,r,e,h1,h2⟩=>⟨x,r,e,h1.mono c b,PsR.mono c b h2⟩
theorem GX.enter(G:GX QL W s0 s C stk e F m Q O L Φ)(d:FF):GX QL W s0 s ⟨[],gG e.objs C.objs,e.objs.length,C.lent⟩ (⟨e.slots,F,Q.length,[]⟩::⟨C.slots,F,C.n,[]⟩::stk) ⟨[],e.objs⟩ d m Q O L Φ:=
 {G with
  cn:=by rw[G.len];exact aO _
  ln:=by rw[G.len];exact bH G.ln G.cn
  cob:=fun i b q o h0 a h1 h2=>by
   simp only at h0 a ⊢
   rw[G.len,aY]
   rcases gE a with⟨c,g⟩|c
   ·exact(G.cob i b q o c g h1 h2).mono WLe.rfl QLe.take
   ·exact G.obj i b q o c h1 h2
  slots:=fun _ h=>nomatch h
  cslots:=fun _ h=>nomatch h
  stk:=fun f hf=>by
   simp only
   rcases aL.mp hf with rfl|hf
   ·exact⟨by simp only[G.len,aO],by simp only[aY];exact G.slots,List.nil_subset _⟩
   ·rcases aL.mp hf with rfl|hf
    ·exact⟨by simp only[G.len];exact G.cn,G.cslots,List.nil_subset _⟩
    ·obtain⟨h1,h2⟩:=G.stk f hf
     exact⟨by rw[G.len];exact bH h1 G.cn,h2⟩}
theorem GX.exit(G:GX QL W s0 s C stk e F m Q O L Φ){j F'':FF}{s':St}{h:Nat}{Q':Qs}{g:List (Option MObj)}{d Φ':Hp'}{o:List Ob}
 (G':GX QL W s0 s' ⟨[],gG e.objs C.objs,e.objs.length,C.lent⟩ (⟨e.slots,F,Q.length,[]⟩::⟨C.slots,F,C.n,[]⟩::stk) ⟨[],o⟩ j h Q' g d Φ') (hc:wH e.objs o=true):GX QL W s0 s' C stk {e with objs:=o} F h Q' g d Φ':=
 {G' with
  cn:=by have h1:=G'.cn;have h2:=G.cn;simp only at h1;rw[G.len]at h1;omega
  ln:=G.ln
  cob:=fun i b q o h0 c h1 h2=>by
   have a:=XD hc h0
   have k:=G'.cob i b q o h0 (ZY a c) h1 h2
   have hi:i<Q.length:=by rw[←G.len];exact(aM.mp a).1
   have l:=G.cob i b _ _ a c (aE hi) (aE (by rw[G.oq];exact hi))
   exact ObjR.back l (k.mono WLe.rfl QLe.take)
  slots:=(G'.stk _ (aP ..)).2.1.mono WLe.rfl QLe.take
  cslots:=(G'.stk _ (aN _ (aP ..))).2.1
  stk:=fun f hf=>⟨(G.stk f hf).1,(G'.stk f (aN _ (aN _ hf))).2⟩}
theorem GX.frzNew(G:GX QL W s0 s C stk e F m Q O L Φ){j:Nat}{q:Value×Nat}{o o':MObj}(t:Q[j]? = some q)(ho:O[j]? = some (some o))(hj:C.lent≤j){A B:Hp'}(u:L=A++(q.2,o)::B){s':St}(H':HL [] s0 s' (A++(q.2,o')::B) m) :
 GX QL W s0 s' C stk (e.setO j .dead) F m Q (zE O j none) (A++(q.2,o')::B) ((q.2,o')::Φ):=by
 have G1:=G.drop j
 have l:WLe (W.x Φ) (W.x ((q.2,o')::Φ)):=vF fun p hp=>aN _ hp
 have k:∀p,p∈L→p.1≠q.2→p∈A++(q.2,o')::B:=fun p hp d=>by
  rw[u]at hp
  rcases aU.mp hp with h|h
  ·exact cE _ h
  ·rcases aL.mp h with rfl|h
   ·exact(d rfl).elim
   ·exact bE _ (aN _ h)
 have g:∀(i:Nat) a,(zE O j none)[i]? = some (some a)→i≠j∧O[i]? = some (some a):=fun i a h=>by
  rw[xY]at h
  split at h
  ·cases h
  ·next h1=>
   refine⟨fun e=>?_,h⟩
   subst e
   exact h1 ⟨rfl,(aM.mp h).1⟩
 have d:∀(i:Nat) c a,Q[i]? = some c→(zE O j none)[i]? = some (some a)→c.2≠q.2:=fun i c a h1 h2 he=>(g i a h2).1 (G.inj i j c q a o h1 t (g i a h2).2 ho he)
 exact{G1 with
  H:=H'
  fro:=fun p hp=>by
   rcases aL.mp hp with rfl|hp
   ·exact bE _ (aP ..)
   ·exact k p (G.fro hp) (G.dis j q o p hj t ho hp)
  own:=fun i c a h1 h2 hi=>k _ (G.own i c a h1 (g i a h2).2 hi) (d i c a h1 h2)
  lent:=fun i c a h1 h2 hi=>by
   obtain⟨g1,g2⟩:=G.lent i c a h1 (g i a h2).2 hi
   exact⟨by rw[H'.get g2,←G.H.get g2];exact g1,g2⟩
  dis:=fun i c a p hi h1 h2 hp=>by
   rcases aL.mp hp with rfl|hp
   ·exact fun he=>d i c a h1 h2 he.symm
   ·exact G.dis i c a p hi h1 (g i a h2).2 hp
  obj:=fun i b c a h0 h1 h2=>(G1.obj i b c a h0 h1 h2).mono l QLe.rfl
  cob:=fun i b c a h0 r h1 h2=>(G1.cob i b c a h0 r h1 h2).mono l QLe.rfl
  slots:=G.slots.mono l QLe.rfl
  cslots:=G.cslots.mono l QLe.rfl
  stk:=fun f hf=>⟨(G.stk f hf).1,(G.stk f hf).2.1.mono l QLe.rfl,fun p hp=>aN _ ((G.stk f hf).2.2 hp)⟩}
theorem GX.good(G:GX QL W s0 s C stk e F m Q O L Φ):k8 QL W s0 s C stk e F m:=⟨_,_,_,_,G⟩
end
section
variable{I:zU}{T:FuncId→Option Con}{ρ:Type}{inl:Inl ρ}{rc:Nat}{W:Wd}{s0 s:St}{C:Cx}{QL:Qs}{stk:List Fra}{e:En}{F:FF}{m:Nat}{Q:Qs}{O:List (Option MObj)}{L Φ:Hp'}
theorem zgx{W W':Wd}{Q:Qs}{τ:Ty}{x:τ.T}{v:Value}{p:Pv}(h:RepV W τ v x)(hp:maskP τ x=some p):PvR W' Q p v:=by
 unfold maskP at hp
 split at hp
 ·cases hp
  obtain⟨v1,v2,rfl,h1,h2⟩:=h
  obtain⟨a,cap,L,e1,_⟩:=(show Rep W (.sl _ _ _) [v1] _ from h1)
  refine⟨_,rfl,v1,[v2],rfl,⟨_,rfl,v1,rfl,by rw[(List.cons.inj e1).1];rfl⟩,v2,[],rfl,⟨_,rfl,?_⟩,rfl⟩
  rw[show v2=.bool _ from h2]
  rfl
 ·cases hp
theorem VH(hI:zH I)(hT:Qz I T)(hin:Qi I W s0 inl rc)(G:GX QL W s0 s C stk e F m Q O L Φ){st:Bool}{d:Option Nat}{g:FuncId}{ops:List Operand}{caps:List Lf}{cs:List Value}{k:En→Option ρ}{r:ρ}{R:Nat}(hlow:Nat.ble zu g=false)
 (K:LsR (W.x Φ) Q caps cs) (hw:(caps.all fun x=>Nat.beq x.w 1)=true) (h:callK T inl rc C st e d g ops caps k=some r) (hR:∀con,T g=some con→st=true→con.room≤R) (hR2:T g=none∨st=false→rc≤R) (hB:s0.next+(m+R)≤zw)
 {P:FF→St→Prop} (hk:∀J F' s' m',m'≤m+R→k8 QL W s0 s' C stk J F' m'→k J=some r→P F' s') :
 ∃v s',vo Tryz.prog I g ⟨qB (zd F) ops++cs⟩ s v s'∧P (upd F d v) s':=by
 unfold callK at h
 split at h
 ·next ps hps=>
  split at h
  ·next con u=>
   split at h
   ·next e1 hf hst=>
    simp only[aG,dA]at hst
    have hroom:con.room≤R:=by
     rcases hst.1 with h1|h1
     ·exact hR _ u h1
     ·cases st with
      |true=>exact hR _ u rfl
      |false=>exact bH (aR h1) (hR2 (.inr rfl))
    obtain⟨O1,Φ1,G1⟩:=G.frzP hf
    split at h
    ·next ps1 hps1=>
     split at h
     ·next x hx=>
      obtain⟨y,hy,h⟩:=zP h
      have hm:=G.H.most
      obtain⟨v,s',Z,D,H',hv⟩:=hT g con u G1.H.fine G1.see.kn (zef (G1.evs hps1) hx) hy Oz
      split at h
      ·obtain⟨p,hp,h⟩:=yR h
       obtain⟨J,G3,M⟩:=(G.call H').set (zgx hv hp) h
       refine⟨v,s',?_,hk J _ s' _ Oz G3.good M⟩
       rw[show cs=[]from K,bM]
       exact Z
      ·have G2:=G1.call H'
       have hp:=JP (Q:=Q) (RepV.mono (uT (dJ _ _) (List.subset_append_left _ _)) hv) hst.2
       obtain⟨J,G3,M⟩:=G2.set hp h
       refine⟨v,s',?_,hk J _ s' _ Oz G3.good M⟩
       rw[show cs=[]from K,bM]
       exact Z
     ·cases h
    ·cases h
   ·cases h
  ·next u=>
   have hrc:=hR2 (.inl u)
   split at h
   ·next h108=>
    obtain rfl:=aJ h108
    split at h
    ·next a=>
     split at h
     ·next ha=>
      obtain⟨n,rfl⟩:=Int.eq_ofNat_of_zero_le ha.1
      obtain⟨v,s',Z,⟨z,rfl⟩,rfl⟩:=zgB hI (s:=s) (n:=n) Oz
      obtain⟨J,G3,M⟩:=G.set (p:=.any) (v:=.int .i64 z) trivial h
      refine⟨_,_,?_,hk J _ s' m Oz G3.good M⟩
      obtain⟨v1,r1,e1,g1,g2⟩:=G.evs hps
      rw[e1,show cs=[]from K,show v1=_ from(List.cons.inj (show [v1]=_ from g1)).1,show r1=[]from g2]
      exact Z
     ·cases h
    ·cases h
   ·split at h
    ·next h307=>
     obtain rfl:=aJ h307
     split at h
     ·next j a b=>
      split at h
      ·next l E t=>
       have t:=aR t
       obtain⟨x,hx,h5⟩:=zP h
       unfold zcU at hx
       split at hx
       ·next hab=>
        cases hx
        obtain⟨h0,h1,rfl⟩:=hab
        obtain⟨i,rfl⟩:=Int.eq_ofNat_of_zero_le h0
        rw[zJ]at E
        have N:j<Q.length:=by rw[←G.len];exact(aM.mp E).1
        obtain⟨q,hq⟩:∃q,Q[j]? = some q:=⟨_,aE N⟩
        obtain⟨o,ho⟩:∃o,O[j]? = some o:=⟨_,aE (by rw[G.oq];exact N)⟩
        obtain⟨a',cap,hv,_,hn,hsz,Y,hY1,f,hY3,hY4⟩:=G.obj j _ q o E hq ho
        obtain⟨v1,r1,e1,⟨q',V,gv,_⟩,v2,r2,e2,g2,v3,r3,e3,g3,g4⟩:=G.evs hps
        rw[hq]at V;cases V
        have hYl:Y.flatten.length=l.length:=by rw[qU hY3,hY1,cG]
        have hil:i<l.length:=by omega
        have hYg:∀(k:Nat) x,l[k]? = some x→Y[k]? = some [Value.int .i64 x]:=fun k x hx=>by
         have hkl:=(aM.mp hx).1
         have:=hY4 k x hx
         have S:k<Y.length:=by omega
         rw[aC,aE S]at this
         rw[aE S]
         exact congrArg some this
        have hY:Y.flatten=l.map (Value.int .i64):=by
         have:Y=l.map fun x=>[Value.int .i64 x]:=List.ext_getElem? fun k=>by
          rw[List.getElem?_map]
          by_cases hk:k<l.length
          ·rw[aE hk,hYg k _ (aE hk)];rfl
          ·rw[cV Oz,cV Oz];rfl
         rw[this,gl]
        generalize hD:wl q.2 o=D at f
        generalize hsl:(Value.slice a' l.length cap)=sl at f
        generalize hc:Y.flatten=c at f hY hYl
        generalize hn':l.length=n at f
        cases f with
        |nil=>omega
        |block b' cap2 _ _ hl2 hcap2=>
         cases hsl
         cases o with
         |none=>cases hD
         |some o=>
          cases hD
          have U:=G.own j q _ hq ho t
          obtain⟨A,B,hL⟩:=dZ U
          have hm:=G.H.most
          obtain⟨v,s',Z,cap',rfl,hcap',H'⟩:=del_ok hI (A:=A) (B:=B) (b:=q.2) (cap:=cap) (i:=i) (l:=c) (by rw[←hL];exact G.H) Oz (by rw[hY,List.all_map,List.all_eq_true];intro x _;rfl) Oz Oz
          have G2:=G.frzNew hq ho t hL H'
          have hce:c.eraseIdx i=(l.eraseIdx i).map (Value.int .i64):=by rw[hY,List.eraseIdx_eq_take_drop_succ,List.eraseIdx_eq_take_drop_succ,List.map_append,List.map_take,List.map_drop]
          have hlen:c.length-1=(l.eraseIdx i).length:=by rw[hYl,List.length_eraseIdx,aF hil]
          have X:Rep (W.x ((q.2,.cells (c.eraseIdx i++[.int .i64 0]) 3)::Φ)) (.sl 3 1 (.int .i64)) [.slice (some ⟨q.2,0,none⟩) (c.length-1) cap'] (l.eraseIdx i):=by
           refine⟨_,cap',(l.eraseIdx i).map fun x=>[Value.int .i64 x],by rw[hlen],.inr (.block q.2 0 cap' _ (by rw[bI]) (aP ..) V4 fun k hk=>?_),by rw[bI],fun k x hx=>?_⟩
           ·rw[bI]at hk
            rw[cA,cG,yU,y7,hce,bZ,aQ,bI,aF (by simp;omega),List.drop_append_of_le_length V4,←List.map_drop,List.drop_eq_getElem_cons hk]
            simp only[List.map_cons,bV,List.take_succ_cons,List.take_zero,aC,List.getElem?_map,aE hk,cP,bL]
           ·simp only[aC,List.getElem?_map,hx,cP,bL]
            rfl
          unfold En.frzAs at h5
          obtain⟨J,G3,M⟩:=G2.set (p:=.one (.sl 3 1 (.int .i64) (l.eraseIdx i))) (v:=.slice (some ⟨q.2,0,none⟩) (c.length-1) cap') X h5
          refine⟨_,s',?_,hk J _ s' m Oz G3.good M⟩
          rw[e1,e2,e3,show r3=[]from g4,show cs=[]from K,show v1=q.1 from(List.cons.inj gv).1,show v2=_ from(List.cons.inj (show [v2]=_ from g2)).1,show v3=_ from(List.cons.inj (show [v3]=_ from g3)).1,hv]
          rw[hYl]at Z ⊢
          exact Z
       ·cases hx
      ·cases h
     ·cases h
    ·split at h
     ·next h78=>
      obtain rfl:=aJ h78
      split at h
      ·next j=>
       split at h
       ·next l E t=>
        have t:=aR t
        obtain⟨x,hx,h5⟩:=zP h
        unfold cpZ at hx
        split at hx
        ·next hab=>
         cases hx
         rw[zJ]at E
         have N:j<Q.length:=by rw[←G.len];exact(aM.mp E).1
         obtain⟨q,hq⟩:∃q,Q[j]? = some q:=⟨_,aE N⟩
         obtain⟨o,ho⟩:∃o,O[j]? = some o:=⟨_,aE (by rw[G.oq];exact N)⟩
         obtain⟨a',cap,hv,_,hn,hsz,Y,hY1,f,hY3,hY4⟩:=G.obj j _ q o E hq ho
         obtain⟨v1,r1,e1,⟨q',V,gv,_⟩,g4⟩:=G.evs hps
         rw[hq]at V;cases V
         have hY:Y.flatten=wu l:=by
          have:Y=l.map fun x=>[Value.int .i64 x]:=List.ext_getElem? fun k=>by
           rw[List.getElem?_map]
           by_cases hk:k<l.length
           ·have:=hY4 k _ (aE hk)
            have S:k<Y.length:=by omega
            rw[aC,aE S]at this
            rw[aE S,aE hk]
            exact congrArg some this
           ·rw[cV Oz,cV Oz];rfl
          rw[this,gl];rfl
         rw[hY]at f
         generalize hD:wl q.2 o=D at f
         generalize hsl:(Value.slice a' l.length cap)=sl at f
         generalize hc:wu l=c at f
         generalize hn':l.length=n at f
         cases f with
         |nil=>omega
         |block b' cap2 _ _ hl2 hcap2=>
          subst hc
          cases hsl
          cases o with
          |none=>cases hD
          |some o=>
           cases hD
           have U:=G.own j q _ hq ho t
           obtain⟨A,B,hL⟩:=dZ U
           have hm:=G.H.most
           obtain⟨v,s',Z,cap',rest,rfl,hcap',H'⟩:=zfh hI (A:=A) (B:=B) (b:=q.2) (cap:=cap) (l:=l) (by rw[←hL];exact G.H) Oz Oz hab.1 Oz
           have G2:=G.frzNew hq ho t hL H'
           generalize vM l l.length=x at *
           have X:Rep (W.x ((q.2,.cells (wu x++rest) 3)::Φ)) (.sl 3 1 (.int .i64)) [.slice (some ⟨q.2,0,none⟩) x.length cap'] x:=by
            refine⟨_,cap',x.map fun x=>[Value.int .i64 x],rfl,.inr (.block q.2 0 cap' _ (by rw[bI]) (aP ..) V4 fun k hk=>?_),by rw[bI],fun k y hy=>?_⟩
            ·rw[bI]at hk
             have hxl:(wu x).length=x.length:=bI _
             rw[cA,cG,yU,y7,bZ,aQ,hxl,aF Oz,List.drop_append_of_le_length Oz,wu,←List.map_drop,List.drop_eq_getElem_cons hk]
             simp only[List.map_cons,bV,List.take_succ_cons,List.take_zero,aC,List.getElem?_map,aE hk,cP,bL]
            ·simp only[aC,List.getElem?_map,hy,cP,bL]
             rfl
           unfold En.frzAs at h5
           obtain⟨J,G3,M⟩:=G2.set (p:=.one (.sl 3 1 (.int .i64) x)) (v:=.slice (some ⟨q.2,0,none⟩) x.length cap') X h5
           refine⟨_,s',?_,hk J _ s' m Oz G3.good M⟩
           rw[e1,show r1=[]from g4,show cs=[]from K,show v1=q.1 from(List.cons.inj gv).1,hv]
           rw[hn']at Z ⊢
           exact Z
        ·cases hx
       ·cases h
      ·cases h
     rw[←jx (Q:=Q) hlow]
     refine hin h (G.enter F) rfl ((G.evs hps).app (PsR.caps K hw)) Oz ?_
     intro p v o s' m' Q' O' L' Φ' hm' G' hp hk'
     split at hk'
     ·next hc=>
      have G2:=G.exit (F'':=F) G' hc
      obtain⟨J,G3,M⟩:=G2.set hp hk'
      exact hk J _ s' m' Oz G3.good M
     ·cases hk'
 ·cases h
end
section
variable{W:Wd}{D:Hp'}{Q:Qs}
theorem rep_ok{l:List Lf}{c:List Value}(h:LsR W Q l c):∀n,LsR W Q (repLf l n) (kq c n)
 |0=>rfl
 |n+1=>h.append (rep_ok h n)
end
section
variable{I:zU}{Γ:TypeId→Option Ty}{T:FuncId→Option Con}{ρ:Type}{inl:Inl ρ}{rc:Nat}{W:Wd}{s0 s:St}{C:Cx}{QL:Qs}{stk:List Fra}{e:En}{F:FF}{m:Nat}{Q:Qs}{O:List (Option MObj)}{L Φ:Hp'}
theorem Xu{t b:TypeId}{sz:Nat}{τ:Ty}{z:List Lf}(h:elK Γ t=some (b,sz,τ,z)):∃by_ a,ql Tryz.prog t=some (b,sz,by_,a)∧by_≤8000∧τ.sz=sz∧∀(W:Wd) (D:Hp') (Q:Qs),LsR (W.x D) Q z a:=by
 unfold elK at h
 split at h
 ·next el' sz' by_ a hs=>
  split at h
  ·next τ' hΓ=>
   split at h
   ·next l hb hl=>
    cases h
    simp only[aG]at hb
    exact⟨by_,a,hs,aR hb.2,aJ hb.1,fun W D Q=>jO hl⟩
   ·cases h
  ·cases h
 ·cases h
theorem GX.newK(G:GX QL W s0 s C stk e F m Q O L Φ)(f:s0.next+m<zw){o:MObj}{b:Ob}{v w:Value}{d:Option Nat}{k:En→Option ρ}{r:ρ}{l:Nat→Lf}(hb:ObjR (W.x Φ) (Q++[(v,s.next)]) b (v,s.next) (some o))(c:b≠.const)
 (hl:LfR (W.x Φ) (Q++[(v,s.next)]) (l e.objs.length) [w]) (h:En.new C e d b l k=some r):∃a,k8 QL W s0 (s.new o) C stk a (upd F d w) (m+1)∧k a=some r:=by
 have G1:=G.new f hb c
 unfold En.new at h
 rw[yd,bK]at h
 obtain⟨a,G2,h2⟩:=G1.set (p:=.one (l e.objs.length)) hl h
 exact⟨a,G2.good,h2⟩
theorem GX.nth(G:GX QL W s0 s C stk e F m Q O L Φ){q:Value×Nat}:(Q++[q])[e.objs.length]? = some q:=by rw[G.len];simp
abbrev reS(s s':St):St:={next:=s'.next,bar:=s.bar,prot:=s.prot,heap:=s'.heap}
theorem GX.move(G:GX QL W s0 s C stk e F m Q O L Φ){s':St}(H':HL [] s0 s' L m){j:Nat}{q:Value×Nat}{o:Option MObj}{bo:Ob}(u:Q[j]? = some q)(ho:O[j]? = some o)(hj:C.lent≤j)(hb:ObjR (W.x Φ) (Q++[q]) bo q o)(B:bo≠.const) :
 GX QL W s0 s' C stk {e with objs:=(e.setO j .dead).objs++[bo]} F m (Q++[q]) (zE O j none++[o]) L Φ:=by
 have G1:=G.drop j
 have hjq:j<Q.length:=(aM.mp u).1
 have t:∀{i:Nat} {y},(zE O j none++[o])[i]? = some (some y)→(i<Q.length∧i≠j∧O[i]? = some (some y))∨(i=Q.length∧some y=o):=fun{i y} h=>by
  rcases xF h with⟨h1,h2⟩|⟨h1,h2⟩
  ·rw[yE,G.oq]at h1
   rw[xY]at h2
   split at h2
   ·cases h2
   ·next c=>exact .inl ⟨h1,fun e=>by subst e;exact c ⟨rfl,by rw[G.oq];exact h1⟩,h2⟩
  ·rw[yE,G.oq]at h1;exact .inr ⟨h1,h2⟩
 have P:∀{i:Nat} {y},((e.setO j .dead).objs++[bo])[i]? = some y→(i<Q.length∧(e.setO j .dead).objs[i]? = some y)∨(i=Q.length∧y=bo):=fun h=>by
  have:=xF h;rwa[G1.len]at this
 exact{
  K:=G.K,H:=H'
  oq:=by simp[yE,G.oq]
  len:=by rw[aQ,G1.len];simp
  cn:=by have:=G.cn;simp;omega
  ln:=G.ln
  pre:=fun i hi=>by rw[bY (by have:=G.ln;have:=G.cn;omega)];exact G.pre i hi
  fro:=G.fro
  own:=fun i k d h1 h2 hi=>by
   rcases t h2 with⟨c,b,l⟩|⟨c,b⟩<;>rcases xF h1 with⟨g,a⟩|⟨g,a⟩<;>try omega
   ·exact G.own i k d a l hi
   ·subst a b;exact G.own j _ d u ho hj
  lent:=fun i k d h1 h2 hi=>by
   have:=G.ln;have:=G.cn
   rcases t h2 with⟨c,b,l⟩|⟨c,b⟩<;>rcases xF h1 with⟨g,a⟩|⟨g,a⟩<;>try omega
   obtain⟨g1,g2⟩:=G.lent i k d a l hi
   exact⟨by rw[H'.get g2,←G.H.get g2];exact g1,g2⟩
  inj:=fun i R k S d J h1 h2 c b he=>by
   rcases t c with⟨U,z,M⟩|⟨U,z⟩<;>rcases t b with⟨r,A,N⟩|⟨r,A⟩<;>rcases xF h1 with⟨V,v⟩|⟨V,v⟩<;>rcases xF h2 with⟨X,w⟩|⟨X,w⟩<;>try omega
   ·exact G.inj i R k S d J v w M N he
   ·subst w A;exact(z (G.inj i j k _ d J v u M ho he)).elim
   ·subst v z;exact(A (G.inj R j S _ J d w u N ho he.symm)).elim
  dis:=fun i k d p hi h1 h2 hp=>by
   rcases t h2 with⟨c,b,l⟩|⟨c,b⟩<;>rcases xF h1 with⟨g,a⟩|⟨g,a⟩<;>try omega
   ·exact G.dis i k d p hi a l hp
   ·subst a b;exact G.dis j _ d p hj u ho hp
  obj:=fun i r k d hb1 h1 h2=>by
   rcases P hb1 with⟨c,b⟩|⟨c,b⟩<;>rcases xF h1 with⟨l,g⟩|⟨l,g⟩<;>try omega
   ·rcases xF h2 with⟨a,n⟩|⟨a,n⟩
    ·exact(G1.obj i r k d b g n).mono WLe.rfl QLe.app
    ·rw[yE,G.oq]at a;omega
   ·rcases xF h2 with⟨a,n⟩|⟨a,n⟩
    ·rw[yE,G.oq]at a;omega
    ·subst g b n;exact hb
  cob:=fun i r k d E hb1 h1 h2=>by
   rw[List.take_append_of_le_length G.cn]
   rcases P E with⟨c,b⟩|⟨c,b⟩<;>rcases xF h1 with⟨l,g⟩|⟨l,g⟩<;>try omega
   ·rcases xF h2 with⟨a,n⟩|⟨a,n⟩
    ·exact G1.cob i r k d b hb1 g n
    ·rw[yE,G.oq]at a;omega
   ·exact(B b.symm).elim
  slots:=G.slots.mono WLe.rfl QLe.app
  cslots:=by rw[List.take_append_of_le_length G.cn];exact G.cslots
  stk:=fun f hf=>by
   obtain⟨h1,h2,c⟩:=G.stk f hf
   exact⟨h1,by rw[List.take_append_of_le_length (by have:=G.cn;omega)];exact h2,c⟩}
theorem app_ne{α:Type}{l m r:List α}{x:α}(h:app l (x::m)=some r):r.length≠0:=by
 obtain⟨rfl,_⟩:=gL h
 simp
theorem app_step{t t2 j el2:TypeId}{ts:List TypeId}{sz by_:Nat}{w:List Value}{a:Option Addr}{b n:Nat}{y:Value}{l:List Value}{S:St}(hs:ql Tryz.prog t=some (j,sz,by_,w))(q:Tryz.prog.underlying t2=some (.slice el2))(ha:a=none∨a=some ⟨b,0,none⟩∧S.get b=some (.cells [] j))(he:kS S sz y n l)(hp:l.all Go.M.plainCell=true)(hl:l.length=n*sz)(hb:n*(by_+1)≤1073741824)(i:S.room=true) :
 (n=0→∃o,xd Tryz.prog (t::t2::ts) [.slice a 0 0,y] S=.ok (.value (.slice a 0 0)) o∧(o=S∨S.may b=true∧a=some ⟨b,0,none⟩∧o=S.put b (some (.cells [] j)))) ∧
 (0<n→xd Tryz.prog (t::t2::ts) [.slice a 0 0,y] S=.ok (.value (.slice (some ⟨S.next,0,none⟩) n (2*n+1))) (S.new (.cells l j))):=by
 obtain⟨hu,inf,z',hi,rfl,rfl,hz,r,u⟩:=yY hs
 have c:=Zb q he
 constructor
 ·rintro rfl
  have p:l=[]:=by rw[eF]at hl;exact bO.mp hl
  subst p
  have h0:Nat.ble (0+0) (0 / 2)=true:=rfl
  rcases ha with rfl|⟨rfl,hg⟩
  ·exact⟨S,by simp only[xd,hu,hi,c,qg,h0];rfl,.inl rfl⟩
  ·cases v:S.may b with
   |true=>exact⟨_,by simp only[xd,hu,hi,c,qg,h0,xy,eF,bK,hg,List.all_nil,Bool.true_and,v,yO,xO];rfl,.inr ⟨rfl,rfl,rfl⟩⟩
   |false=>exact⟨S,by simp only[xd,hu,hi,c,qg,h0,xy,eF,bK,hg,List.all_nil,Bool.true_and,v,yO,xO];rfl,.inl rfl⟩
 ·intro hn
  have h0:Nat.ble (0+n) (0 / 2)=false:=by
   rw[cL];intro h;have:=aR h;omega
  have f:Zw inf (0+n) n l=true:=Vh (t:=t) (e:=j) r u (by rw[cA];exact hb) hp hl
  have k:wg j a 0 S=true:=rfl
  have d:xQ inf.size 0 (.slice a 0 0) S=some []:=by
   rcases ha with rfl|⟨rfl,hg⟩
   ·rfl
   ·simp only[xQ,hg,eF];rfl
  have g:X0 a 0 S=some S:=rfl
  simp only[xd,hu,hi,c,qg,h0,f,k,Bool.and_self,d,Zv,g,uK,i,cI]
  simp only[cA]
  rfl
theorem appD_ok(G:GX QL W s0 s C stk e F m Q O L Φ){d:Option Nat}{t t2 el2:TypeId}{ts:Array TypeId}{tr:List TypeId}{ag:Array Operand}{x y:Operand}{k:En→Option ρ}{r:ρ}{j t' w':Nat}{τ':Ty}{xs:List τ'.T}
 (hts:ts.toList=t::t2::tr) (has:ag.toList=[x,y]) (hu2:Tryz.prog.underlying t2=some (.slice el2)) (hx:e.ev C x=some (.one (.own j))) (hy:e.ev C y=some (.one (.sl t' w' τ' xs))) (h:zdp Γ C e d t (.one (.own j)) (.one (.sl t' w' τ' xs)) k=some r) (hB:s0.next+(m+1)≤zw) (E:∃t w τ,zF e.objs j=some (.list t w τ [])) :
 ∃v,∀bar prot,s.next≤bar→∃S1,zh Tryz.prog (zd F) (.call ⟨.builtin .append,ag,ts⟩) {next:=s.next,bar:=bar,prot:=prot,heap:=s.heap}=.ok (.value v) S1∧∃g,k8 QL W s0 (reS s S1) C stk g (upd F d v) (m+1)∧k g=some r:=by
 unfold zdp at h
 split at h
 ·next el sz τ z hel=>
  obtain⟨by_,zc,hs,hby,hsz,_⟩:=Xu hel
  simp only at h
  split at h
  ·next hh=>
   obtain⟨rfl,rfl,rfl⟩:=hh
   split at h
   ·next t2' w2 τ2 l0 V J=>
    obtain⟨t9,w9,τ9,E⟩:=E
    rw[J]at E
    cases E
    simp only[aG]at V
    have hlj:=aR V.1
    have hw1:=aR V.2
    split at h
    ·next hh2=>
     obtain⟨g1,g2,g3⟩:=hh2
     subst t2' w2 τ2
     obtain⟨rr,hrr,h⟩:=zP h
     obtain⟨N,hlen⟩:=gL hrr
     have N:rr=xs:=N
     subst rr
     simp only[wZ,List.length_nil,cA]at hlen
     rw[zJ]at J
     have hjq:j<Q.length:=by rw[←G.len];exact(aM.mp J).1
     obtain⟨q,hq⟩:∃q,Q[j]? = some q:=⟨_,aE hjq⟩
     obtain⟨o,ho⟩:∃o,O[j]? = some o:=⟨_,aE (by rw[G.oq];exact hjq)⟩
     obtain⟨a,cap,hv,hc0,hn,hw,Y,hY1,f,hY3,hY4⟩:=G.obj j _ q o J hq ho
     obtain rfl:=hc0 rfl
     have hex:zd F x=.slice a 0 0:=by
      obtain⟨q',h1,h2,_⟩:=G.ev hx
      rw[hq]at h1;cases h1
      rw[(List.cons.inj h2).1,hv];rfl
     have hY0:Y=[]:=bO.mp (by simpa using hY1)
     subst hY0
     obtain⟨ay,cy,Ly,e1,hS,B,R⟩:=G.ev hy
     have hey:=(List.cons.inj e1).1
     have K:=G.see.kn.s _ _ _ _ hS
     have U:∀x∈Ly,x.length=w':=fun x hx=>by
      obtain⟨i,hi,rfl⟩:=List.getElem_of_mem hx
      have X:i<xs.length:=by omega
      have:=(R i xs[i] (aE X)).len
      rw[aC,aE hi]at this
      exact this.trans hsz
     have hLp:Ly.flatten.all Go.M.plainCell=true:=by
      rw[List.all_eq_true]
      intro v hv
      obtain⟨c,hc,hv⟩:=List.mem_flatten.mp hv
      obtain⟨i,hi,rfl⟩:=List.getElem_of_mem hc
      have X:i<xs.length:=by omega
      have:=(R i xs[i] (aE X)).plain
      rw[aC,aE hi]at this
      exact(List.all_eq_true.mp this) v hv
     have hel2:∀S:St,S.heap=s.heap→kS S w' (zd F y) xs.length Ly.flatten:=fun S u=>by
      rw[hey,←B]
      obtain⟨g1,g2⟩:=K.elems U hw1
      rw[B]at g1 g2 ⊢
      refine⟨g1,?_⟩
      rw[←g2]
      simp only[xQ,St.get,u]
     have hab:∀S:St,S.heap=s.heap→a=none∨a=some ⟨q.2,0,none⟩∧S.get q.2=some (.cells [] t'):=fun S u=>by
      generalize hD:wl q.2 o=D at f
      generalize K:(Value.slice a ([]:List τ'.T).length 0)=sl at f
      generalize hcc:([]:List (List Value)).flatten=c at f
      generalize hn':([]:List τ'.T).length=n' at f
      cases f with
      |nil=>cases K;exact .inl rfl
      |block b' cap2 _ _ hl2 hcap2=>
       cases K
       cases o with
       |none=>cases hD
       |some o=>
        cases hD
        subst hcc
        refine .inr ⟨rfl,?_⟩
        have:=G.get hq ho
        simpa only[St.get,u,List.flatten_nil]using this
     have hmm:=G.H.most
     have hbl:xs.length*(by_+1)≤1073741824:=bH (eE hlen (Nat.succ_le_succ hby)) Uz
     have hfl:Ly.flatten.length=xs.length*w':=by rw[qU U,B]
     have A:∀S,zh Tryz.prog (zd F) (.call ⟨.builtin .append,ag,ts⟩) S=xd Tryz.prog (t::t2::tr) [.slice a 0 0,zd F y] S:=fun S=>by
      simp only[zh,xp,hts,has,qB,hex]
     have Z:∀S:St,S.next=s.next→S.room=true:=fun S u=>by
      rw[St.room,u];exact G.H.room Oz
     have hst:=fun(S:St) (h1:S.heap=s.heap) (h2:S.next=s.next)=>app_step (ts:=tr) (b:=q.2) hs hu2 (hab S h1) (hel2 S h1) hLp hfl hbl (Z S h2)
     cases hxs:xs.length with
     |zero=>
      -- it stays,under another number
      have hx0:xs=[]:=bO.mp hxs
      subst hx0
      have P:q.1=.slice a 0 0:=hv
      have fin:∀s1:St,HL [] s0 s1 L m→∃g,k8 QL W s0 s1 C stk g (upd F d (.slice a 0 0)) (m+1)∧k g=some r:=fun s1 H'=>by
       have G1:=G.move H' (bo:=.list t' w' τ' ([]:List τ'.T)) hq ho hlj ⟨a,0,hv,fun _=>rfl,hn,hw,[],hY1,f,hY3,hY4⟩ (fun h=>nomatch h)
       unfold En.new at h
       rw[yd,bK]at h
       have hnth:=(G.drop j).nth (q:=q)
       obtain⟨g,G2,h2⟩:=G1.set (p:=.one (.own (e.setO j .dead).objs.length)) (v:=.slice a 0 0) ⟨q,hnth,by rw[P],_,_,_,P⟩ h
       exact⟨g,⟨_,_,_,_,{G2 with H:=G2.H.up Oz}⟩,h2⟩
      refine⟨.slice a 0 0,fun bar prot hbar=>?_⟩
      ·obtain⟨S',h1,h2⟩:=(hst {next:=s.next,bar:=bar,prot:=prot,heap:=s.heap} rfl rfl).1 hxs
       refine⟨S',by rw[A];exact h1,?_⟩
       rcases h2 with rfl|⟨hm,rfl,rfl⟩
       ·exact fin _ G.H
       ·exfalso
        rcases hab s rfl with h|⟨_,hg⟩
        ·cases h
        ·cases o with
         |none=>cases f
         |some o=>
          have:=G.lt hq ho
          simp only[St.may,aG]at hm
          have:=aR hm.1
          omega
     |succ n=>
      have hpos:0<xs.length:=by omega
      have hv2:=fun(S:St) h1 h2=>(hst S h1 h2).2 hpos
      have how:OwnL (W.x Φ) t' w' τ' [(s.next,.cells Ly.flatten t')] (some ⟨s.next,0,none⟩) xs.length (2*xs.length+1) xs:=
       ⟨rfl,hsz,Ly,B,.block s.next _ _ _ hfl.symm Oz,U,R⟩
      have fin:∃g,k8 QL W s0 (s.new (.cells Ly.flatten t')) C stk g (upd F d (.slice (some ⟨s.next,0,none⟩) xs.length (2*xs.length+1))) (m+1)∧k g=some r:=by
       obtain⟨g,G1,h3⟩:=(G.drop j).newK Oz (o:=.cells Ly.flatten t') (v:=.slice (some ⟨s.next,0,none⟩) xs.length (2*xs.length+1)) (w:=.slice (some ⟨s.next,0,none⟩) xs.length (2*xs.length+1)) (b:=.list t' w' τ' xs) (l:=.own)
        ⟨_,_,rfl,(fun h0=>by omega),how⟩ (fun h=>nomatch h) ⟨_,(G.drop j).nth,rfl,_,_,_,rfl⟩ h
       exact⟨g,G1,h3⟩
      refine⟨.slice (some ⟨s.next,0,none⟩) xs.length (2*xs.length+1),fun bar prot hbar=>⟨_,by rw[A];exact hv2 _ rfl rfl,fin⟩⟩
    ·cases h
   ·cases h
  ·cases h
 ·cases h
theorem op_appNN{ty:TypeId}{pos:String}{af:Array Edge}{g:Option (Nat×Bool)}{d:Option Nat}{t t2 f el2:TypeId}{ts:Array TypeId}{tr:List TypeId}{ag:Array Operand}{x y:Operand}{sz by_:Nat}{h:List Value}{P:FF→St→Prop}(hs:ql Tryz.prog t=some (f,sz,by_,h))(c:Tryz.prog.underlying t2=some (.slice el2))(b:ts.toList=t::t2::tr)(a:ag.toList=[x,y])
 (hx:zd F x=.slice none 0 0) (he:kS s sz (zd F y) 0 []) (k:P (upd F d (.slice none 0 0)) s):OpW Tryz.prog I ⟨d,.call ⟨.builtin .append,ag,ts⟩,ty,pos,af,g⟩ F s P:=by
 obtain⟨hu,inf,z',hi,rfl,rfl,hz,hz1,hz2⟩:=yY hs
 refine zA (v:=.slice none 0 0) (s':=s) ?_ k
 have h0:Nat.ble (0+0) (0 / 2)=true:=rfl
 simp only[zh,xp,b,a,qB,hx,xd,hu,hi,Zb c he,qg,h0]
 rfl
theorem appF_ok(G:GX QL W s0 s C stk e F m Q O L Φ){d:Option Nat}{t t2 el2:TypeId}{ts:Array TypeId}{tr:List TypeId}{ag:Array Operand}{x y:Operand}{k:En→Option ρ}{r:ρ}{P:FF→St→Prop}{j t' w':Nat}{τ':Ty}{ty:TypeId}{pos:String}{af:Array Edge}{g:Option (Nat×Bool)}{xs:List τ'.T}
 (hts:ts.toList=t::t2::tr) (V:ag.toList=[x,y]) (hu2:Tryz.prog.underlying t2=some (.slice el2)) (hx:e.ev C x=some (.one (.own j))) (hy:e.ev C y=some (.one (.sl t' w' τ' xs))) (h:zdp Γ C e d t (.one (.own j)) (.one (.sl t' w' τ' xs)) k=some r) (hB:s0.next+(m+1)≤zw)
 (hk:∀e' F' s' m',m'≤m+1→k8 QL W s0 s' C stk e' F' m'→k e'=some r→P F' s'):OpW Tryz.prog I ⟨d,.call ⟨.builtin .append,ag,ts⟩,ty,pos,af,g⟩ F s P:=by
 unfold zdp at h
 split at h
 ·next el sz τ z hel=>
  obtain⟨by_,zc,hs,hby,hsz,_⟩:=Xu hel
  simp only at h
  split at h
  ·next hh=>
   obtain⟨rfl,rfl,rfl⟩:=hh
   split at h
   ·next t3 w3 τ3 l Z hoj=>
    simp only[aG]at Z
    have hlj:=aR Z.1
    have hw1:=aR Z.2
    split at h
    ·next hh2=>
     obtain⟨rfl,rfl,rfl⟩:=hh2
     obtain⟨M,hl',h'⟩:=zP h
     clear h
     rw[zJ]at hoj
     have hjq:j<Q.length:=by rw[←G.len];exact(aM.mp hoj).1
     obtain⟨N,u⟩:∃q,Q[j]? = some q:=⟨_,aE hjq⟩
     obtain⟨oj,n⟩:∃o,O[j]? = some o:=⟨_,aE (by rw[G.oq];exact hjq)⟩
     obtain⟨aj,cj,S,hc0,how⟩:=G.obj j _ N oj hoj u n
     have R:zd F x=.slice aj l.length cj:=by
      obtain⟨q',h1,h2,_⟩:=G.ev hx
      rw[u]at h1;cases h1
      rw[←S];exact(List.cons.inj h2).1
     obtain⟨ay,cy,Ly,e1,hS,w,hLr⟩:=G.ev hy
     have hey:=(List.cons.inj e1).1
     have hsl:=G.see.kn.s _ _ _ _ hS
     have hLw:∀x∈Ly,x.length=w3:=fun x hx=>by
      obtain⟨i,hi,rfl⟩:=List.getElem_of_mem hx
      have hi':i<xs.length:=by omega
      have:=(hLr i xs[i] (aE hi')).len
      rw[aC,aE hi]at this
      exact this.trans hsz
     have J:kS s w3 (zd F y) xs.length Ly.flatten:=by
      rw[hey,←w]
      have:=hsl.elems hLw hw1
      rw[w]at this ⊢
      exact this
     have Gj:=G.drop j
     -- the old block comes to the front
     obtain⟨L1,f,U⟩:∃L1,L.Perm (wl N.2 oj++L1)∧∀p,p∈L→(∀o,oj=some o→p.1≠N.2)→p∈L1:=by
      cases oj with
      |none=>exact⟨L,.refl _,fun p hp _=>hp⟩
      |some o=>
       obtain⟨A,B,rfl⟩:=dZ (G.own j N o u n hlj)
       refine⟨A++B,List.perm_middle,fun p hp hne=>?_⟩
       rcases aU.mp hp with h|h
       ·exact cE _ h
       ·rcases aL.mp h with rfl|h
        ·exact(hne o rfl rfl).elim
        ·exact bE _ h
     by_cases hxs:xs.length=0
     ·-- it stays,under another number
      have hx0:xs=[]:=bO.mp hxs
      subst hx0
      obtain rfl:M=l:=by
       obtain⟨e2,_⟩:=gL hl'
       rw[e2];exact bM _
      have hL0:Ly=[]:=bO.mp w
      subst hL0
      have fin:∀s1:St,HL [] s0 s1 L m→P (upd F d (.slice aj M.length cj)) s1:=fun s1 H'=>by
       have G1:=G.move H' (bo:=.list t3 w3 τ3 M) u n hlj ⟨aj,cj,S,hc0,how⟩ (fun h=>nomatch h)
       unfold En.new at h'
       rw[yd,bK]at h'
       have K:=(G.drop j).nth (q:=N)
       obtain⟨e',G2,h2⟩:=G1.set (p:=.one (.own (e.setO j .dead).objs.length)) (v:=.slice aj M.length cj) ⟨N,K,by rw[S],_,_,_,S⟩ h'
       exact hk e' _ s1 m Oz G2.good h2
      obtain⟨hn',hw',Y,hY1,E,hY3,hY4⟩:=how
      generalize hD:wl N.2 oj=D at E f
      generalize hsl':(Value.slice aj M.length cj)=sl at E R fin
      generalize hc:Y.flatten=c at E
      generalize hnn:M.length=nn at E
      cases E with
      |nil=>exact op_appNN hs hu2 hts V R J (fin s G.H)
      |block b cap2 _ _ hl2 hcap2=>
       have H1:=G.H.perm f
       refine KP H1 hs hu2 hts V R J Oz Oz Oz fun s' H'=>fin s' (H'.perm f.symm)
     ·refine Za (W:=W.x Φ) (D:=wl N.2 oj) (L:=L1) (l:=wZ rfl l) (xs:=wZ rfl xs) (X:=Ly) (G.H.perm f) how hl' hs hu2 hts V R J w.symm Oz w.symm hLr hby Oz ?_
      intro a' cap' b c s' H' ho'
      have hgone:∀(a:Nat) o1,(zE O j none)[a]? = some (some o1)→a≠j∧O[a]? = some (some o1):=fun a o1 ha=>by
       rw[xY]at ha
       split at ha
       ·cases ha
       ·next h1=>
        refine⟨fun e=>?_,ha⟩
        subst e
        exact h1 ⟨rfl,by rw[G.oq];exact hjq⟩
      have hne:M.length≠0:=by
       obtain⟨rfl,_⟩:=gL hl'
       rw[aQ]
       have:(wZ (rfl:τ3=τ3) xs).length=xs.length:=rfl
       omega
      have G1:=Gj.swap (v:=.slice a' M.length cap') (bo:=.list t3 w3 τ3 M) H'
       (fun p hp=>U p (G.fro hp) fun o ho=>by subst ho;exact G.dis j N o p hlj u n hp)
       (fun a q o1 h1 h2 h3=>by
        obtain⟨g1,g2⟩:=hgone a o1 h2
        exact U _ (G.own a q o1 h1 g2 h3) fun o ho he=>by subst ho;exact g1 (G.inj a j q N o1 o h1 u g2 n he))
       ⟨a',cap',rfl,fun h0=>(hne h0).elim,ho'⟩ (fun h=>nomatch h)
      unfold En.new at h'
      rw[yd,bK]at h'
      have K:=Gj.nth (q:=(Value.slice a' M.length cap',b))
      obtain⟨e',G2,h2⟩:=G1.set (p:=.one (.own (e.setO j .dead).objs.length)) (v:=.slice a' M.length cap') ⟨_,K,rfl,_,_,_,rfl⟩ h'
      exact hk e' _ s' _ (aO _) G2.good h2
    ·cases h
   ·cases h
  ·cases h
 ·cases h
theorem appK_ok(G:GX QL W s0 s C stk e F m Q O L Φ){d:Option Nat}{t t2 el2:TypeId}{ts:Array TypeId}{tr:List TypeId}{ag:Array Operand}{x y:Operand}{px py:Pv}{k:En→Option ρ}{r:ρ}{P:FF→St→Prop}{ty:TypeId}{pos:String}{af:Array Edge}{g:Option (Nat×Bool)}
 (hts:ts.toList=t::t2::tr) (U:ag.toList=[x,y]) (hu2:Tryz.prog.underlying t2=some (.slice el2)) (hx:e.ev C x=some px) (hy:e.ev C y=some py) (h:zdp Γ C e d t px py k=some r) (hB:s0.next+(m+1)≤zw)
 (hk:∀e' F' s' m',m'≤m+1→k8 QL W s0 s' C stk e' F' m'→k e'=some r→P F' s'):OpW Tryz.prog I ⟨d,.call ⟨.builtin .append,ag,ts⟩,ty,pos,af,g⟩ F s P:=by
 unfold zdp at h
 split at h
 ·next el sz τ z hel=>
  obtain⟨by_,zc,hs,hby,hsz,_⟩:=Xu hel
  split at h
  ·next i=>
   split at h
   ·next t' w' τ' mm hoi=>
    split at h
    ·next hh=>
     obtain⟨rfl,rfl,rfl⟩:=hh
     split at h
     ·cases h
     ·next m0 ml=>
      split at h
      ·cases h
      ·next hli=>
       have hli:=aR hli
       rw[zJ]at hoi
       have hiq:i<Q.length:=by rw[←G.len];exact(aM.mp hoi).1
       obtain⟨qi,hqi⟩:∃q,Q[i]? = some q:=⟨_,aE hiq⟩
       obtain⟨oi,R⟩:∃o,O[i]? = some o:=⟨_,aE (by rw[G.oq];exact hiq)⟩
       obtain⟨ai,ci,hvi,_,hni,hwi,Y,K,u,hY3,hY4⟩:=G.obj i _ qi oi hoi hqi R
       have hey:zd F y=qi.1:=by
        obtain⟨q',h1,h2,_⟩:=G.ev hy
        rw[hqi]at h1;cases h1
        exact(List.cons.inj h2).1
       have N:kS s w' (zd F y) (m0::ml).length Y.flatten:=by
        rw[hey,hvi]
        generalize hD:wl qi.2 oi=D at u
        generalize hc:Y.flatten=c at u ⊢
        generalize hsl:(Value.slice ai (m0::ml).length ci)=sl at u ⊢
        generalize hn:(m0::ml).length=n at u ⊢
        cases u with
        |nil=>exact Ji
        |block b cap' _ _ hl hcap=>
         cases oi with
         |none=>cases hD
         |some o=>cases hD;exact qG (G.get hqi R) hl
       have Gi:=G.drop i
       split at h
       ·-- onto nothing
        obtain⟨M,w,h⟩:=zP h
        refine Za (W:=W.x Φ) (D:=[]) (L:=L) (a:=none) (len:=0) (cap:=0) (l:=[]) (xs:=m0::ml) (X:=Y) (by exact G.H) (OwnL.nil hsz) w hs hu2 hts U ?_ N K.symm Y8 K.symm hY4 hby Oz ?_
        ·exact(List.cons.inj (show [zd F x]=_ from G.ev hx)).1
        ·intro a' cap' b c s' H' ho'
         have G1:=Gi.swap (v:=.slice a' M.length cap') (bo:=.list t' w' τ' M) H' Gi.fro Gi.own ⟨a',cap',rfl,fun h0=>(app_ne (m:=ml) (x:=m0) w h0).elim,ho'⟩ (fun h=>nomatch h)
         unfold En.new at h
         rw[yd,bK]at h
         have E:=Gi.nth (q:=(Value.slice a' M.length cap',b))
         obtain⟨e',G2,h2⟩:=G1.set (p:=.one (.own (e.setO i .dead).objs.length)) (v:=.slice a' M.length cap') ⟨_,E,rfl,_,_,_,rfl⟩ h
         exact hk e' _ s' _ (aO _) G2.good h2
       ·next j=>
        split at h
        ·next t3 w3 τ3 l Z hoj=>
         split at h
         ·next hh2=>
          obtain⟨rfl,rfl,rfl⟩:=hh2
          simp only[Bool.or_eq_false_iff,eY]at Z
          have hne:j≠i:=fun e=>by subst e;simp at Z
          have hlj:=aR Z.2
          obtain⟨M,w,h⟩:=zP h
          rw[zJ]at hoj
          have hjq:j<Q.length:=by rw[←G.len];exact(aM.mp hoj).1
          obtain⟨qj,J⟩:∃q,Q[j]? = some q:=⟨_,aE hjq⟩
          obtain⟨oj,f⟩:∃o,O[j]? = some o:=⟨_,aE (by rw[G.oq];exact hjq)⟩
          obtain⟨aj,cj,hvj,_,how⟩:=G.obj j _ qj oj hoj J f
          have hex:zd F x=.slice aj l.length cj:=by
           obtain⟨q',h1,h2,_⟩:=G.ev hx
           rw[J]at h1;cases h1
           rw[←hvj];exact(List.cons.inj h2).1
          have Gj:=Gi.drop j
          -- the old block comes to the front
          obtain⟨L1,hperm,S⟩:∃L1,L.Perm (wl qj.2 oj++L1)∧∀p,p∈L→(∀o,oj=some o→p.1≠qj.2)→p∈L1:=by
           cases oj with
           |none=>exact⟨L,.refl _,fun p hp _=>hp⟩
           |some o=>
            obtain⟨A,B,rfl⟩:=dZ (G.own j qj o J f hlj)
            refine⟨A++B,List.perm_middle,fun p hp hne=>?_⟩
            rcases aU.mp hp with h|h
            ·exact cE _ h
            ·rcases aL.mp h with rfl|h
             ·exact(hne o rfl rfl).elim
             ·exact bE _ h
          have V:∀(a:Nat) o1,(zE (zE O i none) j none)[a]? = some (some o1)→a≠j∧O[a]? = some (some o1):=fun a o1 ha=>by
           rw[xY]at ha
           split at ha
           ·cases ha
           ·next h1=>
            rw[xY]at ha
            split at ha
            ·cases ha
            ·refine⟨fun e=>?_,ha⟩
             subst e
             exact h1 ⟨rfl,by rw[yE,G.oq];exact hjq⟩
          refine Za (W:=W.x Φ) (D:=wl qj.2 oj) (L:=L1) (l:=wZ rfl l) (xs:=wZ rfl (m0::ml)) (X:=Y) (G.H.perm hperm) how w hs hu2 hts U hex N K.symm Y8 K.symm hY4 hby Oz ?_
          intro a' cap' b c s' H' ho'
          have G1:=Gj.swap (v:=.slice a' M.length cap') (bo:=.list t3 w3 τ3 M) H'
           (fun p hp=>S p (G.fro hp) fun o ho=>by subst ho;exact G.dis j qj o p hlj J f hp)
           (fun a q o1 h1 h2 h3=>by
            obtain⟨g1,g2⟩:=V a o1 h2
            exact S _ (G.own a q o1 h1 g2 h3) fun o ho he=>by subst ho;exact g1 (G.inj a j q qj o1 o h1 J g2 f he))
           ⟨a',cap',rfl,fun h0=>(app_ne (m:=ml) (x:=m0) w h0).elim,ho'⟩ (fun h=>nomatch h)
          unfold En.new at h
          rw[yd,bK]at h
          have E:=Gj.nth (q:=(Value.slice a' M.length cap',b))
          obtain⟨e',G2,h2⟩:=G1.set (p:=.one (.own ((e.setO i .dead).setO j .dead).objs.length)) (v:=.slice a' M.length cap') ⟨_,E,rfl,_,_,_,rfl⟩ h
          exact hk e' _ s' _ (aO _) G2.good h2
         ·cases h
        ·cases h
       ·cases h
    ·cases h
   ·cases h
  ·next t' w' τ' xs=>
   split at h
   ·next hh=>
    split at h
    ·next j=>
     exact appF_ok G hts U hu2 hx hy (by unfold zdp;rw[hel];simp only;rw[dif_pos hh];exact h) hB hk
    ·cases h
   ·cases h
  ·cases h
 ·cases h
end
end Go.Proofs.YtocnbjjmmgolfaaGreat
