/- slices.Compact on a list of its own. -/
import Derived.Test.YtocnbjjmmgolfaaGreatA15
set_option linter.unusedSimpArgs false
set_option linter.unusedVariables false
set_option linter.unusedSectionVars false
namespace Go.Proofs.YtocnbjjmmgolfaaGreat
open Go Go.M Go.Proofs.C14
theorem JB:wM Tryz.prog 22=some (true,0,1):=by kernel_rfl
theorem Tg:vM Tryz.f78 (Tryz.f78.body.getD .skip) 1=true:=by kernel_rfl
theorem rV:z3 Tryz.prog 3=some (none):=by kernel_rfl
theorem TF:qV Tryz.prog 3=some 1:=by kernel_rfl
theorem zda{l:List Int}{p:Nat}(h:p<l.length):l.getD p 0=l[p]:=by rw[aB,aE h];rfl
theorem j4{l:List Int}{p:Nat}(h:p<l.length):l.take (p+1)=l.take p++[l.getD p 0]:=by rw[zda h,List.take_append_getElem h]
def wE(l:List Int):List Value:=l.map (Value.int .i64)
theorem uR{l:List Int}{p:Nat}(h:p<l.length):zH (wE l) p=some (.int .i64 (l.getD p 0)):=by
 rw[zN,wE,List.getElem?_map,aE h,zda h];rfl
theorem zbw{x:Int}:∀{l:List Int} {p:Nat} (_:p<l.length),yK p [.int .i64 x] (wE l)=some (wE (l.set p x))
 | [],_,h=>by simp at h
 |y::l,0,_=>rfl
 |y::l,p+1,h=>by
  have:=zbw (x:=x) (l:=l) (p:=p) (by simpa using h)
  simp only[wE,List.map_cons,yK,List.set_cons_succ]at this |-
  rw[this]
theorem WU{z:Value}:∀n,(ke [z] n).length=n
 |0=>rfl
 |n+1=>by show([z]++ke [z] n).length=_;rw[aQ,WU n];simp;omega
theorem XY{z:Value}(h:Go.M.plainCell z=true):∀n,(ke [z] n).all Go.M.plainCell=true
 |0=>rfl
 |n+1=>by show([z]++ke [z] n).all _=_;rw[List.all_append,XY h n,List.all_cons,h];rfl
theorem Ve:∀{l c:List Value},l.length=c.length->xI l c=some l
 | [],[],_=>rfl
 | [],_::_,h=>by simp at h
 |_::_,[],h=>by simp at h
 |x::l,y::c,h=>by simp only[xI,Ve (show l.length=c.length by simpa using h)]
theorem Va:∀{l c:List Value} {p:Nat},p+l.length=c.length->yK p l c=some (c.take p++l)
 |l,c,0,h=>by
  show xI l c=_
  rw[Ve Oz];rfl
 |l,[],p+1,h=>by simp at h
 |l,y::c,p+1,h=>by
  simp only[yK,Va (show p+l.length=c.length by simp at h;omega),List.take_succ_cons,bY]
theorem mc{P:Program}{I:zZ}{F:FF}{s:St}{Q:FF->St->Prop}{d:Option Nat}{ty:TypeId}{pos:String}{af:Array Edge}{g:Option (Nat×Bool)}{args:Array Operand}{ts:Array TypeId}{t e h:TypeId}{tr:List TypeId}{x:Operand}{b off cap m:Nat}{c c':List Value}{z:Value}{inf:TypeInfo}
 (hu:P.underlying t=some (.slice e)) (n:ts.toList=t::tr) (ha:args.toList=[x]) (hx:zd F x=.slice (some ⟨b,off,none⟩) m cap) (hm:0<m) (i:P.info? e=some inf) (o:wl P e=some [z]) (hp:Go.M.plainCell z=true) (hg:s.get b=some (.cells c h)) (a:s.may b=true) (f:yK off (ke [z] m) c=some c')
 (k:Q (ba F d (.tuple ⟨[]⟩)) (s.put b (some (.cells c' h)))):br P I ⟨d,.call ⟨.builtin .clear,args,ts⟩,ty,pos,af,g⟩ F s Q:=by
 obtain⟨m,rfl⟩:∃j,m=j+1:=⟨m-1,by omega⟩
 refine zE (v:=.tuple ⟨[]⟩) (s':=s.put b (some (.cells c' h))) ?_ k
 have l:xu b off (ke [z] (m+1)) s=.ok .skip (s.put b (some (.cells c' h))):=by
  unfold xu
  simp only[hg,XY hp,a,f,Bool.and_self]
 simp only[zj,xn,n,ha,qv,hx,Z7,hu,i,o,l]
 rfl
set_option maxHeartbeats 4000000 in
set_option maxRecDepth 20000 in
theorem zfH{I:zZ}(Q:zx I){s0 s:St}{A B:au}{b cap n:Nat}{l:List Int}(H:HL [] s0 s (A++(b,.cells (wE l) 3)::B) n)(J:s0.next+n<=zA)(hcap:cap / 2=l.length)(h0:0<l.length)(hlen:l.length<=1000000) :
 ∃v s',vr Tryz.prog I 78 #[.slice (some ⟨b,0,none⟩) l.length cap] s v s' /\
  ∃i rest,v=.slice (some ⟨b,0,none⟩) (vT l l.length).length i/\(vT l l.length).length<=i / 2/\HL [] s0 s' (A++(b,.cells (wE (vT l l.length)++rest) 3)::B) n:=by
 obtain⟨hu,inf,z',f,hsz,-,-,-,-⟩:=yV uW
 have hzl:(wE l).length=l.length:=bI _
 refine qz 1 (Q 78) Tryz.func78 rfl Tg rfl ?_
 refine zh (zQ (zb (zO (zh (zC rfl (qT hu rfl rfl rfl (kw rfl rfl (λh=>?_) (λh=>?_))))))))
 .refine zb (yI rfl (zh (zC rfl (yv rfl (zb (qE (qm (xA (uL ?_)))))))))
  have e1:l.length=1:=by omega
  have e2:vT l l.length=l:=by
   obtain⟨x,rfl⟩:=List.length_eq_one_iff.mp e1
   rfl
  rw[e2]
  exact⟨cap,[],rfl,by omega,by rw[bP];exact H⟩
 refine zb (yh rfl (yq (zn (zO (zh (zQ (zb (yn (kM (λm F s1=>∃(G:FF) (k:Nat),F=fT G [(0,.slice (some ⟨b,0,none⟩) l.length cap),(3,.int .i64 (k:Int))]/\HL [] s0 s1 (A++(b,.cells (wE l) 3)::B) n/\1<=k/\k<=l.length/\m=l.length-k/\vT l k=l.take k) ?_ (l.length-1) _ _ ?_)))))))))
 rotate_left
 .refine⟨_,1,slots ⟨rfl,rfl,trivial⟩,H,by omega,by omega,by omega,?_⟩
  show [l.getD 0 0]=_
  rw[j4 h0];rfl
 clear H
 rintro m F s1 ⟨G,k,rfl,H,hk1,hk2,rfl,hc⟩
 refine zO (zh (zg rfl (zC rfl (qT hu rfl rfl rfl (kw rfl rfl (λh2=>?_) (λh2=>?_))))))
 rotate_left
 .obtain rfl:k=l.length:=by omega
  refine zb (yh rfl (qr (xD (xq (xF (zn (zh (zC rfl (yv rfl (zb (qE ?_)))))))))))
  refine xA (uL ?_)
  rw[hc,bE]
  exact⟨cap,[],rfl,by omega,by rw[bP];exact H⟩
 have hg:=H.ownA
 have g:b<zA:=by have h1:=(H.own (b,.cells (wE l) 3) Y8).2.1;have h2:=H.most;simp only at h1;omega
 refine zb (yI rfl (yq (zn (zO (yn (vW [⟨0,0,.light,[8]⟩,⟨1,0,.light,[8]⟩,⟨2,3,.light,[8]⟩,⟨3,7,.light,[8]⟩,⟨4,0,.light,[3]⟩,⟨5,0,.light,[3]⟩,⟨6,32,.light,[3]⟩,⟨7,112,.light,[3]⟩,⟨8,240,.light,[3]⟩,⟨9,511,.light,[]⟩] Z0 Z0 (za rfl rfl (zC rfl ⟨rfl,(za rfl rfl (zg rfl ⟨rfl,(za rfl rfl (yd JB rfl rfl Oz Oz ⟨rfl,(yH rfl rfl rV rfl hg g (v:=.int .i64 (l.getD k 0)) (by rw[Int.toNat_natCast,cG,cB];exact uR Oz) (za rfl rfl (zC rfl ⟨rfl,?_⟩)))⟩))⟩))⟩))))))))
 refine za rfl rfl (zg rfl ⟨rfl,(za rfl rfl (wi rfl rfl (by unfold xc;omega) ⟨rfl,(za rfl rfl (yd JB rfl rfl Oz Oz ⟨rfl,(yH rfl rfl rV rfl hg g (v:=.int .i64 (l.getD (k-1) 0)) (by rw[show((k:Int)-1).toNat=k-1 by omega,cG,cB];exact uR Oz) ?_)⟩))⟩))⟩)
 have c:vT l (k+1)=if l.getD k 0=l.getD (k-1) 0 then vT l k else vT l k++[l.getD k 0]:=by
  rw[vT,aD Oz]
 refine za rfl rfl (Xv rfl rfl (λz=>⟨rfl,?_⟩) (λz=>⟨rfl,?_⟩))
 rotate_left
 .rw[aD z,hc,<-j4 Oz]at c
  refine yS (yh rfl (yq (xb (zn (zW (zg rfl (xU rfl rfl (by unfold xc;omega) (yb rfl (zb (yB ?_))))))))))
  exact⟨l.length-(k+1),by omega,_,k+1,slots ⟨rfl,rfl,trivial⟩,H,by omega,by omega,rfl,c⟩
 rw[aG z,hc]at c
 refine yS (yI rfl (zh (zC rfl (zg rfl ?_))))
 obtain⟨a,o,g1,g2,g3,e2⟩:=q8 (s:=s1) (t:=22) (lo:=some (.int .i64 (k:Int))) (hi:=none) (len:=l.length) (cap:=cap) hu f hg vY rfl Oz Oz
 obtain rfl:a=k:=by rcases g2 with h|h;rw[h,hsz,cG];omega
 refine z6 rfl (zE e2 (yv rfl (zb (zO (zh (zQ (zb (yn (kM (λm F s1=>∃(G:FF) (p j:Nat) (X:List Int),F=fT G [(0,.slice (some ⟨b,0,none⟩) l.length cap),(3,.int .i64 (p:Int)),(4,.slice (some ⟨b,a,none⟩) (l.length-a) o),(5,.int .i64 (j:Int))]/\HL [] s0 s1 (A++(b,.cells (wE X) 3)::B) n/\1<=j/\a+j<=l.length/\m=l.length-a-j/\X.length=l.length/\p<a+j/\X.take p=vT l (a+j)/\(∀q,a+j<=q+1->X.getD q 0=l.getD q 0)) ?_ (l.length-a-1) _ _ ?_)))))))))
 rotate_left
 .exact⟨_,a,1,l,slots ⟨rfl,rfl,rfl,rfl,trivial⟩,H,by omega,by omega,by omega,rfl,by omega,c.symm,λq _=>rfl⟩
 clear H
 rintro m F s1 ⟨G,p,j,X,rfl,H,hj1,hj2,rfl,C,hp,e,w⟩
 have hg:=H.ownA
 refine zO (zh (zg rfl (zC rfl (qT hu rfl rfl rfl (kw rfl rfl (λP=>?_) (λP=>?_))))))
 .refine zb (yI rfl (yq (zn (zO (yn (vW [⟨0,0,.light,[8]⟩,⟨1,0,.light,[8]⟩,⟨2,3,.light,[8]⟩,⟨3,7,.light,[8]⟩,⟨4,0,.light,[3]⟩,⟨5,0,.light,[3]⟩,⟨6,32,.light,[3]⟩,⟨7,112,.light,[3]⟩,⟨8,240,.light,[3]⟩,⟨9,511,.light,[]⟩] Z0 Z0 (za rfl rfl (zC rfl ⟨rfl,(za rfl rfl (zg rfl ⟨rfl,(za rfl rfl (yd JB rfl rfl Oz Oz ⟨rfl,(yH rfl rfl rV rfl hg g (v:=.int .i64 (l.getD (a+j) 0)) (by rw[Int.toNat_natCast,cG,uR Oz,w _ Oz]) (za rfl rfl (zC rfl ⟨rfl,?_⟩)))⟩))⟩))⟩))))))))
  refine za rfl rfl (zg rfl ⟨rfl,(za rfl rfl (wi rfl rfl (by unfold xc;omega) ⟨rfl,(za rfl rfl (yd JB rfl rfl Oz Oz ⟨rfl,(yH rfl rfl rV rfl hg g (v:=.int .i64 (l.getD (a+j-1) 0)) (by rw[show a+((j:Int)-1).toNat*1=a+j-1 by omega,uR Oz,w _ Oz]) ?_)⟩))⟩))⟩)
  have c:vT l (a+j+1)=if l.getD (a+j) 0=l.getD (a+j-1) 0 then vT l (a+j)else vT l (a+j)++[l.getD (a+j) 0]:=by
   rw[vT,aD Oz]
  refine za rfl rfl (pX rfl rfl (λE=>⟨rfl,?_⟩) (λE=>⟨rfl,?_⟩))
  .rw[aD E]at c
   refine yS (yI rfl (zh (zC rfl (zg rfl (zC rfl (zg rfl (yd JB rfl rfl Oz Oz (ye rV rfl hg (v:=.int .i64 (l.getD (a+j) 0)) (by rw[Int.toNat_natCast,cG,uR Oz,w _ Oz]) (yd JB rfl rfl Oz Oz (mf (A:=A) (vs:=[.int .i64 (l.getD (a+j) 0)]) H TF rfl rfl rfl rfl (by rw[Int.toNat_natCast,cG,cB];exact zbw Oz) J (λs2 H=>?_)))))))))))
   refine zb (zW (zg rfl (xU rfl rfl (by unfold xc;omega) (yb rfl (zb (xb (zn (zW (zg rfl (xU rfl rfl (by unfold xc;omega) (yb rfl ?_)))))))))))
   refine zb (yB (⟨l.length-a-(j+1),by omega,_,p+1,j+1,X.set p (l.getD (a+j) 0),slots ⟨rfl,rfl,rfl,rfl,trivial⟩,H,by omega,by omega,rfl,by rw[bR];exact C,by omega,?_,λq R=>?_⟩))
   .rw[show a+(j+1)=a+j+1 by omega,c,<-e,j4 V3,List.take_set_of_le (aN _),aB,List.getElem?_set_self Oz]
    rfl
   .rw[aB,List.getElem?_set_ne Oz,<-aB]
    exact w q Oz
  .rw[aG Oz]at c
   refine yS (yh rfl (yq (xb (zn (zW (zg rfl (xU rfl rfl (by unfold xc;omega) (yb rfl (zb (yB ?_))))))))))
   exact⟨l.length-a-(j+1),by omega,_,p,j+1,X,slots ⟨rfl,rfl,rfl,rfl,trivial⟩,H,by omega,by omega,rfl,C,by omega,by rw[e];exact c.symm,λq R=>w q Oz⟩
 have N:a+j=l.length:=by omega
 rw[N]at e hp
 have D:(vT l l.length).length=p:=by rw[<-e,bX];omega
 refine zb (yh rfl (qr (xD (xq (xF (zn (zh (zC rfl (zg rfl ?_)))))))))
 obtain⟨d,cap4,g7,O,g9,K⟩:=q8 (s:=s1) (t:=22) (lo:=some (.int .i64 (p:Int))) (hi:=none) (len:=l.length) (cap:=cap) hu f hg vY rfl Oz Oz
 obtain rfl:d=p:=by rcases O with h|h;rw[h,hsz,cG];omega
 refine z6 rfl (zE K ?_)
 have u:=(H.own (b,.cells (wE X) 3) Y8).2.2.1
 have hzX:(wE X).length=l.length:=by rw[<-C];exact bI _
 have H2:=H.putAt A (.cells ((wE X).take d++ke [.int .i64 0] (l.length-d)) 3) J
 refine z6 rfl (mc hu rfl rfl rfl Oz f zr3 rfl hg u (Va (by rw[WU];omega)) (zb (zh (zC rfl (zg rfl ?_)))))
 obtain⟨off5,r,g10,g11,y,L⟩:=q8 (t:=22) (lo:=none) (hi:=some (.int .i64 (d:Int))) (len:=l.length) (cap:=cap) hu f H2.ownA rfl vY (cH _) Oz
 obtain rfl:=y rfl
 refine z6 rfl (zE L (yv rfl (zb (qE (vi (qm (gg (vi (qm (xA (uL (⟨r,ke [.int .i64 0] (l.length-d),by rw[D];rfl,by omega,?_⟩))))))))))))
 have M:(wE X).take d=wE (X.take d):=by rw[wE,wE,List.map_take]
 rw[<-e,<-M]
 exact H2
section
variable{W:Wd}{Q:Qs}
theorem er.len:∀{ps:List Pv} {vs:List Value},er W Q ps vs->vs.length=ps.length
 | [],vs,h=>by rw[show vs=[]from h];rfl
 |p::ps,vs,⟨v,r,e,_,h⟩=>by rw[e,aU,aU,h.len]
end
def FY(Q:Qs)(g:FuncId):FuncId:=match Nat.ble zy g with
 |true=>match Q[g-zy]? with
  |some q=>zy+q.2
  |none=>g
 |false=>g
theorem jH{Q:Qs}{g:FuncId}(h:Nat.ble zy g=false):FY Q g=g:=by unfold FY;rw[h]
theorem zcf{Q:Qs}{j:Nat}{q:Value×Nat}(h:Q[j]? = some q):FY Q (zy+j)=zy+q.2:=by
 unfold FY
 rw[aZ (Nat.le_add_right ..),eO,h]
def Qr{ρ:Type}(I:zZ)(W:Wd)(s0:St)(inl:ir ρ)(rc:Nat):Prop:=
 ∀⦃g:FuncId⦄ ⦃co:List Ob⦄ ⦃lent:Nat⦄ ⦃ps:List Pv⦄ ⦃objs:List Ob⦄ ⦃k:Pv->List Ob->Option ρ⦄ ⦃r:ρ⦄,inl g co lent ps objs k=some r ->
 ∀⦃QL:Qs⦄ ⦃s:St⦄ ⦃stk:List fy⦄ ⦃m:Nat⦄ ⦃Q:Qs⦄ ⦃O:List (Option ak)⦄ ⦃L Φ:au⦄ ⦃n:Nat⦄ ⦃F:FF⦄ ⦃vs:List Value⦄,GX QL W s0 s ⟨[],co,n,lent⟩ stk ⟨[],objs⟩ F m Q O L Φ->n=objs.length->er (W.x Φ) Q ps vs->s0.next+(m+rc)<=zA ->
 ∀⦃Post:Value->St->Prop⦄,(∀p v o s' b Q' d c a,b<=m+rc->GX QL W s0 s' ⟨[],co,n,lent⟩ stk ⟨[],o⟩ F b Q' d c a->cL (W.x a) Q' p v->k p o=some r->Post v s')->∃v s',vr Tryz.prog I (FY Q g) ⟨vs⟩ s v s'/\Post v s'
section
variable{W W':Wd}{Q Q':Qs}{n:Nat}
theorem eg.back(hn:Q.length<=n\/True){Q0:Qs}{W0:Wd}{x:Lf}{c0 c:List Value}{a:Nat}(h0:eg W0 (Q0.take a) x c0)(h:eg W Q x c):eg W (Q.take a) x c:=by
 have key:∀(j:Nat) q0,(Q0.take a)[j]? = some q0->∀q,Q[j]? = some q->(Q.take a)[j]? = some q:=λj q0 h1 q h2=>by
  rw[List.getElem?_take]at h1 |-
  split at h1
  .next hj=>rw[aG hj];exact h2
  .cases h1
 cases x with
 |own j=>obtain⟨q0,h1,_⟩:=h0;obtain⟨q,h2,b⟩:=h;exact⟨q,key _ _ h1 _ h2,b⟩
 |ptr j off=>obtain⟨q0,h1,_⟩:=h0;obtain⟨q,h2,b⟩:=h;exact⟨q,key _ _ h1 _ h2,b⟩
 |op j w i off=>obtain⟨q0,h1,_⟩:=h0;obtain⟨q,h2,b⟩:=h;exact⟨q,key _ _ h1 _ h2,b⟩
 |yl j=>obtain⟨q0,h1,_⟩:=h0;obtain⟨q,h2,b⟩:=h;exact⟨q,key _ _ h1 _ h2,b⟩
 |asl j n=>obtain⟨q0,h1,_⟩:=h0;obtain⟨q,h2,b⟩:=h;exact⟨q,key _ _ h1 _ h2,b⟩
 |cl f js=>
  obtain⟨d,g,h0⟩:=h0
  obtain⟨cs,e,h⟩:=h
  refine⟨cs,e,?_⟩
  clear e g
  induction js generalizing d cs with
  |nil=>exact h
  |cons j js l=>
   obtain⟨q0,c0',h1,_,h2⟩:=h0
   obtain⟨q,c',b,e,k⟩:=h
   exact⟨q,c',key _ _ h1 _ b,e,l _ h2 _ k⟩
 |_=>exact h
theorem bu.back{Q0:Qs}{W0:Wd}{a:Nat}:∀{x:List Lf} {c0 c:List Value},bu W0 (Q0.take a) x c0->bu W Q x c->bu W (Q.take a) x c
 | [],_,_,_,h=>h
 |_::_,_,_,⟨_,_,_,h1,h2⟩,⟨b,d,e,f,g⟩=>⟨b,d,e,eg.back (n:=0) (.inr trivial) h1 f,bu.back h2 g⟩
theorem QR.back{W W0:Wd}{Q Q0:Qs}{a:Nat}{p:Bool×List Lf}{v0 v:Value}(h0:QR W0 (Q0.take a) p v0)(h:QR W Q p v):QR W (Q.take a) p v:=by
 obtain⟨g,l⟩:=p
 cases g with
 |true=>obtain⟨c0,_,h0⟩:=h0;obtain⟨c,e,h⟩:=h;exact⟨c,e,bu.back h0 h⟩
 |false=>
  obtain⟨x0,b,h0⟩:=h0
  obtain⟨x,e,h⟩:=h
  simp only at b e
  subst b
  cases e
  exact⟨_,rfl,eg.back (n:=0) (.inr trivial) h0 h⟩
theorem fO.back{W W0:Wd}{Q Q0:Qs}{a:Nat}:∀{l:List (Bool×List Lf)} {v0 v:List Value},fO W0 (Q0.take a) l v0->fO W Q l v->fO W (Q.take a) l v
 | [],_,_,_,h=>h
 |_::_,_,_,⟨_,_,_,h1,h2⟩,⟨x,r,e,b,c⟩=>⟨x,r,e,QR.back h1 b,fO.back h2 c⟩
theorem cL.back{W W0:Wd}{Q Q0:Qs}{a:Nat}{p:Pv}{v0 v:Value}(h0:cL W0 (Q0.take a) p v0)(h:cL W Q p v):cL W (Q.take a) p v:=by
 cases p with
 |undef=>exact h
 |any=>trivial
 |one x=>exact eg.back (n:=0) (.inr trivial) h0 h
 |agg l=>obtain⟨_,_,h0⟩:=h0;obtain⟨c,e,h⟩:=h;exact⟨c,e,bu.back h0 h⟩
 |tup l=>obtain⟨_,_,h0⟩:=h0;obtain⟨c,e,h⟩:=h;exact⟨c,e,fO.back h0 h⟩
 |clo f l=>obtain⟨_,_,h0⟩:=h0;obtain⟨c,e,h⟩:=h;exact⟨c,e,bu.back h0 h⟩
theorem ff.back{W W0:Wd}{Q Q0:Qs}{a:Nat}{l:List (Nat×Pv)}{b F:FF}(h0:ff W0 (Q0.take a) l b)(h:ff W Q l F):ff W (Q.take a) l F:=λp hp=>cL.back (h0 p hp) (h p hp)
theorem cZ.back{Q0:Qs}{W0:Wd}{a:Nat}{b:Ob}{q0 q:Value×Nat}{f o:Option ak}(h0:cZ W0 (Q0.take a) b q0 f)(h:cZ W Q b q o):cZ W (Q.take a) b q o:=by
 cases b with
 |cells l=>obtain⟨_,_,_,h0⟩:=h0;obtain⟨c,t,e,h⟩:=h;exact⟨c,t,e,bu.back h0 h⟩
 |loop=>obtain⟨_,_,_,_,_,h0⟩:=h0;obtain⟨g1,fr,d,e,ha,h⟩:=h;exact⟨g1,fr,d,e,ha,ff.back h0 h⟩
 |_=>exact h
theorem gC:∀{a c:List Ob} {i:Nat} {b:Ob},(gD a c)[i]? = some b->(a[i]? = some .const/\c[i]? = some b)\/(a[i]? = some b)
 | [],[],i,b,h=>by cases h
 | [],_::_,i,b,h=>by cases h
 |o::r,[],i,b,h=>.inr (by cases o<;>exact h)
 |o::r,d::s,0,b,h=>by cases o<;>first|exact .inl ⟨rfl,h⟩|exact .inr h
 |o::r,d::s,i+1,b,h=>by
  have:(gD r s)[i]? = some b:=by cases o<;>exact h
  simpa only[cR]using gC this
theorem ZZ:∀{a c:List Ob} {i:Nat} {b:Ob},a[i]? = some .const->c[i]? = some b->(gD a c)[i]? = some b
 | [],_,i,b,h,_=>by cases h
 |o::r,[],i,b,_,h=>by cases h
 |o::r,d::s,0,b,h,f=>by cases h;exact f
 |o::r,d::s,i+1,b,h,f=>by
  have:=ZZ (a:=r) (c:=s) (i:=i) (b:=b) h f
  cases o<;>exact this
theorem XL:∀{a c:List Ob} {i:Nat},wP a c=true->c[i]? = some .const->a[i]? = some .const
 | [],[],i,h,b=>by cases b
 |o::r,[],i,h,b=>by cases b
 | [],p::s,0,h,b=>by cases b;cases h
 | [],p::s,i+1,h,b=>by
  simp only[wP,aF]at h
  have:=XL (a:=[]) (i:=i) h.2 b
  cases this
 |o::r,p::s,0,h,b=>by
  cases b
  simp only[wP,kK,eJ,Bool.false_or,aF]at h
  cases o<;>first|rfl|(simp[kK]at h)
 |o::r,p::s,i+1,h,b=>by
  simp only[wP,aF]at h
  exact XL (a:=r) (c:=s) (i:=i) h.2 b
end
section
variable{W:Wd}{s0 s:St}{C:Cx}{QL:Qs}{stk:List fy}{e:En}{F:FF}{m:Nat}{Q:Qs}{O:List (Option ak)}{L Φ:au}
theorem gk{α β:Type}{f:α->β}:∀{l:List α},(l.map λx=>[f x]).flatten=l.map f
 | []=>rfl
 |x::l=>by simp only[List.map_cons,cT,gk,List.singleton_append]
theorem GX.evs(G:GX QL W s0 s C stk e F m Q O L Φ):∀{ops:List Operand} {ps:List Pv},e.evs C ops=some ps->er (W.x Φ) Q ps (qv (zd F) ops)
 | [],ps,h=>by cases h;rfl
 |x::l,ps,h=>by
  simp only[En.evs]at h
  split at h
  .next v vs hv a=>cases h;exact⟨zd F x,qv (zd F) l,rfl,G.ev hv,G.evs a⟩
  .cases h
theorem er.app{W:Wd}{Q:Qs}:∀{a b:List Pv} {v w:List Value},er W Q a v->er W Q b w->er W Q (a++b) (v++w)
 | [],b,v,w,h,c=>by rw[show v=[]from h];exact c
 |p::a,b,v,w,⟨x,r,e,h1,h2⟩,c=>⟨x,r++w,by rw[e];rfl,h1,er.app h2 c⟩
theorem er.caps{W:Wd}{Q:Qs}:∀{l:List Lf} {cs:List Value},bu W Q l cs->(l.all λx=>Nat.beq x.w 1)=true->er W Q (l.map .one) cs
 | [],cs,h,_=>h
 |x::l,cs,⟨c1,a,e,h1,h2⟩,hw=>by
  simp only[List.all_cons,aF]at hw
  have hl:=h1.len
  rw[aK hw.1]at hl
  obtain⟨v,rfl⟩:=List.length_eq_one_iff.mp hl
  exact⟨v,a,e,h1,er.caps h2 hw.2⟩
theorem er.mono{W W':Wd}{Q Q':Qs}(hw:cu W W')(b:cd Q Q'):∀{a:List Pv} {v:List Value},er W Q a v->er W' Q' a v
 | [],v,h=>h
 |p::a,v,⟨x,r,e,h1,h2⟩=>⟨x,r,e,h1.mono hw b,er.mono hw b h2⟩
theorem GX.enter(G:GX QL W s0 s C stk e F m Q O L Φ)(d:FF):GX QL W s0 s ⟨[],gD e.objs C.objs,e.objs.length,C.lent⟩ (⟨e.slots,F,Q.length,[]⟩::⟨C.slots,F,C.n,[]⟩::stk) ⟨[],e.objs⟩ d m Q O L Φ:=
 {G with
  cn:=by rw[G.len];exact aN _
  ln:=by rw[G.len];exact bK G.ln G.cn
  cob:=λi b q o h0 a h1 h2=>by
   simp only at h0 a |-
   rw[G.len,bE]
   rcases gC a with⟨c,g⟩|c
   .exact(G.cob i b q o c g h1 h2).mono cu.rfl cd.take
   .exact G.obj i b q o c h1 h2
  slots:=λ_ h=>nomatch h
  cslots:=λ_ h=>nomatch h
  stk:=λf hf=>by
   simp only
   rcases aJ.mp hf with rfl|hf
   .exact⟨by simp only[G.len,aN],by simp only[bE];exact G.slots,List.nil_subset _⟩
   .rcases aJ.mp hf with rfl|hf
    .exact⟨by simp only[G.len];exact G.cn,G.cslots,List.nil_subset _⟩
    .obtain⟨h1,h2⟩:=G.stk f hf
     exact⟨by rw[G.len];exact bK h1 G.cn,h2⟩}
theorem GX.exit(G:GX QL W s0 s C stk e F m Q O L Φ){k F'':FF}{s':St}{j:Nat}{Q':Qs}{h:List (Option ak)}{g d:au}{o:List Ob}
 (G':GX QL W s0 s' ⟨[],gD e.objs C.objs,e.objs.length,C.lent⟩ (⟨e.slots,F,Q.length,[]⟩::⟨C.slots,F,C.n,[]⟩::stk) ⟨[],o⟩ k j Q' h g d) (hc:wP e.objs o=true):GX QL W s0 s' C stk {e with objs:=o} F j Q' h g d:=
 {G' with
  cn:=by have h1:=G'.cn;have h2:=G.cn;simp only at h1;rw[G.len]at h1;omega
  ln:=G.ln
  cob:=λi b q o h0 c h1 h2=>by
   have a:=XL hc h0
   have l:=G'.cob i b q o h0 (ZZ a c) h1 h2
   have hi:i<Q.length:=by rw[<-G.len];exact(aM.mp a).1
   have p:=G.cob i b _ _ a c (aE hi) (aE (by rw[G.oq];exact hi))
   exact cZ.back p (l.mono cu.rfl cd.take)
  slots:=(G'.stk _ (aO ..)).2.1.mono cu.rfl cd.take
  cslots:=(G'.stk _ (aP _ (aO ..))).2.1
  stk:=λf hf=>⟨(G.stk f hf).1,(G'.stk f (aP _ (aP _ hf))).2⟩}
theorem GX.frzNew(G:GX QL W s0 s C stk e F m Q O L Φ){j:Nat}{q:Value×Nat}{o o':ak}(r:Q[j]? = some q)(ho:O[j]? = some (some o))(hj:C.lent<=j){A B:au}(t:L=A++(q.2,o)::B){s':St}(H':HL [] s0 s' (A++(q.2,o')::B) m) :
 GX QL W s0 s' C stk (e.setO j .dead) F m Q (zM O j none) (A++(q.2,o')::B) ((q.2,o')::Φ):=by
 have G1:=G.drop j
 have hw:cu (W.x Φ) (W.x ((q.2,o')::Φ)):=vK λp hp=>aP _ hp
 have k:∀p,p∈L->p.1≠q.2->p∈A++(q.2,o')::B:=λp hp d=>by
  rw[t]at hp
  rcases aW.mp hp with h|h
  .exact bJ _ h
  .rcases aJ.mp h with rfl|h
   .exact(d rfl).elim
   .exact bA _ (aP _ h)
 have g:∀(i:Nat) a,(zM O j none)[i]? = some (some a)->i≠j/\O[i]? = some (some a):=λi a h=>by
  rw[xV]at h
  split at h
  .cases h
  .next h1=>
   refine⟨λe=>?_,h⟩
   subst e
   exact h1 ⟨rfl,(aM.mp h).1⟩
 have d:∀(i:Nat) c a,Q[i]? = some c->(zM O j none)[i]? = some (some a)->c.2≠q.2:=λi c a h1 h2 he=>(g i a h2).1 (G.inj i j c q a o h1 r (g i a h2).2 ho he)
 exact{G1 with
  H:=H'
  fro:=λp hp=>by
   rcases aJ.mp hp with rfl|hp
   .exact bA _ (aO ..)
   .exact k p (G.fro hp) (G.dis j q o p hj r ho hp)
  own:=λi c a h1 h2 hi=>k _ (G.own i c a h1 (g i a h2).2 hi) (d i c a h1 h2)
  lent:=λi c a h1 h2 hi=>by
   obtain⟨g1,g2⟩:=G.lent i c a h1 (g i a h2).2 hi
   exact⟨by rw[H'.get g2,<-G.H.get g2];exact g1,g2⟩
  dis:=λi c a p hi h1 h2 hp=>by
   rcases aJ.mp hp with rfl|hp
   .exact λhe=>d i c a h1 h2 he.symm
   .exact G.dis i c a p hi h1 (g i a h2).2 hp
  obj:=λi b c a h0 h1 h2=>(G1.obj i b c a h0 h1 h2).mono hw cd.rfl
  cob:=λi b c a h0 l h1 h2=>(G1.cob i b c a h0 l h1 h2).mono hw cd.rfl
  slots:=G.slots.mono hw cd.rfl
  cslots:=G.cslots.mono hw cd.rfl
  stk:=λf hf=>⟨(G.stk f hf).1,(G.stk f hf).2.1.mono hw cd.rfl,λp hp=>aP _ ((G.stk f hf).2.2 hp)⟩}
theorem GX.good(G:GX QL W s0 s C stk e F m Q O L Φ):vg QL W s0 s C stk e F m:=⟨_,_,_,_,G⟩
end
section
variable{I:zZ}{T:FuncId->Option eQ}{ρ:Type}{inl:ir ρ}{rc:Nat}{W:Wd}{s0 s:St}{C:Cx}{QL:Qs}{stk:List fy}{e:En}{F:FF}{m:Nat}{Q:Qs}{O:List (Option ak)}{L Φ:au}
theorem zhd{W W':Wd}{Q:Qs}{τ:Ty}{x:τ.T}{v:Value}{p:Pv}(h:cx W τ v x)(hp:pz τ x=some p):cL W' Q p v:=by
 unfold pz at hp
 split at hp
 .cases hp
  obtain⟨v1,v2,rfl,h1,h2⟩:=h
  obtain⟨a,cap,L,e1,_⟩:=(show ax W (.sl _ _ _) [v1] _ from h1)
  refine⟨_,rfl,v1,[v2],rfl,⟨_,rfl,v1,rfl,by rw[(List.cons.inj e1).1];rfl⟩,v2,[],rfl,⟨_,rfl,?_⟩,rfl⟩
  rw[show v2=.bool _ from h2]
  rfl
 .cases hp
theorem VR(hI:zx I)(hT:QE I T)(hin:Qr I W s0 inl rc)(G:GX QL W s0 s C stk e F m Q O L Φ){st:Bool}{d:Option Nat}{g:FuncId}{ops:List Operand}{caps:List Lf}{cs:List Value}{k:En->Option ρ}{r:ρ}{R:Nat}(hlow:Nat.ble zy g=false)
 (M:bu (W.x Φ) Q caps cs) (hw:(caps.all λx=>Nat.beq x.w 1)=true) (h:callK T inl rc C st e d g ops caps k=some r) (hR:∀N,T g=some N->st=true->N.room<=R) (hR2:T g=none\/st=false->rc<=R) (hB:s0.next+(m+R)<=zA)
 {P:FF->St->Prop} (hk:∀K F' s' m',m'<=m+R->vg QL W s0 s' C stk K F' m'->k K=some r->P F' s') :
 ∃v s',vr Tryz.prog I g ⟨qv (zd F) ops++cs⟩ s v s'/\P (ba F d v) s':=by
 unfold callK at h
 split at h
 .next ps hps=>
  split at h
  .next N E=>
   split at h
   .next e1 hf hst=>
    simp only[aF,dA]at hst
    have hroom:N.room<=R:=by
     rcases hst.1 with h1|h1
     .exact hR _ E h1
     .cases st with
      |true=>exact hR _ E rfl
      |false=>exact bK (aR h1) (hR2 (.inr rfl))
    obtain⟨O1,Φ1,G1⟩:=G.frzP hf
    split at h
    .next ps1 hps1=>
     split at h
     .next x hx=>
      obtain⟨y,hy,h⟩:=zT h
      have hm:=G.H.most
      obtain⟨v,s',hr,D,H',hv⟩:=hT g N E G1.H.fine G1.see.kn (zeB (G1.evs hps1) hx) hy Oz
      split at h
      .obtain⟨p,hp,h⟩:=yN h
       obtain⟨K,G3,S⟩:=(G.call H').set (zhd hv hp) h
       refine⟨v,s',?_,hk K _ s' _ Oz G3.good S⟩
       rw[show cs=[]from M,bP]
       exact hr
      .have G2:=G1.call H'
       have hp:=J7 (Q:=Q) (cx.mono (uV (dK _ _) (List.subset_append_left _ _)) hv) hst.2
       obtain⟨K,G3,S⟩:=G2.set hp h
       refine⟨v,s',?_,hk K _ s' _ Oz G3.good S⟩
       rw[show cs=[]from M,bP]
       exact hr
     .cases h
    .cases h
   .cases h
  .next E=>
   have hrc:=hR2 (.inl E)
   split at h
   .next h108=>
    obtain rfl:=aK h108
    split at h
    .next a=>
     split at h
     .next ha=>
      obtain⟨n,rfl⟩:=Int.eq_ofNat_of_zero_le ha.1
      obtain⟨v,s',hr,⟨z,rfl⟩,rfl⟩:=zhi hI (s:=s) (n:=n) Oz
      obtain⟨K,G3,S⟩:=G.set (p:=.any) (v:=.int .i64 z) trivial h
      refine⟨_,_,?_,hk K _ s' m Oz G3.good S⟩
      obtain⟨v1,r1,e1,g1,g2⟩:=G.evs hps
      rw[e1,show cs=[]from M,show v1=_ from(List.cons.inj (show [v1]=_ from g1)).1,show r1=[]from g2]
      exact hr
     .cases h
    .cases h
   .split at h
    .next h307=>
     obtain rfl:=aK h307
     split at h
     .next j a b=>
      split at h
      .next l J u=>
       have u:=aR u
       obtain⟨x,hx,h5⟩:=zT h
       unfold Gd at hx
       split at hx
       .next hab=>
        cases hx
        obtain⟨h0,h1,rfl⟩:=hab
        obtain⟨i,rfl⟩:=Int.eq_ofNat_of_zero_le h0
        rw[zN]at J
        have U:j<Q.length:=by rw[<-G.len];exact(aM.mp J).1
        obtain⟨q,hq⟩:∃q,Q[j]? = some q:=⟨_,aE U⟩
        obtain⟨o,ho⟩:∃o,O[j]? = some o:=⟨_,aE (by rw[G.oq];exact U)⟩
        obtain⟨a',cap,hv,_,hn,hsz,Y,hY1,t,hY3,hY4⟩:=G.obj j _ q o J hq ho
        obtain⟨v1,r1,e1,⟨q',Z,gv,_⟩,v2,r2,e2,g2,v3,r3,e3,g3,g4⟩:=G.evs hps
        rw[hq]at Z;cases Z
        have hYl:Y.flatten.length=l.length:=by rw[qQ hY3,hY1,cG]
        have hil:i<l.length:=by omega
        have hYg:∀(k:Nat) x,l[k]? = some x->Y[k]? = some [Value.int .i64 x]:=λk x hx=>by
         have hkl:=(aM.mp hx).1
         have:=hY4 k x hx
         have V:k<Y.length:=by omega
         rw[aB,aE V]at this
         rw[aE V]
         exact congrArg some this
        have hY:Y.flatten=l.map (Value.int .i64):=by
         have:Y=l.map λx=>[Value.int .i64 x]:=List.ext_getElem? λk=>by
          rw[List.getElem?_map]
          by_cases hk:k<l.length
          .rw[aE hk,hYg k _ (aE hk)];rfl
          .rw[cU Oz,cU Oz];rfl
         rw[this,gk]
        generalize hD:wx q.2 o=D at t
        generalize hsl:(Value.slice a' l.length cap)=sl at t
        generalize hc:Y.flatten=c at t hY hYl
        generalize hn':l.length=n at t
        cases t with
        |nil=>omega
        |block b' cap2 _ _ hl2 hcap2=>
         cases hsl
         cases o with
         |none=>cases hD
         |some o=>
          cases hD
          have X:=G.own j q _ hq ho u
          obtain⟨A,B,hL⟩:=eI X
          have hm:=G.H.most
          obtain⟨v,s',hr,f,rfl,hcap',H'⟩:=GL hI (A:=A) (B:=B) (b:=q.2) (cap:=cap) (i:=i) (l:=c) (by rw[<-hL];exact G.H) Oz (by rw[hY,List.all_map,List.all_eq_true];intro x _;rfl) Oz Oz
          have G2:=G.frzNew hq ho u hL H'
          have hce:c.eraseIdx i=(l.eraseIdx i).map (Value.int .i64):=by rw[hY,List.eraseIdx_eq_take_drop_succ,List.eraseIdx_eq_take_drop_succ,List.map_append,List.map_take,List.map_drop]
          have hlen:c.length-1=(l.eraseIdx i).length:=by rw[hYl,List.length_eraseIdx,aG hil]
          have hrep:ax (W.x ((q.2,.cells (c.eraseIdx i++[.int .i64 0]) 3)::Φ)) (.sl 3 1 (.int .i64)) [.slice (some ⟨q.2,0,none⟩) (c.length-1) f] (l.eraseIdx i):=by
           refine⟨_,f,(l.eraseIdx i).map λx=>[Value.int .i64 x],by rw[hlen],.inr (.block q.2 0 f _ (by rw[bI]) (aO ..) V4 λk hk=>?_),by rw[bI],λk x hx=>?_⟩
           .rw[bI]at hk
            rw[cB,cG,yR,y7,hce,bZ,aQ,bI,aG (by simp;omega),List.drop_append_of_le_length V4,<-List.map_drop,List.drop_eq_getElem_cons hk]
            simp only[List.map_cons,bY,List.take_succ_cons,List.take_zero,aB,List.getElem?_map,aE hk,cQ,bN]
           .simp only[aB,List.getElem?_map,hx,cQ,bN]
            rfl
          unfold En.frzAs at h5
          obtain⟨K,G3,S⟩:=G2.set (p:=.one (.sl 3 1 (.int .i64) (l.eraseIdx i))) (v:=.slice (some ⟨q.2,0,none⟩) (c.length-1) f) hrep h5
          refine⟨_,s',?_,hk K _ s' m Oz G3.good S⟩
          rw[e1,e2,e3,show r3=[]from g4,show cs=[]from M,show v1=q.1 from(List.cons.inj gv).1,show v2=_ from(List.cons.inj (show [v2]=_ from g2)).1,show v3=_ from(List.cons.inj (show [v3]=_ from g3)).1,hv]
          rw[hYl]at hr |-
          exact hr
       .cases hx
      .cases h
     .cases h
    .split at h
     .next h78=>
      obtain rfl:=aK h78
      split at h
      .next j=>
       split at h
       .next l J u=>
        have u:=aR u
        obtain⟨x,hx,h5⟩:=zT h
        unfold RD at hx
        split at hx
        .next hab=>
         cases hx
         rw[zN]at J
         have U:j<Q.length:=by rw[<-G.len];exact(aM.mp J).1
         obtain⟨q,hq⟩:∃q,Q[j]? = some q:=⟨_,aE U⟩
         obtain⟨o,ho⟩:∃o,O[j]? = some o:=⟨_,aE (by rw[G.oq];exact U)⟩
         obtain⟨a',cap,hv,_,hn,hsz,Y,hY1,t,hY3,hY4⟩:=G.obj j _ q o J hq ho
         obtain⟨v1,r1,e1,⟨q',Z,gv,_⟩,g4⟩:=G.evs hps
         rw[hq]at Z;cases Z
         have hY:Y.flatten=wE l:=by
          have:Y=l.map λx=>[Value.int .i64 x]:=List.ext_getElem? λk=>by
           rw[List.getElem?_map]
           by_cases hk:k<l.length
           .have:=hY4 k _ (aE hk)
            have V:k<Y.length:=by omega
            rw[aB,aE V]at this
            rw[aE V,aE hk]
            exact congrArg some this
           .rw[cU Oz,cU Oz];rfl
          rw[this,gk];rfl
         rw[hY]at t
         generalize hD:wx q.2 o=D at t
         generalize hsl:(Value.slice a' l.length cap)=sl at t
         generalize hc:wE l=c at t
         generalize hn':l.length=n at t
         cases t with
         |nil=>omega
         |block b' cap2 _ _ hl2 hcap2=>
          subst hc
          cases hsl
          cases o with
          |none=>cases hD
          |some o=>
           cases hD
           have X:=G.own j q _ hq ho u
           obtain⟨A,B,hL⟩:=eI X
           have hm:=G.H.most
           obtain⟨v,s',hr,f,rest,rfl,hcap',H'⟩:=zfH hI (A:=A) (B:=B) (b:=q.2) (cap:=cap) (l:=l) (by rw[<-hL];exact G.H) Oz Oz hab.1 Oz
           have G2:=G.frzNew hq ho u hL H'
           generalize vT l l.length=x at *
           have hrep:ax (W.x ((q.2,.cells (wE x++rest) 3)::Φ)) (.sl 3 1 (.int .i64)) [.slice (some ⟨q.2,0,none⟩) x.length f] x:=by
            refine⟨_,f,x.map λx=>[Value.int .i64 x],rfl,.inr (.block q.2 0 f _ (by rw[bI]) (aO ..) V4 λk hk=>?_),by rw[bI],λk y hy=>?_⟩
            .rw[bI]at hk
             have hxl:(wE x).length=x.length:=bI _
             rw[cB,cG,yR,y7,bZ,aQ,hxl,aG Oz,List.drop_append_of_le_length Oz,wE,<-List.map_drop,List.drop_eq_getElem_cons hk]
             simp only[List.map_cons,bY,List.take_succ_cons,List.take_zero,aB,List.getElem?_map,aE hk,cQ,bN]
            .simp only[aB,List.getElem?_map,hy,cQ,bN]
             rfl
           unfold En.frzAs at h5
           obtain⟨K,G3,S⟩:=G2.set (p:=.one (.sl 3 1 (.int .i64) x)) (v:=.slice (some ⟨q.2,0,none⟩) x.length f) hrep h5
           refine⟨_,s',?_,hk K _ s' m Oz G3.good S⟩
           rw[e1,show r1=[]from g4,show cs=[]from M,show v1=q.1 from(List.cons.inj gv).1,hv]
           rw[hn']at hr |-
           exact hr
        .cases hx
       .cases h
      .cases h
     rw[<-jH (Q:=Q) hlow]
     refine hin h (G.enter F) rfl ((G.evs hps).app (er.caps M hw)) Oz ?_
     intro p v o s' m' Q' O' L' Φ' hm' G' hp hk'
     split at hk'
     .next hc=>
      have G2:=G.exit (F'':=F) G' hc
      obtain⟨K,G3,S⟩:=G2.set hp hk'
      exact hk K _ s' m' Oz G3.good S
     .cases hk'
 .cases h
end
section
variable{W:Wd}{D:au}{Q:Qs}
theorem rC{l:List Lf}{c:List Value}(h:bu W Q l c):∀n,bu W Q (rA l n) (ke c n)
 |0=>rfl
 |n+1=>h.append (rC h n)
end
section
variable{I:zZ}{Γ:TypeId->Option Ty}{T:FuncId->Option eQ}{ρ:Type}{inl:ir ρ}{rc:Nat}{W:Wd}{s0 s:St}{C:Cx}{QL:Qs}{stk:List fy}{e:En}{F:FF}{m:Nat}{Q:Qs}{O:List (Option ak)}{L Φ:au}
theorem XC{t el:TypeId}{sz:Nat}{τ:Ty}{z:List Lf}(h:Lh Γ t=some (el,sz,τ,z)):∃by_ a,qg Tryz.prog t=some (el,sz,by_,a)/\by_<=8000/\τ.sz=sz/\∀(W:Wd) (D:au) (Q:Qs),bu (W.x D) Q z a:=by
 unfold Lh at h
 split at h
 .next el' sz' by_ a hs=>
  split at h
  .next τ' hΓ=>
   split at h
   .next l hb hl=>
    cases h
    simp only[aF]at hb
    exact⟨by_,a,hs,aR hb.2,aK hb.1,λW D Q=>jY hl⟩
   .cases h
  .cases h
 .cases h
theorem GX.newK(G:GX QL W s0 s C stk e F m Q O L Φ)(f:s0.next+m<zA){o:ak}{b:Ob}{v w:Value}{d:Option Nat}{k:En->Option ρ}{r:ρ}{l:Nat->Lf}(hb:cZ (W.x Φ) (Q++[(v,s.next)]) b (v,s.next) (some o))(c:b≠.const)
 (hl:eg (W.x Φ) (Q++[(v,s.next)]) (l e.objs.length) [w]) (h:En.new C e d b l k=some r):∃a,vg QL W s0 (s.new o) C stk a (ba F d w) (m+1)/\k a=some r:=by
 have G1:=G.new f hb c
 unfold En.new at h
 rw[yf,bM]at h
 obtain⟨a,G2,h2⟩:=G1.set (p:=.one (l e.objs.length)) hl h
 exact⟨a,G2.good,h2⟩
theorem GX.nth(G:GX QL W s0 s C stk e F m Q O L Φ){q:Value×Nat}:(Q++[q])[e.objs.length]? = some q:=by rw[G.len];simp
abbrev Fb(s s':St):St:={next:=s'.next,bar:=s.bar,prot:=s.prot,heap:=s'.heap}
theorem GX.move(G:GX QL W s0 s C stk e F m Q O L Φ){s':St}(H':HL [] s0 s' L m){j:Nat}{q:Value×Nat}{o:Option ak}{bo:Ob}(u:Q[j]? = some q)(ho:O[j]? = some o)(hj:C.lent<=j)(hb:cZ (W.x Φ) (Q++[q]) bo q o)(B:bo≠.const) :
 GX QL W s0 s' C stk {e with objs:=(e.setO j .dead).objs++[bo]} F m (Q++[q]) (zM O j none++[o]) L Φ:=by
 have G1:=G.drop j
 have hjq:j<Q.length:=(aM.mp u).1
 have t:∀{i:Nat} {y},(zM O j none++[o])[i]? = some (some y)->(i<Q.length/\i≠j/\O[i]? = some (some y))\/(i=Q.length/\some y=o):=λ{i y} h=>by
  rcases xC h with⟨h1,h2⟩|⟨h1,h2⟩
  .rw[y9,G.oq]at h1
   rw[xV]at h2
   split at h2
   .cases h2
   .next c=>exact .inl ⟨h1,λe=>by subst e;exact c ⟨rfl,by rw[G.oq];exact h1⟩,h2⟩
  .rw[y9,G.oq]at h1;exact .inr ⟨h1,h2⟩
 have P:∀{i:Nat} {y},((e.setO j .dead).objs++[bo])[i]? = some y->(i<Q.length/\(e.setO j .dead).objs[i]? = some y)\/(i=Q.length/\y=bo):=λh=>by
  have:=xC h;rwa[G1.len]at this
 exact{
  K:=G.K,H:=H'
  oq:=by simp[y9,G.oq]
  len:=by rw[aQ,G1.len];simp
  cn:=by have:=G.cn;simp;omega
  ln:=G.ln
  pre:=λi hi=>by rw[cA (by have:=G.ln;have:=G.cn;omega)];exact G.pre i hi
  fro:=G.fro
  own:=λi k d h1 h2 hi=>by
   rcases t h2 with⟨c,b,l⟩|⟨c,b⟩<;>rcases xC h1 with⟨g,a⟩|⟨g,a⟩<;>try omega
   .exact G.own i k d a l hi
   .subst a b;exact G.own j _ d u ho hj
  lent:=λi k d h1 h2 hi=>by
   have:=G.ln;have:=G.cn
   rcases t h2 with⟨c,b,l⟩|⟨c,b⟩<;>rcases xC h1 with⟨g,a⟩|⟨g,a⟩<;>try omega
   obtain⟨g1,g2⟩:=G.lent i k d a l hi
   exact⟨by rw[H'.get g2,<-G.H.get g2];exact g1,g2⟩
  inj:=λi R k S d J h1 h2 c b he=>by
   rcases t c with⟨U,z,M⟩|⟨U,z⟩<;>rcases t b with⟨r,A,N⟩|⟨r,A⟩<;>rcases xC h1 with⟨V,v⟩|⟨V,v⟩<;>rcases xC h2 with⟨X,w⟩|⟨X,w⟩<;>try omega
   .exact G.inj i R k S d J v w M N he
   .subst w A;exact(z (G.inj i j k _ d J v u M ho he)).elim
   .subst v z;exact(A (G.inj R j S _ J d w u N ho he.symm)).elim
  dis:=λi k d p hi h1 h2 hp=>by
   rcases t h2 with⟨c,b,l⟩|⟨c,b⟩<;>rcases xC h1 with⟨g,a⟩|⟨g,a⟩<;>try omega
   .exact G.dis i k d p hi a l hp
   .subst a b;exact G.dis j _ d p hj u ho hp
  obj:=λi r k d hb1 h1 h2=>by
   rcases P hb1 with⟨c,b⟩|⟨c,b⟩<;>rcases xC h1 with⟨l,g⟩|⟨l,g⟩<;>try omega
   .rcases xC h2 with⟨a,n⟩|⟨a,n⟩
    .exact(G1.obj i r k d b g n).mono cu.rfl cd.app
    .rw[y9,G.oq]at a;omega
   .rcases xC h2 with⟨a,n⟩|⟨a,n⟩
    .rw[y9,G.oq]at a;omega
    .subst g b n;exact hb
  cob:=λi r k d E hb1 h1 h2=>by
   rw[List.take_append_of_le_length G.cn]
   rcases P E with⟨c,b⟩|⟨c,b⟩<;>rcases xC h1 with⟨l,g⟩|⟨l,g⟩<;>try omega
   .rcases xC h2 with⟨a,n⟩|⟨a,n⟩
    .exact G1.cob i r k d b hb1 g n
    .rw[y9,G.oq]at a;omega
   .exact(B b.symm).elim
  slots:=G.slots.mono cu.rfl cd.app
  cslots:=by rw[List.take_append_of_le_length G.cn];exact G.cslots
  stk:=λf hf=>by
   obtain⟨h1,h2,c⟩:=G.stk f hf
   exact⟨h1,by rw[List.take_append_of_le_length (by have:=G.cn;omega)];exact h2,c⟩}
theorem nL{α:Type}{l m r:List α}{x:α}(h:app l (x::m)=some r):r.length≠0:=by
 obtain⟨rfl,_⟩:=gI h
 simp
theorem nM{t t2 el o:TypeId}{ts:List TypeId}{sz by_:Nat}{v:List Value}{a:Option Addr}{b n:Nat}{y:Value}{l:List Value}{S:St}(hs:qg Tryz.prog t=some (el,sz,by_,v))(q:Tryz.prog.underlying t2=some (.slice o))(ha:a=none\/a=some ⟨b,0,none⟩/\S.get b=some (.cells [] el))(he:kQ S sz y n l)(hp:l.all Go.M.plainCell=true)(hl:l.length=n*sz)(hb:n*(by_+1)<=1073741824)(i:S.room=true) :
 (n=0->∃k,xe Tryz.prog (t::t2::ts) [.slice a 0 0,y] S=.ok (.value (.slice a 0 0)) k/\(k=S\/S.may b=true/\a=some ⟨b,0,none⟩/\k=S.put b (some (.cells [] el)))) /\
 (0<n->xe Tryz.prog (t::t2::ts) [.slice a 0 0,y] S=.ok (.value (.slice (some ⟨S.next,0,none⟩) n (2*n+1))) (S.new (.cells l el))):=by
 obtain⟨hu,inf,z',hi,rfl,rfl,hz,r,u⟩:=yV hs
 have c:=gW q he
 constructor
 .rintro rfl
  have p:l=[]:=by rw[eF]at hl;exact bV.mp hl
  subst p
  have h0:Nat.ble (0+0) (0 / 2)=true:=rfl
  rcases ha with rfl|⟨rfl,hg⟩
  .exact⟨S,by simp only[xe,hu,hi,c,qc,h0];rfl,.inl rfl⟩
  .cases hm:S.may b with
   |true=>exact⟨_,by simp only[xe,hu,hi,c,qc,h0,xu,eF,bM,hg,List.all_nil,Bool.true_and,hm,yK,xI];rfl,.inr ⟨rfl,rfl,rfl⟩⟩
   |false=>exact⟨S,by simp only[xe,hu,hi,c,qc,h0,xu,eF,bM,hg,List.all_nil,Bool.true_and,hm,yK,xI];rfl,.inl rfl⟩
 .intro hn
  have h0:Nat.ble (0+n) (0 / 2)=false:=by
   rw[cM];intro h;have:=aR h;omega
  have f:Zw inf (0+n) n l=true:=Vq (t:=t) (e:=el) r u (by rw[cB];exact hb) hp hl
  have j:wo el a 0 S=true:=rfl
  have d:xM inf.size 0 (.slice a 0 0) S=some []:=by
   rcases ha with rfl|⟨rfl,hg⟩
   .rfl
   .simp only[xM,hg,eF];rfl
  have g:X8 a 0 S=some S:=rfl
  simp only[xe,hu,hi,c,qc,h0,f,j,Bool.and_self,d,Zv,g,uP,i,cJ]
  simp only[cB]
  rfl
theorem wa(G:GX QL W s0 s C stk e F m Q O L Φ){d:Option Nat}{t t2 el2:TypeId}{ts:Array TypeId}{tr:List TypeId}{ag:Array Operand}{x y:Operand}{k:En->Option ρ}{r:ρ}{j t' w':Nat}{f:Ty}{xs:List f.T}
 (hts:ts.toList=t::t2::tr) (has:ag.toList=[x,y]) (hu2:Tryz.prog.underlying t2=some (.slice el2)) (hx:e.ev C x=some (.one (.own j))) (hy:e.ev C y=some (.one (.sl t' w' f xs))) (h:F6 Γ C e d t (.one (.own j)) (.one (.sl t' w' f xs)) k=some r) (hB:s0.next+(m+1)<=zA) (J:∃t w τ,zH e.objs j=some (.list t w τ [])) :
 ∃v,∀bar prot,s.next<=bar->∃S1,zj Tryz.prog (zd F) (.call ⟨.builtin .append,ag,ts⟩) {next:=s.next,bar:=bar,prot:=prot,heap:=s.heap}=.ok (.value v) S1/\∃u,vg QL W s0 (Fb s S1) C stk u (ba F d v) (m+1)/\k u=some r:=by
 unfold F6 at h
 split at h
 .next el sz τ z hel=>
  obtain⟨by_,zc,hs,hby,hsz,_⟩:=XC hel
  simp only at h
  split at h
  .next hh=>
   obtain⟨rfl,rfl,rfl⟩:=hh
   split at h
   .next t2' w2 τ2 l0 X K=>
    obtain⟨t9,w9,τ9,J⟩:=J
    rw[K]at J
    cases J
    simp only[aF]at X
    have hlj:=aR X.1
    have hw1:=aR X.2
    split at h
    .next hh2=>
     obtain⟨g1,g2,g3⟩:=hh2
     subst t2' w2 τ2
     obtain⟨rr,hrr,h⟩:=zT h
     obtain⟨P,hlen⟩:=gI hrr
     have P:rr=xs:=P
     subst rr
     simp only[jk,List.length_nil,cB]at hlen
     rw[zN]at K
     have hjq:j<Q.length:=by rw[<-G.len];exact(aM.mp K).1
     obtain⟨q,hq⟩:∃q,Q[j]? = some q:=⟨_,aE hjq⟩
     obtain⟨o,ho⟩:∃o,O[j]? = some o:=⟨_,aE (by rw[G.oq];exact hjq)⟩
     obtain⟨a,cap,hv,hc0,hn,hw,Y,hY1,g,hY3,hY4⟩:=G.obj j _ q o K hq ho
     obtain rfl:=hc0 rfl
     have hex:zd F x=.slice a 0 0:=by
      obtain⟨q',h1,h2,_⟩:=G.ev hx
      rw[hq]at h1;cases h1
      rw[(List.cons.inj h2).1,hv];rfl
     have hY0:Y=[]:=bV.mp (by simpa using hY1)
     subst hY0
     obtain⟨ay,cy,Ly,e1,hS,E,U⟩:=G.ev hy
     have hey:=(List.cons.inj e1).1
     have N:=G.see.kn.s _ _ _ _ hS
     have V:∀x∈Ly,x.length=w':=λx hx=>by
      obtain⟨i,hi,rfl⟩:=List.getElem_of_mem hx
      have Z:i<xs.length:=by omega
      have:=(U i xs[i] (aE Z)).len
      rw[aB,aE hi]at this
      exact this.trans hsz
     have hLp:Ly.flatten.all Go.M.plainCell=true:=by
      rw[List.all_eq_true]
      intro v hv
      obtain⟨c,hc,hv⟩:=List.mem_flatten.mp hv
      obtain⟨i,hi,rfl⟩:=List.getElem_of_mem hc
      have Z:i<xs.length:=by omega
      have:=(U i xs[i] (aE Z)).plain
      rw[aB,aE hi]at this
      exact(List.all_eq_true.mp this) v hv
     have hel2:∀S:St,S.heap=s.heap->kQ S w' (zd F y) xs.length Ly.flatten:=λS A=>by
      rw[hey,<-E]
      obtain⟨g1,g2⟩:=N.elems V hw1
      rw[E]at g1 g2 |-
      refine⟨g1,?_⟩
      rw[<-g2]
      simp only[xM,St.get,A]
     have hab:∀S:St,S.heap=s.heap->a=none\/a=some ⟨q.2,0,none⟩/\S.get q.2=some (.cells [] t'):=λS A=>by
      generalize hD:wx q.2 o=D at g
      generalize N:(Value.slice a ([]:List f.T).length 0)=sl at g
      generalize hcc:([]:List (List Value)).flatten=c at g
      generalize hn':([]:List f.T).length=n' at g
      cases g with
      |nil=>cases N;exact .inl rfl
      |block b' cap2 _ _ hl2 hcap2=>
       cases N
       cases o with
       |none=>cases hD
       |some o=>
        cases hD
        subst hcc
        refine .inr ⟨rfl,?_⟩
        have:=G.get hq ho
        simpa only[St.get,A,List.flatten_nil]using this
     have hmm:=G.H.most
     have hbl:xs.length*(by_+1)<=1073741824:=bK (eE hlen (Nat.succ_le_succ hby)) Uz
     have hfl:Ly.flatten.length=xs.length*w':=by rw[qQ V,E]
     have B:∀S,zj Tryz.prog (zd F) (.call ⟨.builtin .append,ag,ts⟩) S=xe Tryz.prog (t::t2::tr) [.slice a 0 0,zd F y] S:=λS=>by
      simp only[zj,xn,hts,has,qv,hex]
     have hroom:∀S:St,S.next=s.next->S.room=true:=λS A=>by
      rw[St.room,A];exact G.H.room Oz
     have hst:=λ(S:St) (h1:S.heap=s.heap) (h2:S.next=s.next)=>nM (ts:=tr) (b:=q.2) hs hu2 (hab S h1) (hel2 S h1) hLp hfl hbl (hroom S h2)
     cases hxs:xs.length with
     |zero=>
      -- it stays,under another number
      have hx0:xs=[]:=bV.mp hxs
      subst hx0
      have R:q.1=.slice a 0 0:=hv
      have fin:∀s1:St,HL [] s0 s1 L m->∃u,vg QL W s0 s1 C stk u (ba F d (.slice a 0 0)) (m+1)/\k u=some r:=λs1 H'=>by
       have G1:=G.move H' (bo:=.list t' w' f ([]:List f.T)) hq ho hlj ⟨a,0,hv,λ_=>rfl,hn,hw,[],hY1,g,hY3,hY4⟩ (λh=>nomatch h)
       unfold En.new at h
       rw[yf,bM]at h
       have hnth:=(G.drop j).nth (q:=q)
       obtain⟨u,G2,h2⟩:=G1.set (p:=.one (.own (e.setO j .dead).objs.length)) (v:=.slice a 0 0) ⟨q,hnth,by rw[R],_,_,_,R⟩ h
       exact⟨u,⟨_,_,_,_,{G2 with H:=G2.H.up Oz}⟩,h2⟩
      refine⟨.slice a 0 0,λbar prot hbar=>?_⟩
      .obtain⟨S',h1,h2⟩:=(hst {next:=s.next,bar:=bar,prot:=prot,heap:=s.heap} rfl rfl).1 hxs
       refine⟨S',by rw[B];exact h1,?_⟩
       rcases h2 with rfl|⟨hm,rfl,rfl⟩
       .exact fin _ G.H
       .exfalso
        rcases hab s rfl with h|⟨_,hg⟩
        .cases h
        .cases o with
         |none=>cases g
         |some o=>
          have:=G.lt hq ho
          simp only[St.may,aF]at hm
          have:=aR hm.1
          omega
     |succ n=>
      have hpos:0<xs.length:=by omega
      have hv2:=λ(S:St) h1 h2=>(hst S h1 h2).2 hpos
      have how:dk (W.x Φ) t' w' f [(s.next,.cells Ly.flatten t')] (some ⟨s.next,0,none⟩) xs.length (2*xs.length+1) xs:=
       ⟨rfl,hsz,Ly,E,.block s.next _ _ _ hfl.symm Oz,V,U⟩
      have fin:∃u,vg QL W s0 (s.new (.cells Ly.flatten t')) C stk u (ba F d (.slice (some ⟨s.next,0,none⟩) xs.length (2*xs.length+1))) (m+1)/\k u=some r:=by
       obtain⟨u,G1,h3⟩:=(G.drop j).newK Oz (o:=.cells Ly.flatten t') (v:=.slice (some ⟨s.next,0,none⟩) xs.length (2*xs.length+1)) (w:=.slice (some ⟨s.next,0,none⟩) xs.length (2*xs.length+1)) (b:=.list t' w' f xs) (l:=.own)
        ⟨_,_,rfl,(λh0=>by omega),how⟩ (λh=>nomatch h) ⟨_,(G.drop j).nth,rfl,_,_,_,rfl⟩ h
       exact⟨u,G1,h3⟩
      refine⟨.slice (some ⟨s.next,0,none⟩) xs.length (2*xs.length+1),λbar prot hbar=>⟨_,by rw[B];exact hv2 _ rfl rfl,fin⟩⟩
    .cases h
   .cases h
  .cases h
 .cases h
theorem pU{ty:TypeId}{pos:String}{af:Array Edge}{g:Option (Nat×Bool)}{d:Option Nat}{t t2 el a:TypeId}{ts:Array TypeId}{tr:List TypeId}{ag:Array Operand}{x y:Operand}{sz by_:Nat}{f:List Value}{P:FF->St->Prop}(hs:qg Tryz.prog t=some (el,sz,by_,f))(c:Tryz.prog.underlying t2=some (.slice a))(b:ts.toList=t::t2::tr)(has:ag.toList=[x,y])
 (hx:zd F x=.slice none 0 0) (he:kQ s sz (zd F y) 0 []) (k:P (ba F d (.slice none 0 0)) s):br Tryz.prog I ⟨d,.call ⟨.builtin .append,ag,ts⟩,ty,pos,af,g⟩ F s P:=by
 obtain⟨hu,inf,z',hi,rfl,rfl,hz,hz1,hz2⟩:=yV hs
 refine zE (v:=.slice none 0 0) (s':=s) ?_ k
 have h0:Nat.ble (0+0) (0 / 2)=true:=rfl
 simp only[zj,xn,b,has,qv,hx,xe,hu,hi,gW c he,qc,h0]
 rfl
theorem wb(G:GX QL W s0 s C stk e F m Q O L Φ){d:Option Nat}{t t2 el2:TypeId}{ts:Array TypeId}{tr:List TypeId}{ag:Array Operand}{x y:Operand}{k:En->Option ρ}{r:ρ}{P:FF->St->Prop}{j t' w':Nat}{τ':Ty}{ty:TypeId}{pos:String}{af:Array Edge}{g:Option (Nat×Bool)}{xs:List τ'.T}
 (hts:ts.toList=t::t2::tr) (has:ag.toList=[x,y]) (hu2:Tryz.prog.underlying t2=some (.slice el2)) (hx:e.ev C x=some (.one (.own j))) (hy:e.ev C y=some (.one (.sl t' w' τ' xs))) (h:F6 Γ C e d t (.one (.own j)) (.one (.sl t' w' τ' xs)) k=some r) (hB:s0.next+(m+1)<=zA)
 (hk:∀e' F' s' m',m'<=m+1->vg QL W s0 s' C stk e' F' m'->k e'=some r->P F' s'):br Tryz.prog I ⟨d,.call ⟨.builtin .append,ag,ts⟩,ty,pos,af,g⟩ F s P:=by
 unfold F6 at h
 split at h
 .next el sz τ z hel=>
  obtain⟨by_,zc,hs,hby,hsz,_⟩:=XC hel
  simp only at h
  split at h
  .next hh=>
   obtain⟨rfl,rfl,rfl⟩:=hh
   split at h
   .next t3 w3 τ3 l V hoj=>
    simp only[aF]at V
    have hlj:=aR V.1
    have hw1:=aR V.2
    split at h
    .next hh2=>
     obtain⟨rfl,rfl,rfl⟩:=hh2
     obtain⟨N,hl',h'⟩:=zT h
     clear h
     rw[zN]at hoj
     have hjq:j<Q.length:=by rw[<-G.len];exact(aM.mp hoj).1
     obtain⟨R,w⟩:∃q,Q[j]? = some q:=⟨_,aE hjq⟩
     obtain⟨oj,n⟩:∃o,O[j]? = some o:=⟨_,aE (by rw[G.oq];exact hjq)⟩
     obtain⟨aj,cj,S,hc0,how⟩:=G.obj j _ R oj hoj w n
     have hex:zd F x=.slice aj l.length cj:=by
      obtain⟨q',h1,h2,_⟩:=G.ev hx
      rw[w]at h1;cases h1
      rw[<-S];exact(List.cons.inj h2).1
     obtain⟨ay,cy,Ly,e1,hS,E,hLr⟩:=G.ev hy
     have hey:=(List.cons.inj e1).1
     have hsl:=G.see.kn.s _ _ _ _ hS
     have hLw:∀x∈Ly,x.length=w3:=λx hx=>by
      obtain⟨i,hi,rfl⟩:=List.getElem_of_mem hx
      have hi':i<xs.length:=by omega
      have:=(hLr i xs[i] (aE hi')).len
      rw[aB,aE hi]at this
      exact this.trans hsz
     have K:kQ s w3 (zd F y) xs.length Ly.flatten:=by
      rw[hey,<-E]
      have:=hsl.elems hLw hw1
      rw[E]at this |-
      exact this
     have Gj:=G.drop j
     -- the old block comes to the front
     obtain⟨L1,f,U⟩:∃L1,L.Perm (wx R.2 oj++L1)/\∀p,p∈L->(∀o,oj=some o->p.1≠R.2)->p∈L1:=by
      cases oj with
      |none=>exact⟨L,.refl _,λp hp _=>hp⟩
      |some o=>
       obtain⟨A,B,rfl⟩:=eI (G.own j R o w n hlj)
       refine⟨A++B,List.perm_middle,λp hp hne=>?_⟩
       rcases aW.mp hp with h|h
       .exact bJ _ h
       .rcases aJ.mp h with rfl|h
        .exact(hne o rfl rfl).elim
        .exact bA _ h
     by_cases hxs:xs.length=0
     ·-- it stays,under another number
      have hx0:xs=[]:=bV.mp hxs
      subst hx0
      obtain rfl:N=l:=by
       obtain⟨e2,_⟩:=gI hl'
       rw[e2];exact bP _
      have hL0:Ly=[]:=bV.mp E
      subst hL0
      have fin:∀s1:St,HL [] s0 s1 L m->P (ba F d (.slice aj N.length cj)) s1:=λs1 H'=>by
       have G1:=G.move H' (bo:=.list t3 w3 τ3 N) w n hlj ⟨aj,cj,S,hc0,how⟩ (λh=>nomatch h)
       unfold En.new at h'
       rw[yf,bM]at h'
       have M:=(G.drop j).nth (q:=R)
       obtain⟨e',G2,h2⟩:=G1.set (p:=.one (.own (e.setO j .dead).objs.length)) (v:=.slice aj N.length cj) ⟨R,M,by rw[S],_,_,_,S⟩ h'
       exact hk e' _ s1 m Oz G2.good h2
      obtain⟨hn',hw',Y,hY1,J,hY3,hY4⟩:=how
      generalize hD:wx R.2 oj=D at J f
      generalize hsl':(Value.slice aj N.length cj)=sl at J hex fin
      generalize hc:Y.flatten=c at J
      generalize hnn:N.length=nn at J
      cases J with
      |nil=>exact pU hs hu2 hts has hex K (fin s G.H)
      |block b cap2 _ _ hl2 hcap2=>
       have H1:=G.H.perm f
       refine KU H1 hs hu2 hts has hex K Oz Oz Oz λs' H'=>fin s' (H'.perm f.symm)
     .refine gV (W:=W.x Φ) (D:=wx R.2 oj) (L:=L1) (l:=jk rfl l) (xs:=jk rfl xs) (X:=Ly) (G.H.perm f) how hl' hs hu2 hts has hex K E.symm Oz E.symm hLr hby Oz ?_
      intro a' u b c s' H' ho'
      have Z:∀(a:Nat) o1,(zM O j none)[a]? = some (some o1)->a≠j/\O[a]? = some (some o1):=λa o1 ha=>by
       rw[xV]at ha
       split at ha
       .cases ha
       .next h1=>
        refine⟨λe=>?_,ha⟩
        subst e
        exact h1 ⟨rfl,by rw[G.oq];exact hjq⟩
      have hne:N.length≠0:=by
       obtain⟨rfl,_⟩:=gI hl'
       rw[aQ]
       have:(jk (rfl:τ3=τ3) xs).length=xs.length:=rfl
       omega
      have G1:=Gj.swap (v:=.slice a' N.length u) (bo:=.list t3 w3 τ3 N) H'
       (λp hp=>U p (G.fro hp) λo ho=>by subst ho;exact G.dis j R o p hlj w n hp)
       (λa q o1 h1 h2 h3=>by
        obtain⟨g1,g2⟩:=Z a o1 h2
        exact U _ (G.own a q o1 h1 g2 h3) λo ho he=>by subst ho;exact g1 (G.inj a j q R o1 o h1 w g2 n he))
       ⟨a',u,rfl,λh0=>(hne h0).elim,ho'⟩ (λh=>nomatch h)
      unfold En.new at h'
      rw[yf,bM]at h'
      have M:=Gj.nth (q:=(Value.slice a' N.length u,b))
      obtain⟨e',G2,h2⟩:=G1.set (p:=.one (.own (e.setO j .dead).objs.length)) (v:=.slice a' N.length u) ⟨_,M,rfl,_,_,_,rfl⟩ h'
      exact hk e' _ s' _ (aN _) G2.good h2
    .cases h
   .cases h
  .cases h
 .cases h
theorem xt(G:GX QL W s0 s C stk e F m Q O L Φ){d:Option Nat}{t t2 el2:TypeId}{ts:Array TypeId}{tr:List TypeId}{ag:Array Operand}{x y:Operand}{px py:Pv}{k:En->Option ρ}{r:ρ}{P:FF->St->Prop}{ty:TypeId}{pos:String}{af:Array Edge}{g:Option (Nat×Bool)}
 (hts:ts.toList=t::t2::tr) (has:ag.toList=[x,y]) (hu2:Tryz.prog.underlying t2=some (.slice el2)) (hx:e.ev C x=some px) (hy:e.ev C y=some py) (h:F6 Γ C e d t px py k=some r) (hB:s0.next+(m+1)<=zA)
 (hk:∀e' F' s' m',m'<=m+1->vg QL W s0 s' C stk e' F' m'->k e'=some r->P F' s'):br Tryz.prog I ⟨d,.call ⟨.builtin .append,ag,ts⟩,ty,pos,af,g⟩ F s P:=by
 unfold F6 at h
 split at h
 .next el sz τ z hel=>
  obtain⟨by_,zc,hs,hby,hsz,_⟩:=XC hel
  split at h
  .next i=>
   split at h
   .next t' w' τ' mm hoi=>
    split at h
    .next hh=>
     obtain⟨rfl,rfl,rfl⟩:=hh
     split at h
     .cases h
     .next m0 ml=>
      split at h
      .cases h
      .next hli=>
       have hli:=aR hli
       rw[zN]at hoi
       have hiq:i<Q.length:=by rw[<-G.len];exact(aM.mp hoi).1
       obtain⟨qi,hqi⟩:∃q,Q[i]? = some q:=⟨_,aE hiq⟩
       obtain⟨oi,S⟩:∃o,O[i]? = some o:=⟨_,aE (by rw[G.oq];exact hiq)⟩
       obtain⟨ai,ci,hvi,_,hni,hwi,Y,M,w,hY3,hY4⟩:=G.obj i _ qi oi hoi hqi S
       have hey:zd F y=qi.1:=by
        obtain⟨q',h1,h2,_⟩:=G.ev hy
        rw[hqi]at h1;cases h1
        exact(List.cons.inj h2).1
       have R:kQ s w' (zd F y) (m0::ml).length Y.flatten:=by
        rw[hey,hvi]
        generalize hD:wx qi.2 oi=D at w
        generalize hc:Y.flatten=c at w |-
        generalize hsl:(Value.slice ai (m0::ml).length ci)=sl at w |-
        generalize hn:(m0::ml).length=n at w |-
        cases w with
        |nil=>exact JA
        |block b f _ _ hl hcap=>
         cases oi with
         |none=>cases hD
         |some o=>cases hD;exact qD (G.get hqi S) hl
       have Gi:=G.drop i
       split at h
       ·-- onto nothing
        obtain⟨N,E,h⟩:=zT h
        refine gV (W:=W.x Φ) (D:=[]) (L:=L) (a:=none) (len:=0) (cap:=0) (l:=[]) (xs:=m0::ml) (X:=Y) (by exact G.H) (dk.nil hsz) E hs hu2 hts has ?_ R M.symm Y8 M.symm hY4 hby Oz ?_
        .exact(List.cons.inj (show [zd F x]=_ from G.ev hx)).1
        .intro a' f b c s' H' ho'
         have G1:=Gi.swap (v:=.slice a' N.length f) (bo:=.list t' w' τ' N) H' Gi.fro Gi.own ⟨a',f,rfl,λh0=>(nL (m:=ml) (x:=m0) E h0).elim,ho'⟩ (λh=>nomatch h)
         unfold En.new at h
         rw[yf,bM]at h
         have J:=Gi.nth (q:=(Value.slice a' N.length f,b))
         obtain⟨e',G2,h2⟩:=G1.set (p:=.one (.own (e.setO i .dead).objs.length)) (v:=.slice a' N.length f) ⟨_,J,rfl,_,_,_,rfl⟩ h
         exact hk e' _ s' _ (aN _) G2.good h2
       .next j=>
        split at h
        .next t3 w3 τ3 l Z hoj=>
         split at h
         .next hh2=>
          obtain⟨rfl,rfl,rfl⟩:=hh2
          simp only[Bool.or_eq_false_iff,eU]at Z
          have hne:j≠i:=λe=>by subst e;simp at Z
          have hlj:=aR Z.2
          obtain⟨N,E,h⟩:=zT h
          rw[zN]at hoj
          have hjq:j<Q.length:=by rw[<-G.len];exact(aM.mp hoj).1
          obtain⟨qj,K⟩:∃q,Q[j]? = some q:=⟨_,aE hjq⟩
          obtain⟨oj,u⟩:∃o,O[j]? = some o:=⟨_,aE (by rw[G.oq];exact hjq)⟩
          obtain⟨aj,cj,hvj,_,how⟩:=G.obj j _ qj oj hoj K u
          have hex:zd F x=.slice aj l.length cj:=by
           obtain⟨q',h1,h2,_⟩:=G.ev hx
           rw[K]at h1;cases h1
           rw[<-hvj];exact(List.cons.inj h2).1
          have Gj:=Gi.drop j
          -- the old block comes to the front
          obtain⟨L1,hperm,U⟩:∃L1,L.Perm (wx qj.2 oj++L1)/\∀p,p∈L->(∀o,oj=some o->p.1≠qj.2)->p∈L1:=by
           cases oj with
           |none=>exact⟨L,.refl _,λp hp _=>hp⟩
           |some o=>
            obtain⟨A,B,rfl⟩:=eI (G.own j qj o K u hlj)
            refine⟨A++B,List.perm_middle,λp hp hne=>?_⟩
            rcases aW.mp hp with h|h
            .exact bJ _ h
            .rcases aJ.mp h with rfl|h
             .exact(hne o rfl rfl).elim
             .exact bA _ h
          have V:∀(a:Nat) o1,(zM (zM O i none) j none)[a]? = some (some o1)->a≠j/\O[a]? = some (some o1):=λa o1 ha=>by
           rw[xV]at ha
           split at ha
           .cases ha
           .next h1=>
            rw[xV]at ha
            split at ha
            .cases ha
            .refine⟨λe=>?_,ha⟩
             subst e
             exact h1 ⟨rfl,by rw[y9,G.oq];exact hjq⟩
          refine gV (W:=W.x Φ) (D:=wx qj.2 oj) (L:=L1) (l:=jk rfl l) (xs:=jk rfl (m0::ml)) (X:=Y) (G.H.perm hperm) how E hs hu2 hts has hex R M.symm Y8 M.symm hY4 hby Oz ?_
          intro a' f b c s' H' ho'
          have G1:=Gj.swap (v:=.slice a' N.length f) (bo:=.list t3 w3 τ3 N) H'
           (λp hp=>U p (G.fro hp) λo ho=>by subst ho;exact G.dis j qj o p hlj K u hp)
           (λa q o1 h1 h2 h3=>by
            obtain⟨g1,g2⟩:=V a o1 h2
            exact U _ (G.own a q o1 h1 g2 h3) λo ho he=>by subst ho;exact g1 (G.inj a j q qj o1 o h1 K g2 u he))
           ⟨a',f,rfl,λh0=>(nL (m:=ml) (x:=m0) E h0).elim,ho'⟩ (λh=>nomatch h)
          unfold En.new at h
          rw[yf,bM]at h
          have J:=Gj.nth (q:=(Value.slice a' N.length f,b))
          obtain⟨e',G2,h2⟩:=G1.set (p:=.one (.own ((e.setO i .dead).setO j .dead).objs.length)) (v:=.slice a' N.length f) ⟨_,J,rfl,_,_,_,rfl⟩ h
          exact hk e' _ s' _ (aN _) G2.good h2
         .cases h
        .cases h
       .cases h
    .cases h
   .cases h
  .next t' w' τ' xs=>
   split at h
   .next hh=>
    split at h
    .next j=>
     exact wb G hts has hu2 hx hy (by unfold F6;rw[hel];simp only;rw[dif_pos hh];exact h) hB hk
    .cases h
   .cases h
  .cases h
 .cases h
end
end Go.Proofs.YtocnbjjmmgolfaaGreat
