/- The evaluator: operations that write nothing, joined. -/
import Derived.Test.YtocnbjjmmgolfaaGreatA14
set_option linter.unusedSimpArgs false
set_option linter.unusedVariables false
set_option linter.unusedSectionVars false
namespace Go.Proofs.YtocnbjjmmgolfaaGreat
open Go Go.M Go.Proofs.C14
section
variable{W:Wd}{D:Hp'}{Q:Qs}{C:Cx}{e:En}{F:FF}{s s':St}{ρ:Type}{r:ρ}{k:Pv→Option ρ}
theorem zcB{t:TypeId}{b off len cap n sz j:Nat}{kd:IntKind}(he:wF Tryz.prog t=some (true,n,sz)):kU Tryz.prog t (.slice (some ⟨b,off,none⟩) len cap) (.int kd (j:Int)) s'=xn j len b off sz s':=by
 show kU Tryz.prog t _ (.int kd (.ofNat j)) s'=_
 simp only[kU,he]
theorem zaq{t:TypeId}{a i:Pv}{v u:Value}(hs:See W Q C e F s)(ha:PvR W Q a v)(hi:PvR W Q i u)(h:ZP C e t a i k=some r)(s':St) :
 ∃p w,kU Tryz.prog t v u s'=.ok (.value w) s'∧PvR W Q p w∧k p=some r:=by
 unfold ZP at h
 split at h
 ·next kd i n sz t' w τ l he=>
  cases hi
  split at h
  ·next A=>
   obtain rfl:=aJ A
   obtain⟨x,hx,z⟩:=zP h
   obtain⟨h0,h1,h2⟩:=qF hx
   obtain⟨a',cap,L,e1,y,hn,hl⟩:=ha
   simp only[List.cons.injEq,fB]at e1
   subst e1
   obtain⟨j,rfl⟩:=Int.eq_ofNat_of_zero_le h0
   obtain⟨b,off,c,rfl,hg,hb,hc⟩:=(hs.kn.s _ _ _ _ y).at (i:=(j:Int)) (k:=j) Oz Oz
   have d:Nat.blt j l.length=true:=wM Oz
   refine⟨.one (.ep t' w τ x 0),.pointer (some ⟨b,off+j*w,none⟩),?_,⟨b,off,l.length,cap,L,j,y,by omega,hl _ _ h2,by simp only[bK]⟩,z⟩
   rw[zcB he];simp only[xn,d];rfl
  ·cases h
 ·next kd i n sz j he=>
  cases hi
  split at h
  ·next t' w τ l ho=>
   split at h
   ·next A=>
    obtain rfl:=aJ A
    obtain⟨x,hx,z⟩:=zP h
    obtain⟨h0,h1,h2⟩:=qF hx
    obtain⟨q,a,cap,f,hv,hl⟩:=hs.lst _ _ _ _ _ ho
    obtain⟨q',g,e1,_⟩:=ha
    rw[f]at g;cases g
    simp only[List.cons.injEq,fB]at e1
    obtain⟨c,tt,L,ea,_,hgc,hcc,E⟩:=hl _ _ h2
    rw[hv,ea]at e1
    subst e1
    obtain⟨B,rfl⟩:=Int.eq_ofNat_of_zero_le h0
    have d:Nat.blt B l.length=true:=wM Oz
    refine⟨.one (.op j w (B:Int) 0),.pointer (some ⟨q.2,0+B*w,none⟩),?_,⟨q,f,by simp only[bK,cA,Int.toNat_natCast]⟩,z⟩
    rw[zcB he];simp only[xn,d];rfl
   ·cases h
  ·cases h
 ·next kd i n sz j m he=>
  cases hi
  split at h
  ·next d=>
   obtain⟨q,f,hx⟩:=ha
   simp only[List.cons.injEq,fB]at hx
   subst hx
   refine⟨.one (.ptr j (0+i*sz)),.pointer (some ⟨q.2,0+i*sz,none⟩),?_,⟨q,f,rfl⟩,h⟩
   show kU Tryz.prog t _ (.int kd (.ofNat i)) s'=_
   simp only[kU,he,xn,d];rfl
  ·cases h
 ·next kd i n sz j off he=>
  cases hi
  split at h
  ·next d=>
   obtain⟨q,f,hx⟩:=ha
   simp only[List.cons.injEq,fB]at hx
   subst hx
   refine⟨.one (.ptr j (off+i*sz)),.pointer (some ⟨q.2,off+i*sz,none⟩),?_,⟨q,f,rfl⟩,h⟩
   simp only[kU,he,xn,d];rfl
  ·cases h
 ·next kd i n sz t' w τ x off he=>
  cases hi
  split at h
  ·next d=>
   obtain⟨b,o,H,cap,L,G,y,hk,E,hx⟩:=ha
   simp only[List.cons.injEq,fB]at hx
   subst hx
   refine⟨.one (.ep t' w τ x (off+i*sz)),.pointer (some ⟨b,o+G*w+off+i*sz,none⟩),?_,⟨b,o,H,cap,L,G,y,hk,E,by simp only[Nat.add_assoc]⟩,h⟩
   simp only[kU,he,xn,d];rfl
  ·cases h
 ·next kd i n sz j w x off he=>
  cases hi
  split at h
  ·next d=>
   obtain⟨q,f,hx⟩:=ha
   simp only[List.cons.injEq,fB]at hx
   subst hx
   refine⟨.one (.op j w x (off+i*sz)),.pointer (some ⟨q.2,x.toNat*w+off+i*sz,none⟩),?_,⟨q,f,by simp only[Nat.add_assoc]⟩,h⟩
   simp only[kU,he,xn,d];rfl
  ·cases h
 ·cases h
theorem field_ok{t:TypeId}{a p:Pv}{f:Nat}{v:Value}(ha:PvR W Q a v)(h:zeP t a f=some p)(s':St):∃w,ZT Tryz.prog t v f s'=.ok (.value w) s'∧PvR W Q p w:=by
 unfold zeP at h
 split at h
 ·next l fs hu=>
  obtain⟨c,rfl,ha⟩:=ha
  split at h
  ·next fd hf=>
   obtain⟨w,h1,h2⟩:=VB ha h
   exact⟨w,by simp only[ZT,hu,hf,h1];rfl,h2⟩
  ·cases h
 ·cases h
theorem index_ok{Γ:TypeId→Option Ty}{t:TypeId}{a i:Pv}{v u:Value}(ha:PvR (W.x D) Q a v)(hi:PvR (W.x D) Q i u)(h:zeG Γ t a i k=some r)(s':St):∃p w,wC Tryz.prog t v u s'=.ok (.value w) s'∧PvR (W.x D) Q p w∧k p=some r:=by
 unfold zeG at h
 split at h
 ·next kd i l len H hu=>
  cases hi
  obtain⟨c,rfl,ha⟩:=ha
  split at h
  ·next τ inf hΓ y=>
   split at h
   ·next xs j A=>
    simp only[aG]at j
    obtain⟨x,hx,I⟩:=zP h
    obtain⟨h0,h1,h2⟩:=qF hx
    obtain⟨Y,e1,e2,e3,E,G⟩:=KB ha A
    obtain⟨n,rfl⟩:=Int.eq_ofNat_of_zero_le h0
    have z:Nat.blt n len=true:=wM Oz
    have hsz:=aJ j.2
    have b:=G _ _ h2
    simp only[Int.toNat_natCast]at b
    have f:=gm E (k:=n) Oz
    rw[cA,e1]at f
    have key:∃w,jk (zV Tryz.prog H) (n*inf.size) c=some w∧PvR (W.x D) Q (pvQ (τ.isAgg,Zp τ x)) w:=by
     rw[←hsz]
     have d:=j.1
     unfold likeK at d
     split at d
     ·next q=>
      rw[q]
      simp only[aG,bC]at d
      have g:=aJ d.2
      have hl:=Rep.len b
      rw[g]at hl
      obtain⟨w,B⟩:=List.length_eq_one_iff.mp hl
      rw[B,g]at f
      refine⟨w,?_,?_⟩
      ·rw[g];exact WM (o:=0) f rfl
      ·rw[d.1]
       rw[B]at b
       cases τ with
       |int k=>exact(show LfR (W.x D) Q (.int k x) [w]from b)
       |bool=>exact(show LfR (W.x D) Q (.bool x) [w]from b)
       |sl t w' e=>exact(show LfR (W.x D) Q (.sl t w' e x) [w]from b)
       |tup=>exact b.elim
       |tup3=>exact b.elim
       |_=>cases d.1
     ·next m q=>
      rw[q]
      simp only[aG]at d
      have g:=aJ d.2
      subst g
      refine⟨_,by simp only[jk,f];rfl,?_⟩
      rw[d.1]
      exact⟨_,rfl,vA b⟩
     ·cases d
    obtain⟨w,g1,g2⟩:=key
    refine⟨_,w,?_,g2,I⟩
    show wC Tryz.prog t _ (.int kd (.ofNat n)) s'=_
    simp only[wC,hu,z,y,g1];rfl
   ·cases h
  ·cases h
 ·cases h
theorem len_ok{t:TypeId}{a p:Pv}{v:Value}(hs:See W Q C e F s)(ha:PvR W Q a v)(h:lenK C e t a=some p)(ts:List TypeId)(s':St):∃w,Vc Tryz.prog (t::ts) [v] s'=.ok (.value w) s'∧PvR W Q p w:=by
 unfold lenK at h
 split at h
 ·next c hu=>cases h;cases ha;exact⟨_,by simp only[Vc,hu];rfl,rfl⟩
 ·next c t' w τ l hu=>
  cases h
  obtain⟨a',cap,L,e1,_⟩:=ha
  simp only[List.cons.injEq,fB]at e1
  subst e1
  exact⟨.int .i64 (l.length:Int),by simp only[Vc,hu];rfl,rfl⟩
 ·next c j n hu=>
  cases h
  obtain⟨q,d,hx⟩:=ha
  simp only[List.cons.injEq,fB]at hx
  subst hx
  exact⟨.int .i64 (n:Int),by simp only[Vc,hu];rfl,rfl⟩
 ·next c j hu=>
  split at h
  ·next t' w τ l ho=>
   cases h
   obtain⟨q,a,cap,d,hv,hl⟩:=hs.lst _ _ _ _ _ ho
   obtain⟨q',b,e1,_⟩:=ha
   rw[d]at b;cases b
   simp only[List.cons.injEq,fB]at e1
   rw[hv]at e1
   subst e1
   exact⟨.int .i64 (l.length:Int),by simp only[Vc,hu];rfl,rfl⟩
  ·cases h
 ·cases h
theorem zdX:∀{l:List (Bool×List Lf)} {vs:List Value} {i:Nat} {p:Bool×List Lf},TsR W Q l vs→zF l i=some p→∃v,zF vs i=some v∧QR W Q p v
 |x::l,vs,0,p,⟨v,r,e,h1,h2⟩,h=>by cases h;subst e;exact⟨v,rfl,h1⟩
 |x::l,vs,i+1,p,⟨v,r,e,h1,h2⟩,h=>by subst e;exact zdX (l:=l) (vs:=r) (i:=i) h2 h
theorem zeQ{a p:Pv}{i:Nat}{v:Value}(ha:PvR W Q a v)(h:Vr a i=some p)(s':St):∃w,vB v i s'=.ok (.value w) s'∧PvR W Q p w:=by
 unfold Vr at h
 split at h
 ·next l=>
  obtain⟨vs,rfl,ha⟩:=ha
  split at h
  ·next l' hl=>
   cases h
   obtain⟨w,h1,h2⟩:=zdX ha hl
   exact⟨w,by simp only[vB,h1];rfl,h2⟩
  ·next x hl=>
   cases h
   obtain⟨w,h1,x',h2,b⟩:=zdX ha hl
   simp only[List.cons.injEq,fB]at h2
   subst h2
   exact⟨w,by simp only[vB,h1];rfl,b⟩
  ·cases h
 ·cases h
theorem build_ok{Γ:TypeId→Option Ty}{t:TypeId}{parts:List (Nat×Operand)}{p:Pv}(b:∀x p,e.ev C x=some p→PvR (W.x D) Q p (zd F x))(h:zfH Γ C e t parts=some p)(s':St):∃w,wL Tryz.prog t parts (zd F) s'=.ok (.value w) s'∧PvR (W.x D) Q p w:=by
 unfold zfH at h
 split at h
 ·next z fs τ f hu hΓ=>
  split at h
  ·next l hl a=>
   split at h
   ·next c hc=>
    cases h
    obtain⟨c',h1,h2⟩:=QQ b (jO (W:=W) (D:=D) (Q:=Q) hl) hc
    exact⟨_,by simp only[wL,f,hu,a,h1];rfl,c',rfl,h2⟩
   ·cases h
  ·cases h
 ·next z el τ f hu hΓ=>
  split at h
  ·next l inf hl d=>
   split at h
   ·next c hc=>
    cases h
    obtain⟨c',h1,h2⟩:=QQ b (jO (W:=W) (D:=D) (Q:=Q) hl) hc
    exact⟨_,by simp only[wL,f,hu,d,h1];rfl,c',rfl,h2⟩
   ·cases h
  ·cases h
 ·cases h
theorem J0{Γ:TypeId→Option Ty}{o:Op}(hs:See (W.x D) Q C e F s)(hb:∀t x,o=.load t x→∀p,zd F x=.pointer (some p)→p.block<s.next→s'.get p.block=s.get p.block)(h:KF Γ C e o k=some r) :
 ∃p v,zh Tryz.prog (zd F) o s'=.ok (.value v) s'∧PvR (W.x D) Q p v∧k p=some r:=by
 unfold KF at h
 split at h
 ·obtain⟨p,hp,h⟩:=yR h
  exact⟨p,_,rfl,hs.ev _ _ hp,h⟩
 ·obtain⟨p,hp,h⟩:=yR h
  exact⟨p,_,rfl,hs.ev _ _ hp,h⟩
 ·next c a b=>
  split at h
  ·next G hc=>
   have hc:=hs.ev _ _ hc
   have hc:zd F c=.bool G:=by have:[zd F c]=[Value.bool G]:=hc;simpa using this
   split at h
   ·next g=>
    subst g
    obtain⟨p,hp,h⟩:=yR h
    exact⟨p,_,by simp only[zh,YA,hc];rfl,hs.ev _ _ hp,h⟩
   ·next g=>
    obtain rfl:G=false:=by simpa using g
    obtain⟨p,hp,h⟩:=yR h
    exact⟨p,_,by simp only[zh,YA,hc];rfl,hs.ev _ _ hp,h⟩
  ·cases h
 ·next t x=>
  obtain⟨a,ha,h⟩:=yR h
  exact load_ok hs (hb t x rfl) (hs.ev _ _ ha) h
 ·next t x f=>
  obtain⟨a,ha,h⟩:=yR h
  obtain⟨p,hp,h⟩:=yR h
  obtain⟨u,h1,h2⟩:=zaD (hs.ev _ _ ha) hp s'
  exact⟨p,u,h1,h2,h⟩
 ·next t x i=>
  obtain⟨a,ha,h⟩:=yR h
  obtain⟨S,hi,h⟩:=yR h
  exact zaq hs (hs.ev _ _ ha) (hs.ev _ _ hi) h s'
 ·next t x f=>
  obtain⟨a,ha,h⟩:=yR h
  obtain⟨p,hp,h⟩:=yR h
  obtain⟨u,h1,h2⟩:=field_ok (hs.ev _ _ ha) hp s'
  exact⟨p,u,h1,h2,h⟩
 ·next t x i=>
  obtain⟨a,ha,h⟩:=yR h
  obtain⟨S,hi,h⟩:=yR h
  exact index_ok (hs.ev _ _ ha) (hs.ev _ _ hi) h s'
 ·next o' t x y t2=>
  obtain⟨a,ha,h⟩:=yR h
  obtain⟨b,d,h⟩:=yR h
  exact bin_ok hs.kn (hs.ev _ _ ha) (hs.ev _ _ d) h s'
 ·next t x=>
  split at h
  ·next b d=>
   have hc:zd F x=.bool b:=by have:[zd F x]=[Value.bool b]:=hs.ev _ _ d;simpa using this
   exact⟨.one (.bool (!b)),.bool (!b),by simp only[zh,unM,hc];rfl,rfl,h⟩
  ·cases h
 ·next t x=>
  split at h
  ·next a ha=>
   have hc:zd F x=.int .i64 a:=by have:[zd F x]=[Value.int .i64 a]:=hs.ev _ _ ha;simpa using this
   obtain⟨z,P,h⟩:=zP h
   obtain⟨rfl,B⟩:=wD P
   refine⟨.one (.int .i64 (0-a)),.int .i64 (0-a),?_,rfl,h⟩
   have:=Yn B
   simp only[zh,unM,hc]
   show Res.ok (Next.value (Value.int .i64 (IntKind.i64.wrap (0-a)))) s'=_
   rw[this]
  ·next a hx=>
   have hc:zd F x=.int .u64 a:=(List.cons.inj (show [zd F x]=_ from hs.ev _ _ hx)).1
   refine⟨.one (.int .u64 ((0-a) % 18446744073709551616)),.int .u64 ((0-a) % 18446744073709551616),?_,rfl,h⟩
   simp only[zh,unM,hc]
   show Res.ok (Next.value (Value.int .u64 (IntKind.u64.wrap (0-a)))) s'=_
   rw[wrapU]
  ·cases h
 ·next x i=>
  obtain⟨a,ha,h⟩:=yR h
  obtain⟨p,hp,h⟩:=yR h
  obtain⟨u,h1,h2⟩:=zeQ (hs.ev _ _ ha) hp s'
  exact⟨p,u,h1,h2,h⟩
 ·next x=>
  split at h
  ·next j off hp=>
   have hp:=hs.ev _ _ hp
   obtain⟨q,M,hx⟩:=hp
   simp only[List.cons.injEq,fB]at hx
   exact⟨.one (.ptr j off),.pointer (some ⟨q.2,off,none⟩),by simp only[zh,KX,hx];rfl,⟨q,M,rfl⟩,h⟩
  ·next t w τ y off hp=>
   have hp:=hs.ev _ _ hp
   obtain⟨b,o,T,cap,L,R,E,hk,I,hx⟩:=hp
   simp only[List.cons.injEq,fB]at hx
   exact⟨.one (.ep t w τ y off),.pointer (some ⟨b,o+R*w+off,none⟩),by simp only[zh,KX,hx];rfl,⟨b,o,T,cap,L,R,E,hk,I,rfl⟩,h⟩
  ·next j w i off hp=>
   have hp:=hs.ev _ _ hp
   obtain⟨q,M,hx⟩:=hp
   simp only[List.cons.injEq,fB]at hx
   exact⟨.one (.op j w i off),.pointer (some ⟨q.2,i.toNat*w+off,none⟩),by simp only[zh,KX,hx];rfl,⟨q,M,rfl⟩,h⟩
  ·next f hp=>
   have hx:[zd F x]=_:=hs.ev _ _ hp
   simp only[List.cons.injEq,fB]at hx
   exact⟨.one (.fn f),_,by simp only[zh,KX,hx];rfl,rfl,h⟩
  ·next f l hp=>
   have hp:=hs.ev _ _ hp
   obtain⟨cs,hx,hl⟩:=hp
   exact⟨.clo f l,_,by simp only[zh,KX,hx];rfl,⟨cs,rfl,hl⟩,h⟩
  ·cases h
 ·next src dst x=>
  split at h
  ·next a' b' a m A hx=>
   have hx:zd F x=.int .i64 a:=(List.cons.inj (show [zd F x]=_ from hs.ev _ _ hx)).1
   refine⟨.one (.int .u64 (a % 18446744073709551616)),.int .u64 (a % 18446744073709551616),?_,rfl,h⟩
   simp only[zh,vC,m,A,hx,wrapU];rfl
  ·next a' b' a m A hx=>
   have hx:zd F x=.int .u64 a:=(List.cons.inj (show [zd F x]=_ from hs.ev _ _ hx)).1
   obtain⟨z,P,h2⟩:=zP h
   obtain⟨rfl,B⟩:=wD P
   refine⟨.one (.int .i64 z),.int .i64 z,?_,rfl,h2⟩
   simp only[zh,vC,m,A,hx,Yn B];rfl
  ·cases h
 ·next t x=>
  split at h
  ·next n el t' w τ l hu hx=>
   split at h
   ·next hn=>
    obtain⟨a,cap,L,e1,E,H,I⟩:=hs.ev _ _ hx
    have N:=hs.kn.s _ _ _ _ E
    cases N with
    |nil c hv hl=>rw[hl]at H;simp at H;omega
    |block b off cap' c hv hgc hbn hcap hc=>
     have hx:zd F x=.slice (some ⟨b,off,none⟩) L.length cap':=by rw[←hv];exact(List.cons.inj e1).1
     refine⟨.one (.sp t' w τ l),.pointer (some ⟨b,off,none⟩),?_,⟨b,off,_,_,L,rfl,by rw[←hv];exact E,H,I⟩,h⟩
     have K:Nat.ble (n+1) L.length=true:=aZ Oz
     simp only[zh,arrM,hu,hx,K];rfl
   ·cases h
  ·cases h
 ·next t parts=>
  obtain⟨p,hp,h⟩:=yR h
  obtain⟨u,h1,h2⟩:=build_ok hs.ev hp s'
  exact⟨p,u,h1,h2,h⟩
 ·next f caps=>
  split at h
  ·next hk=>
   obtain⟨l,hl,h⟩:=yR h
   exact⟨.clo f l,_,by simp only[zh,hk];rfl,⟨_,rfl,zgZ hs.ev hl⟩,h⟩
  ·cases h
 ·next c=>
  split at h
  ·next t ts x hc O J=>
   obtain⟨a,ha,h⟩:=yR h
   obtain⟨p,hp,h⟩:=yR h
   obtain⟨u,h1,h2⟩:=len_ok hs (hs.ev _ _ ha) hp ts s'
   exact⟨p,u,by simp only[zh,hc,O,J,xp,qB];exact h1,h2,h⟩
  ·cases h
 ·cases h
end
def wl(b:Nat):Option MObj→Hp'
 |none=>[]
 |some o=>[(b,o)]
abbrev SvF(W:Wd)(Q:Qs)(l:List (Nat×Pv))(F:FF):Prop:=∀p,p∈l→PvR W Q p.2 (F p.1)
def codeOK(N:Nat)(x y:Code):Prop:=(xT x&&xT y&&kB x&&kB y)=true∧q7 N x=true∧q7 N y=true
def ObjR(W:Wd)(Q:Qs):Ob→Value×Nat→Option MObj→Prop
 | .cells l,_,o=>∃c t,o=some (.cells c t)∧LsR W Q l c
 | .loop N slots ps x y st pend,_,o=>codeOK N x y∧∃fr b,o=some (.loop {fr:=fr,params:=ps,assign:=x,body:=y,state:=st,pend:=pend})∧Agrees N b fr∧SvF W Q slots b
 | .list t w e l,q,o=>∃a cap,q.1=.slice a l.length cap∧(l.length=0→cap=0)∧OwnL W t w e (wl q.2 o) a l.length cap l
 |_,_,_=>True
structure Fra where
 slots:List (Nat×Pv)
 F:FF
 n:Nat
 psi:Hp':=[]
structure GX(QL:Qs)(W:Wd)(s0 s:St)(C:Cx)(stk:List Fra)(e:En)(F:FF)(m:Nat)(Q:Qs)(O:List (Option MObj))(L Φ:Hp'):Prop where
 K:Knw s0 W
 H:HL [] s0 s L m
 oq:O.length=Q.length
 len:e.objs.length=Q.length
 cn:C.n≤Q.length
 ln:C.lent≤C.n
 pre:∀(i:Nat),i<C.lent→Q[i]? = QL[i]?
 fro:Φ⊆L
 own:∀(i:Nat) q o,Q[i]? = some q→O[i]? = some (some o)→C.lent≤i→(q.2,o)∈L
 lent:∀(i:Nat) q o,Q[i]? = some q→O[i]? = some (some o)→i<C.lent→s.get q.2=some o∧q.2<s0.next
 inj:∀(i j:Nat) q r o o',Q[i]? = some q→Q[j]? = some r→O[i]? = some (some o)→O[j]? = some (some o')→q.2=r.2→i=j
 dis:∀(i:Nat) q o p,C.lent≤i→Q[i]? = some q→O[i]? = some (some o)→p∈Φ→p.1≠q.2
 obj:∀(i:Nat) b q o,e.objs[i]? = some b→Q[i]? = some q→O[i]? = some o→ObjR (W.x Φ) Q b q o
 cob:∀(i:Nat) b q o,e.objs[i]? = some .const→C.objs[i]? = some b→Q[i]? = some q→O[i]? = some o→ObjR (W.x Φ) (Q.take C.n) b q o
 slots:SvF (W.x Φ) Q e.slots F
 cslots:SvF (W.x Φ) (Q.take C.n) C.slots F
 stk:∀f,f∈stk→f.n≤C.n∧SvF (W.x Φ) (Q.take f.n) f.slots f.F∧f.psi⊆Φ
def k8(QL:Qs)(W:Wd)(s0 s:St)(C:Cx)(stk:List Fra)(e:En)(F:FF)(m:Nat):Prop:=∃Q O L Φ,GX QL W s0 s C stk e F m Q O L Φ
theorem Vn{α:Type}{l:List (Nat×α)}{t:Nat}{v:α}(h:find l t=some v):(t,v)∈l:=by
 induction l with
 |nil=>cases h
 |cons p l a=>
  obtain⟨t',u⟩:=p
  simp only[find]at h
  split at h
  ·next hb=>cases h;rw[aJ hb];exact aP ..
  ·exact aN _ (a h)
theorem find_none{α:Type}{l:List (Nat×α)}{t:Nat}(h:find l t=none):∀p,p∈l→p.1≠t:=by
 induction l with
 |nil=>intro p hp;cases hp
 |cons p l a=>
  obtain⟨t',u⟩:=p
  simp only[find]at h
  split at h
  ·cases h
  ·next hb=>
   intro p hp
   rcases aL.mp hp with rfl|hp
   ·intro e;simp only at e;subst e;simp at hb
   ·exact a h p hp
theorem Xv{α:Type}{l:List (Nat×α)}{d:Nat}{p:Nat×α}(h:p∈zcP l d):p∈l∧p.1≠d:=by
 induction l with
 |nil=>cases h
 |cons q l a=>
  obtain⟨t',u⟩:=q
  simp only[zcP]at h
  split at h
  ·obtain⟨h1,h2⟩:=a h;exact⟨aN _ h1,h2⟩
  ·next hb=>
   rcases aL.mp h with rfl|h
   ·exact⟨aP ..,fun e=>by simp only at e;subst e;simp at hb⟩
   ·obtain⟨h1,h2⟩:=a h;exact⟨aN _ h1,h2⟩
theorem yE{α:Type}(l:List α)(n:Nat)(y:α):(zE l n y).length=l.length:=by
 induction l generalizing n with
 |nil=>rfl
 |cons x l a=>cases n with
  |zero=>rfl
  |succ n=>simp only[zE,aW,a]
theorem xY{α:Type}(l:List α)(n i:Nat)(y:α):(zE l n y)[i]? = if i=n∧i<l.length then some y else l[i]? :=by
 induction l generalizing n i with
 |nil=>simp[zE]
 |cons x l a=>cases n with
  |zero=>cases i<;>simp[zE]
  |succ n=>cases i with
   |zero=>simp[zE]
   |succ i=>simp only[zE,cQ,a,Nat.succ.injEq,aW,Nat.add_lt_add_iff_right,dV]
theorem SvF.mono{W W':Wd}{Q Q':Qs}(b:WLe W W')(a:QLe Q Q'){l:List (Nat×Pv)}{F:FF}(h:SvF W Q l F):SvF W' Q' l F:=fun p hp=>(h p hp).mono b a
theorem ObjR.mono{W W':Wd}{Q Q':Qs}(d:WLe W W')(f:QLe Q Q'){b:Ob}{q:Value×Nat}{o:Option MObj}(h:ObjR W Q b q o):ObjR W' Q' b q o:=by
 cases b with
 |loop N slots ps x y st pend=>obtain⟨h0,fr,g,e,ha,h⟩:=h;exact⟨h0,fr,g,e,ha,h.mono d f⟩
 |cells l=>obtain⟨c,t,e,h⟩:=h;exact⟨c,t,e,h.mono d f⟩
 |list t w e l=>obtain⟨a,cap,e,h0,h⟩:=h;exact⟨a,cap,e,h0,h.mono d⟩
 |_=>trivial
section
variable{W:Wd}{s0 s:St}{C:Cx}{QL:Qs}{stk:List Fra}{e:En}{F:FF}{m:Nat}{Q:Qs}{O:List (Option MObj)}{L Φ:Hp'}
theorem GX.get(G:GX QL W s0 s C stk e F m Q O L Φ){i:Nat}{q:Value×Nat}{o:MObj}(h1:Q[i]? = some q)(h2:O[i]? = some (some o)):s.get q.2=some o:=by
 by_cases hi:C.lent≤i
 ·exact(G.H.own _ (G.own i q o h1 h2 hi)).1
 ·exact(G.lent i q o h1 h2 Oz).1
theorem GX.lt(G:GX QL W s0 s C stk e F m Q O L Φ){i:Nat}{q:Value×Nat}{o:MObj}(h1:Q[i]? = some q)(h2:O[i]? = some (some o)):q.2<s.next:=by
 by_cases hi:C.lent≤i
 ·exact(G.H.own _ (G.own i q o h1 h2 hi)).2.1
 ·have:=(G.lent i q o h1 h2 Oz).2;have:=G.H.le;omega
theorem GX.at(G:GX QL W s0 s C stk e F m Q O L Φ){j:Nat}{b:Ob}(h:e.obj C j=some b):∃q o,Q[j]? = some q∧O[j]? = some o∧ObjR (W.x Φ) Q b q o:=by
 unfold En.obj at h
 rw[zJ,zJ]at h
 have hj:∀b',e.objs[j]? = some b'→∃q o,Q[j]? = some q∧O[j]? = some o:=fun b' hb=>by
  have h1:=(aM.mp hb).1
  have h2:j<Q.length:=by rw[←G.len];exact h1
  have c:j<O.length:=by rw[G.oq];exact h2
  exact⟨_,_,aE h2,aE c⟩
 split at h
 ·next hc=>
  obtain⟨q,o,a,ho⟩:=hj _ hc
  exact⟨q,o,a,ho,(G.cob j b q o hc h a ho).mono WLe.rfl QLe.take⟩
 ·obtain⟨q,o,a,ho⟩:=hj _ h
  exact⟨q,o,a,ho,G.obj j b q o h a ho⟩
theorem GX.ev(G:GX QL W s0 s C stk e F m Q O L Φ){x:Operand}{p:Pv}(h:e.ev C x=some p):PvR (W.x Φ) Q p (zd F x):=by
 unfold En.ev at h
 split at h
 ·next t=>
  unfold En.get at h
  split at h
  ·next hf=>cases h;exact G.slots _ (Vn hf)
  ·exact(G.cslots _ (Vn h)).mono WLe.rfl QLe.take
 ·next v=>
  split at h
  ·next l hl=>
   cases h
   unfold ofV at hl
   split at hl<;>cases hl<;>rfl
  ·cases h
 ·cases h;rfl
 ·cases h
theorem GX.see(G:GX QL W s0 s C stk e F m Q O L Φ):See (W.x Φ) Q C e F s where
 ev _ _ h:=G.ev h
 cel j l h:=by
  obtain⟨q,o,d,ho,c,t,rfl,hl⟩:=G.at h
  exact⟨q,c,t,d,G.lt d ho,G.get d ho,hl⟩
 lst j t w τ l h:=by
  obtain⟨q,o,d,ho,a,cap,hv,_,h1,h2,L',h3,f,p,r⟩:=G.at h
  refine⟨q,a,cap,d,hv,fun k x hx=>?_⟩
  have hk:=(aM.mp hx).1
  generalize i:wl q.2 o=D at f
  generalize hc:L'.flatten=c at f
  generalize g:(Value.slice a l.length cap)=sl at f
  generalize hn:l.length=n at f
  cases f with
  |nil=>omega
  |block b cap' _ _ hl hcap=>
   cases g
   cases o with
   |none=>cases i
   |some o=>
    cases i
    refine⟨c,t,L'.getD k [],rfl,G.lt d ho,G.get d ho,?_,r _ _ hx⟩
    have:=gm p (k:=k) Oz
    rw[cA,hc]at this
    exact this
 kn:=G.K.x G.H G.fro
theorem GX.put(G:GX QL W s0 s C stk e F m Q O L Φ){d:Nat}{p:Pv}{v:Value}(hd:find C.slots d=none)(hp:PvR (W.x Φ) Q p v):GX QL W s0 s C stk {e with slots:=putS e.slots d p} (upd F (some d) v) m Q O L Φ:=
 {G with
  slots:=fun x hx=>by
   rcases aL.mp hx with rfl|hx
   ·rw[vh,aF rfl];exact hp
   ·obtain⟨h1,h2⟩:=Xv hx
    rw[vh,aD h2];exact G.slots _ h1
  cslots:=fun x hx=>by
   rw[vh,aD (find_none hd x hx)];exact G.cslots _ hx}
theorem GX.set(G:GX QL W s0 s C stk e F m Q O L Φ){ρ:Type}{k:En→Option ρ}{r:ρ}{d:Option Nat}{p:Pv}{v:Value}(hp:PvR (W.x Φ) Q p v)(h:e.set C d p k=some r):∃a,GX QL W s0 s C stk a (upd F d v) m Q O L Φ∧k a=some r:=by
 unfold En.set at h
 split at h
 ·exact⟨e,G,h⟩
 ·split at h
  ·cases h
  ·next hd=>exact⟨_,G.put hd hp,h⟩
theorem GX.mark(G:GX QL W s0 s C stk e F m Q O L Φ){x:Operand}{b:Bool}(hx:e.ev C x=some (.one (.bool b))):GX QL W s0 s C stk (e.mark x b) F m Q O L Φ:=by
 unfold En.mark
 split
 ·next t=>
  have hv:=G.ev hx
  exact{G with
   slots:=fun x hx=>by
    rcases aL.mp hx with rfl|hx
    ·exact hv
    ·exact G.slots _ (Xv hx).1}
 ·exact G
theorem xF{α:Type}{l:List α}{x:α}{i:Nat}{y:α}(h:(l++[x])[i]? = some y):(i<l.length∧l[i]? = some y)∨(i=l.length∧y=x):=by
 by_cases hi:i<l.length
 ·rw[bY hi]at h;exact .inl ⟨hi,h⟩
 ·have h1:=(aM.mp h).1
  simp only[aQ,List.length_singleton]at h1
  obtain rfl:i=l.length:=by omega
  simp only[List.getElem?_concat_length]at h
  cases h;exact .inr ⟨rfl,rfl⟩
theorem GX.swap(G:GX QL W s0 s C stk e F m Q O L Φ){s':St}{z:Hp'}{b:Nat}{o:MObj}{bo:Ob}{v:Value}{J:Nat}(H':HL [] s0 s' ((b,o)::z) J)(hΦ:Φ⊆z)(k:∀(i:Nat) q o,Q[i]? = some q→O[i]? = some (some o)→C.lent≤i→(q.2,o)∈z)
 (hb:ObjR (W.x Φ) (Q++[(v,b)]) bo (v,b) (some o)) (B:bo≠.const) :
 GX QL W s0 s' C stk {e with objs:=e.objs++[bo]} F J (Q++[(v,b)]) (O++[some o]) ((b,o)::z) Φ:=by
 have hbge:s0.next≤b:=by
  rcases(H'.own (b,o) (aP ..)).2.2.2 with h|h
  ·exact h
  ·cases h
 have hd:=(List.pairwise_cons.mp H'.dist).1
 have w:∀(i:Nat) q o,Q[i]? = some q→O[i]? = some (some o)→q.2≠b:=fun i q o' h1 h2 he=>by
  by_cases hi:C.lent≤i
  ·exact hd _ (k i q o' h1 h2 hi) he.symm
  ·have:=(G.lent i q o' h1 h2 Oz).2;omega
 have l:∀{i:Nat} {y},(O++[some o])[i]? = some y→(i<Q.length∧O[i]? = some y)∨(i=Q.length∧y=some o):=fun h=>by
  have:=xF h;rwa[G.oq]at this
 have I:∀{i:Nat} {y},(e.objs++[bo])[i]? = some y→(i<Q.length∧e.objs[i]? = some y)∨(i=Q.length∧y=bo):=fun h=>by
  have:=xF h;rwa[G.len]at this
 exact{
  K:=G.K,H:=H'
  oq:=by simp[G.oq]
  len:=by simp[G.len]
  cn:=by have:=G.cn;simp;omega
  ln:=G.ln
  pre:=fun i hi=>by rw[bY (by have:=G.ln;have:=G.cn;omega)];exact G.pre i hi
  fro:=fun p hp=>aN _ (hΦ hp)
  own:=fun i q o' g ho hi=>by
   rcases xF g with⟨h1,h2⟩|⟨h1,h2⟩<;>rcases l ho with⟨c,a⟩|⟨c,a⟩
   ·exact aN _ (k i q o' h2 a hi)
   ·omega
   ·omega
   ·cases h2;cases a;exact aP ..
  lent:=fun i q o' g ho hi=>by
   have:=G.ln;have:=G.cn
   rcases xF g with⟨h1,h2⟩|⟨h1,h2⟩<;>rcases l ho with⟨c,a⟩|⟨c,a⟩
   ·obtain⟨g1,g2⟩:=G.lent i q o' h2 a hi
    exact⟨by rw[H'.get g2,←G.H.get g2];exact g1,g2⟩
   ·omega
   ·omega
   ·omega
  inj:=fun i j q r M N g R D E t=>by
   rcases xF g with⟨h1,h2⟩|⟨h1,h2⟩<;>rcases xF R with⟨c,a⟩|⟨c,a⟩<;>rcases l D with⟨u,d⟩|⟨u,d⟩<;>rcases l E with⟨P,A⟩|⟨P,A⟩<;>try omega
   ·exact G.inj i j q r M N h2 a d A t
   ·subst a;exact(w i q M h2 d t).elim
   ·subst h2;exact(w j r N a A t.symm).elim
  dis:=fun i q o' p hi g ho hp=>by
   rcases xF g with⟨h1,h2⟩|⟨h1,h2⟩<;>rcases l ho with⟨c,a⟩|⟨c,a⟩<;>try omega
   ·exact G.dis i q o' p hi h2 a hp
   ·subst h2;exact fun he=>hd _ (hΦ hp) he.symm
  obj:=fun i b' q o' n g ho=>by
   rcases xF g with⟨h1,h2⟩|⟨h1,h2⟩<;>rcases l ho with⟨c,a⟩|⟨c,a⟩<;>rcases I n with⟨u,d⟩|⟨u,d⟩<;>try omega
   ·exact(G.obj i b' q o' d h2 a).mono WLe.rfl QLe.app
   ·subst h2 a d;exact hb
  cob:=fun i b' q o' hc n g ho=>by
   rw[List.take_append_of_le_length G.cn]
   rcases xF g with⟨h1,h2⟩|⟨h1,h2⟩<;>rcases l ho with⟨c,a⟩|⟨c,a⟩<;>rcases I hc with⟨u,d⟩|⟨u,d⟩<;>try omega
   ·exact G.cob i b' q o' d n h2 a
   ·exact(B d.symm).elim
  slots:=G.slots.mono WLe.rfl QLe.app
  cslots:=by rw[List.take_append_of_le_length G.cn];exact G.cslots
  stk:=fun f hf=>by
   obtain⟨h1,h2,c⟩:=G.stk f hf
   exact⟨h1,by rw[List.take_append_of_le_length (by have:=G.cn;omega)];exact h2,c⟩}
theorem GX.new(G:GX QL W s0 s C stk e F m Q O L Φ)(c:s0.next+m<zw){o:MObj}{b:Ob}{v:Value}(hb:ObjR (W.x Φ) (Q++[(v,s.next)]) b (v,s.next) (some o))(a:b≠.const) :
 GX QL W s0 (s.new o) C stk {e with objs:=e.objs++[b]} F (m+1) (Q++[(v,s.next)]) (O++[some o]) ((s.next,o)::L) Φ:=
 G.swap (G.H.new o c) G.fro G.own hb a
end
section
variable{W:Wd}{s0 s:St}{C:Cx}{QL:Qs}{stk:List Fra}{e:En}{F:FF}{m:Nat}{Q:Qs}{O:List (Option MObj)}{L Φ:Hp'}
theorem GX.write(G:GX QL W s0 s C stk e F m Q O L Φ)(J:s0.next+m≤zw){j:Nat}{q:Value×Nat}{o o':MObj}{b:Ob}(r:Q[j]? = some q)(ho:O[j]? = some (some o))(hj:C.lent≤j)(hb:ObjR (W.x Φ) Q b q (some o'))(D:b≠.const) :
 ∃N,GX QL W s0 (s.put q.2 (some o')) C stk (e.setO j b) F m Q (zE O j (some o')) N Φ:=by
 have f:=G.own j q o r ho hj
 obtain⟨A,B,rfl⟩:=dZ f
 have g:=G.H.own _ f
 have hge:s0.next≤q.2:=by rcases g.2.2.2 with h|h;exact h;cases h
 have hlt:q.2<s.next:=g.2.1
 have hmost:=G.H.most
 have E:=fun b'=>St.get_put (s:=s) (b:=q.2) (by unfold zw at J;omega) (some o') b'
 have l:j<O.length:=(aM.mp ho).1
 have n:∀p,p∈A++(q.2,o)::B→p.1≠q.2→p∈A++(q.2,o')::B:=fun p hp a=>by
  rcases aU.mp hp with h|h
  ·exact cE _ h
  ·rcases aL.mp h with rfl|h
   ·exact(a rfl).elim
   ·exact bE _ (aN _ h)
 have k:∀(i:Nat) c,(zE O j (some o'))[i]? = some c→(i=j∧c=some o')∨(i≠j∧O[i]? = some c):=fun i c h=>by
  rw[xY]at h
  split at h
  ·next h1=>cases h;exact .inl ⟨h1.1,rfl⟩
  ·next h1=>
   refine .inr ⟨fun e=>?_,h⟩
   subst e
   exact h1 ⟨rfl,l⟩
 refine⟨A++(q.2,o')::B,?_⟩
 exact{
  K:=G.K,H:=G.H.putAt A o' J,oq:=by rw[yE];exact G.oq,len:=by simp only[En.setO,yE];exact G.len
  cn:=G.cn,ln:=G.ln,pre:=G.pre
  fro:=fun p hp=>n p (G.fro hp) (G.dis j q o p hj r ho hp)
  own:=fun i d c h1 h2 hi=>by
   rcases k i _ h2 with⟨rfl,h⟩|⟨a,h⟩
   ·cases h;rw[r]at h1;cases h1;exact bE _ (aP ..)
   ·exact n _ (G.own i d c h1 h hi) fun e=>a (G.inj i j d q c o h1 r h ho e)
  lent:=fun i d c h1 h2 hi=>by
   rcases k i _ h2 with⟨rfl,h⟩|⟨a,h⟩
   ·omega
   ·obtain⟨g1,g2⟩:=G.lent i d c h1 h hi
    exact⟨by rw[E,aD Oz];exact g1,g2⟩
  inj:=fun t u d I c M h1 h2 P R he=>by
   rcases k t _ P with⟨rfl,h⟩|⟨a,h⟩<;>rcases k u _ R with⟨y,z⟩|⟨y,z⟩
   ·exact y.symm
   ·exact G.inj t u d I o M h1 h2 ho z he
   ·subst y;exact G.inj t u d I c o h1 h2 h ho he
   ·exact G.inj t u d I c M h1 h2 h z he
  dis:=fun i d c p hi h1 h2 hp=>by
   rcases k i _ h2 with⟨rfl,h⟩|⟨a,h⟩
   ·exact G.dis i d o p hi h1 ho hp
   ·exact G.dis i d c p hi h1 h hp
  obj:=fun i v d c h0 h1 h2=>by
   rw[En.setO,xY]at h0
   rcases k i _ h2 with⟨rfl,rfl⟩|⟨a,h⟩
   ·have:i<e.objs.length:=by rw[G.len,←G.oq];exact l
    rw[aF ⟨rfl,this⟩]at h0
    rw[r]at h1
    cases h0;cases h1;exact hb
   ·rw[aD (fun h=>a h.1)]at h0
    exact G.obj i v d c h0 h1 h
  cob:=fun i v d c h0 w h1 h2=>by
   rw[En.setO,xY]at h0
   rcases k i _ h2 with⟨rfl,rfl⟩|⟨a,h⟩
   ·have:i<e.objs.length:=by rw[G.len,←G.oq];exact l
    rw[aF ⟨rfl,this⟩]at h0
    cases h0;exact(D rfl).elim
   ·rw[aD (fun h=>a h.1)]at h0
    exact G.cob i v d c h0 w h1 h
  slots:=G.slots,cslots:=G.cslots,stk:=G.stk}
theorem GX.drop(G:GX QL W s0 s C stk e F m Q O L Φ)(j:Nat):GX QL W s0 s C stk (e.setO j .dead) F m Q (zE O j none) L Φ:=by
 have d:∀(i:Nat) c,(zE O j none)[i]? = some (some c)→i≠j∧O[i]? = some (some c):=fun i c h=>by
  rw[xY]at h
  split at h
  ·cases h
  ·next h1=>
   refine⟨fun e=>?_,h⟩
   subst e
   exact h1 ⟨rfl,(aM.mp h).1⟩
 have k:∀(i:Nat) b,(zE e.objs j .dead)[i]? = some b→b=.dead∨(i≠j∧e.objs[i]? = some b):=fun i b h=>by
  rw[xY]at h
  split at h
  ·cases h;exact .inl rfl
  ·next h1=>
   refine .inr ⟨fun e=>?_,h⟩
   subst e
   exact h1 ⟨rfl,(aM.mp h).1⟩
 have f:∀(i:Nat) c,i≠j→(zE O j none)[i]? = some c→O[i]? = some c:=fun i c a h=>by
  rw[xY,aD (fun h=>a h.1)]at h;exact h
 exact{G with
  oq:=by rw[yE];exact G.oq
  len:=by simp only[En.setO,yE];exact G.len
  own:=fun i q o h1 h2=>G.own i q o h1 (d i o h2).2
  lent:=fun i q o h1 h2=>G.lent i q o h1 (d i o h2).2
  inj:=fun i j q r o o' h1 h2 l n=>G.inj i j q r o o' h1 h2 (d _ _ l).2 (d _ _ n).2
  dis:=fun i q o p hi h1 h2=>G.dis i q o p hi h1 (d _ _ h2).2
  obj:=fun i b q o h0 h1 h2=>by
   rcases k i b h0 with rfl|⟨a,h⟩
   ·trivial
   ·exact G.obj i b q o h h1 (f i o a h2)
  cob:=fun i b q o h0 g h1 h2=>by
   rcases k i .const h0 with h|⟨a,h⟩
   ·cases h
   ·exact G.cob i b q o h g h1 (f i o a h2)}
theorem GX.call(G:GX QL W s0 s C stk e F m Q O L Φ){s':St}{D:Hp'}{k:Nat}(H':HL [] s s' D k):GX QL W s0 s' C stk e F (m+k) Q O (D++L) (D++Φ):=by
 have a:WLe (W.x Φ) (W.x (D++Φ)):=vF (dJ _ _)
 exact{G with
  H:=G.H.call H'
  fro:=fun p hp=>by
   rcases aU.mp hp with h|h
   ·exact cE _ h
   ·exact bE _ (G.fro h)
  own:=fun i q o h1 h2 hi=>bE _ (G.own i q o h1 h2 hi)
  lent:=fun i q o h1 h2 hi=>by
   obtain⟨g1,g2⟩:=G.lent i q o h1 h2 hi
   exact⟨by rw[H'.get (by have:=G.H.le;omega)];exact g1,g2⟩
  dis:=fun i q o p hi h1 h2 hp=>by
   rcases aU.mp hp with h|h
   ·have:=G.lt h1 h2
    rcases(H'.own p h).2.2.2 with h|h
    ·omega
    ·cases h
   ·exact G.dis i q o p hi h1 h2 h
  obj:=fun i b q o h0 h1 h2=>(G.obj i b q o h0 h1 h2).mono a QLe.rfl
  cob:=fun i b q o h0 c h1 h2=>(G.cob i b q o h0 c h1 h2).mono a QLe.rfl
  slots:=G.slots.mono a QLe.rfl
  cslots:=G.cslots.mono a QLe.rfl
  stk:=fun f hf=>⟨(G.stk f hf).1,(G.stk f hf).2.1.mono a QLe.rfl,fun p hp=>bE _ ((G.stk f hf).2.2 hp)⟩}
theorem LfR.sub{W W':Wd}{Q:Qs}(d:WLe W W'){j t w:Nat}{τ:Ty}{l:List τ.T}{q:Value×Nat}(b:Q[j]? = some q)(hl:Rep W' (.sl t w τ) [q.1] l){x:Lf}{c:List Value}(h:LfR W Q x c):LfR W' Q (x.sub j (.sl t w τ l)) c:=by
 have a:=h.mono d QLe.rfl
 cases x with
 |own i=>
  simp only[Lf.sub]
  split
  ·next hb=>
   obtain rfl:=aJ hb
   obtain⟨q',h1,h2,_⟩:=h
   rw[b]at h1;cases h1
   rw[h2];exact hl
  ·exact a
 |_=>exact a
theorem LsR.sub{W W':Wd}{Q:Qs}(b:WLe W W'){j t w:Nat}{τ:Ty}{l:List τ.T}{q:Value×Nat}(a:Q[j]? = some q)(hl:Rep W' (.sl t w τ) [q.1] l):∀{x:List Lf} {c:List Value},LsR W Q x c→LsR W' Q (subL j (.sl t w τ l) x) c
 | [],_,h=>h
 |_::_,_,⟨c1,d,e,h1,h2⟩=>⟨c1,d,e,h1.sub b a hl,LsR.sub b a hl h2⟩
theorem TsR.sub{W W':Wd}{Q:Qs}(b:WLe W W'){j t w:Nat}{τ:Ty}{l:List τ.T}{q:Value×Nat}(a:Q[j]? = some q)(hl:Rep W' (.sl t w τ) [q.1] l):∀{x:List (Bool×List Lf)} {c:List Value},TsR W Q x c→TsR W' Q (subT j (.sl t w τ l) x) c
 | [],_,h=>h
 |(true,y)::x,_,⟨v,r,e,⟨c,e1,h1⟩,h2⟩=>⟨v,r,e,⟨c,e1,LsR.sub b a hl h1⟩,TsR.sub b a hl h2⟩
 |(false,y)::x,_,⟨v,r,e,⟨z,e1,h1⟩,h2⟩=>⟨v,r,e,⟨z.sub j (.sl t w τ l),by simp only at e1;subst e1;rfl,LfR.sub b a hl h1⟩,TsR.sub b a hl h2⟩
theorem PvR.sub{W W':Wd}{Q:Qs}(a:WLe W W'){j t w:Nat}{τ:Ty}{l:List τ.T}{q:Value×Nat}(b:Q[j]? = some q)(hl:Rep W' (.sl t w τ) [q.1] l){x:Pv}{v:Value}(h:PvR W Q x v):PvR W' Q (x.sub j (.sl t w τ l)) v:=by
 cases x with
 |one x=>exact LfR.sub a b hl h
 |agg x=>obtain⟨c,e,h⟩:=h;exact⟨c,e,LsR.sub a b hl h⟩
 |tup x=>obtain⟨c,e,h⟩:=h;exact⟨c,e,TsR.sub a b hl h⟩
 |_=>exact PvR.mono a QLe.rfl h
theorem zbr{j:Nat}{x:Lf}:∀{l:List (Nat×Pv)} {p:Nat×Pv},p∈subS j x l→∃a,a∈l∧p=(a.1,a.2.sub j x)
 |(t,u)::l,p,h=>by
  rcases aL.mp h with rfl|h
  ·exact⟨(t,u),aP ..,rfl⟩
  ·obtain⟨a,h1,h2⟩:=zbr h
   exact⟨a,aN _ h1,h2⟩
theorem Kn{j:Nat}{x:Lf}:∀{l:List Ob} {i:Nat},(zdZ j x l)[i]? = (l[i]?).map (·.sub j x)
 | [],_=>rfl
 |o::l,0=>rfl
 |o::l,i+1=>by simp only[zdZ,cQ];exact Kn
theorem zbs{j:Nat}{x:Lf}:∀{l:List Ob},(zdZ j x l).length=l.length
 | []=>rfl
 |o::l=>by simp only[zdZ,aW,zbs]
theorem GX.frz(G:GX QL W s0 s C stk e F m Q O L Φ){j:Nat}{A:En}(h:e.frz C j=some A):∃B Φ',GX QL W s0 s C stk A F m Q B L Φ':=by
 unfold En.frz at h
 split at h
 ·next t w τ l hb d=>
  cases h
  have d:=aR d
  rw[zJ]at hb
  have g:j<Q.length:=by rw[←G.len];exact(aM.mp hb).1
  obtain⟨q,u⟩:∃q,Q[j]? = some q:=⟨_,aE g⟩
  obtain⟨o,ho⟩:∃o,O[j]? = some o:=⟨_,aE (by rw[G.oq];exact g)⟩
  obtain⟨a,cap,hv,_,how⟩:=G.obj j _ q o hb u ho
  have v:wl q.2 o⊆L:=by
   cases o with
   |none=>exact List.nil_subset _
   |some o=>intro p hp;simp only[wl,aV]at hp;subst hp;exact G.own j q o u ho d
  have k:WLe (W.x Φ) (W.x (wl q.2 o++Φ)):=vF (dJ _ _)
  have hl:Rep (W.x (wl q.2 o++Φ)) (.sl t w τ) [q.1] l:=by
   rw[hv];exact how.rep (dJ _ _) (List.subset_append_left _ _)
  have G1:=G.drop j
  have r:∀(i:Nat),(zdZ j (.sl t w τ l) (zE e.objs j .dead))[i]? = some Ob.const→(zE e.objs j .dead)[i]? = some Ob.const:=fun i h=>by
   rw[Kn,Option.map_eq_some_iff]at h
   obtain⟨b,h1,h2⟩:=h
   cases b<;>first|exact h1|(simp only[Ob.sub]at h2;cases h2)
  refine⟨zE O j none,wl q.2 o++Φ,?_⟩
  exact{G1 with
   len:=by simp only[zbs];exact G1.len
   fro:=fun p hp=>by
    rcases aU.mp hp with h|h
    ·exact v h
    ·exact G.fro h
   dis:=fun i n o' p hi h1 h2 hp=>by
    rcases aU.mp hp with h|h
    ·cases o with
     |none=>cases h
     |some o=>
      simp only[wl,aV]at h
      subst h
      intro he
      rw[xY]at h2
      split at h2
      ·cases h2
      ·next z=>
       have:=G.inj j i q n o o' u h1 ho h2 he
       subst this
       exact z ⟨rfl,by rw[G.oq];exact g⟩
    ·exact G1.dis i n o' p hi h1 h2 h
   obj:=fun i b n o' h0 h1 h2=>by
    rw[Kn,Option.map_eq_some_iff]at h0
    obtain⟨b',h0,rfl⟩:=h0
    have:=G1.obj i b' n o' h0 h1 h2
    cases b' with
    |cells x=>obtain⟨c,t',e1,h⟩:=this;exact⟨c,t',e1,LsR.sub k u hl h⟩
    |list=>exact this.mono k QLe.rfl
    |loop=>exact this.mono k QLe.rfl
    |_=>trivial
   cob:=fun i b n o' h0 y h1 h2=>(G1.cob i b n o' (r i h0) y h1 h2).mono k QLe.rfl
   slots:=fun p hp=>by
    obtain⟨D,h1,rfl⟩:=zbr hp
    exact(G.slots D h1).sub k u hl
   cslots:=G.cslots.mono k QLe.rfl
   stk:=fun f hf=>⟨(G.stk f hf).1,(G.stk f hf).2.1.mono k QLe.rfl,fun p hp=>bE _ ((G.stk f hf).2.2 hp)⟩}
 ·cases h
theorem GX.frzL{l:List Lf}:∀{e a:En} {O:List (Option MObj)} {Φ:Hp'},GX QL W s0 s C stk e F m Q O L Φ→e.frzL C l=some a→∃c Φ',GX QL W s0 s C stk a F m Q c L Φ':=by
 induction l with
 |nil=>intro e a O Φ G h;cases h;exact⟨_,_,G⟩
 |cons x l b=>
  intro e a O Φ G h
  cases x with
  |own j=>
   simp only[En.frzL]at h
   split at h
   ·exact b G h
   ·split at h
    ·next e1 h1=>
     obtain⟨c,Φ',d⟩:=G.frz h1
     exact b d h
    ·cases h
  |_=>simp only[En.frzL]at h;exact b G h
theorem GX.frzT{l:List (Bool×List Lf)}:∀{e a:En} {O:List (Option MObj)} {Φ:Hp'},GX QL W s0 s C stk e F m Q O L Φ→e.frzT C l=some a→∃b Φ',GX QL W s0 s C stk a F m Q b L Φ':=by
 induction l with
 |nil=>intro e a O Φ G h;cases h;exact⟨_,_,G⟩
 |cons x l d=>
  intro e a O Φ G h
  simp only[En.frzT]at h
  split at h
  ·next e1 h1=>
   obtain⟨b,Φ',c⟩:=G.frzL h1
   exact d c h
  ·cases h
theorem GX.frzP{l:List Pv}:∀{e c:En} {O:List (Option MObj)} {Φ:Hp'},GX QL W s0 s C stk e F m Q O L Φ→e.frzP C l=some c→∃b Φ',GX QL W s0 s C stk c F m Q b L Φ':=by
 induction l with
 |nil=>intro e c O Φ G h;cases h;exact⟨_,_,G⟩
 |cons x l d=>
  intro e c O Φ G h
  cases x with
  |one x=>
   simp only[En.frzP]at h
   split at h
   ·next e1 h1=>
    obtain⟨b,Φ',a⟩:=G.frzL h1
    exact d a h
   ·cases h
  |agg x=>
   simp only[En.frzP]at h
   split at h
   ·next e1 h1=>
    obtain⟨b,Φ',a⟩:=G.frzL h1
    exact d a h
   ·cases h
  |tup x=>
   simp only[En.frzP]at h
   split at h
   ·next e1 h1=>
    obtain⟨b,Φ',a⟩:=G.frzT h1
    exact d a h
   ·cases h
  |_=>simp only[En.frzP]at h;exact d G h
end
def VsR(W:Wd):(ar:List Ty)→List Value→Tp ar→Prop
 | [],vs,_=>vs=[]
 | [a],vs,x=>∃v,vs=[v]∧RepV W a v x
 |a::b::l,vs,x=>∃v r,vs=v::r∧RepV W a v x.1∧VsR W (b::l) r x.2
-- a contract over one table
def DecI(I:zU)(f:FuncId)(k:Nat)(ar:List Ty)(τ:Ty)(z:Tp ar→Option τ.T):Prop:=∀⦃s:St⦄,Fine s→∀⦃W:Wd⦄,Knw s W→∀⦃vs:List Value⦄ ⦃x:Tp ar⦄,VsR W ar vs x→∀⦃r:τ.T⦄,z x=some r→s.next+k≤zw→zdF W I f ⟨vs⟩ s k τ r
def qA(f:FuncId)(k:Nat)(ar:List Ty)(τ:Ty)(z:Tp ar→Option τ.T):Prop:=∀⦃I:zU⦄,zH I→DecI I f k ar τ z
def Qz(I:zU)(T:FuncId→Option Con):Prop:=∀f con,T f=some con→DecI I f con.room con.ar con.res con.fn
def ConOK(T:FuncId→Option Con):Prop:=∀f con,T f=some con→qA f con.room con.ar con.res con.fn
theorem ConOK.i{T:FuncId→Option Con}(h:ConOK T){I:zU}(a:zH I):Qz I T:=fun f con hf=>h f con hf a
def PsR(W:Wd)(Q:Qs):List Pv→List Value→Prop
 | [],vs=>vs=[]
 |p::l,vs=>∃v r,vs=v::r∧PvR W Q p v∧PsR W Q l r
section
variable{W:Wd}{D:Hp'}{Q:Qs}
theorem zdW{p:Pv}{q:Bool×List Lf}{v:Value}(h:PvR W Q p v)(a:unQ p=some q):QR W Q q v:=by
 unfold unQ at a
 split at a<;>cases a
 ·exact⟨_,rfl,h⟩
 ·exact h
theorem kv{τ:Ty}{l:List Lf}{c:List Value}{x:τ.T}(h:LsR (W.x D) Q l c)(a:ve τ l=some x):Rep (W.x D) τ c x:=by
 unfold ve at a
 split at a
 ·next y d=>
  cases a
  obtain⟨c1,b,rfl,h1,h2⟩:=zgg τ h d
  rw[show b=[]from h2,bM];exact h1
 ·cases a
theorem jy{τ:Ty}{p:Bool×List Lf}{v:Value}{x:τ.T}(h:QR (W.x D) Q p v)(d:XS τ p=some x):RepV (W.x D) τ v x:=by
 obtain⟨g,l⟩:=p
 unfold XS at d
 split at d
 ·next hg=>
  simp only[beq_iff_eq]at hg
  subst hg
  cases τ with
  |int k=>
   obtain⟨y,h1,h2⟩:=h
   simp only at h1 d;subst h1
   have:=kv (LsR.one h2) d
   exact(List.cons.inj (show [v]=[Value.int k x]from this)).1
  |bool=>
   obtain⟨y,h1,h2⟩:=h
   simp only at h1 d;subst h1
   have:=kv (LsR.one h2) d
   exact(List.cons.inj (show [v]=[Value.bool x]from this)).1
  |sl t w e=>
   obtain⟨y,h1,h2⟩:=h
   simp only at h1 d;subst h1
   exact kv (LsR.one h2) d
  |rat=>obtain⟨c,h1,h2⟩:=h;exact⟨c,h1,kv h2 d⟩
  |one a=>obtain⟨c,h1,h2⟩:=h;exact⟨c,h1,kv h2 d⟩
  |pair a b=>obtain⟨c,h1,h2⟩:=h;exact⟨c,h1,kv h2 d⟩
  |tup a b=>
   simp only[ve]at d
   split at d
   ·next f=>cases l<;>(try rename_i y _;cases y)<;>(simp only[qh]at f;cases f)
   ·cases d
  |tup3 a b c=>
   simp only[ve]at d
   split at d
   ·next f=>cases l<;>(try rename_i y _;cases y)<;>(simp only[qh]at f;cases f)
   ·cases d
 ·cases d
theorem Yz{τ:Ty}{p:Pv}{v:Value}{x:τ.T}(h:PvR (W.x D) Q p v)(d:KA τ p=some x):RepV (W.x D) τ v x:=by
 unfold KA at d
 split at d
 ·next a b p q=>
  obtain⟨vs,rfl,v1,r1,rfl,h1,v2,r2,rfl,h2,rfl⟩:=h
  split at d
  ·next x y hx e=>cases d;exact⟨v1,v2,rfl,jy h1 hx,jy h2 e⟩
  ·cases d
 ·next a b c p q r=>
  obtain⟨vs,rfl,v1,r1,rfl,h1,v2,r2,rfl,h2,j,r3,rfl,f,rfl⟩:=h
  split at d
  ·next x y z hx e i=>cases d;exact⟨v1,v2,j,rfl,jy h1 hx,jy h2 e,jy f i⟩
  ·cases d
 ·cases d
 ·cases d
 ·split at d
  ·next q g=>exact jy (zdW h g) d
  ·cases d
theorem zef:∀{ar:List Ty} {ps:List Pv} {vs:List Value} {x:Tp ar},PsR (W.x D) Q ps vs→rdP ar ps=some x→VsR (W.x D) ar vs x
 | [],[],vs,x,h,c=>h
 | [a],[p],vs,x,⟨v,r,e,h,h2⟩,c=>⟨v,by rw[e,show r=[]from h2],Yz h c⟩
 |a::b::l,p::ps,vs,x,⟨v,r,e,h,h2⟩,c=>by
  simp only[rdP]at c
  split at c
  ·next y z d f=>cases c;exact⟨v,r,e,Yz h d,zef h2 f⟩
  ·cases c
theorem Y9{τ:Ty}{v:Value}{x:τ.T}(h:RepV W τ v x)(hτ:τ.isTup=false):QR W Q (toQ τ x) v:=by
 cases τ with
 |int k=>exact⟨.int k x,rfl,by rw[show v=_ from h];rfl⟩
 |bool=>exact⟨.bool x,rfl,by rw[show v=_ from h];rfl⟩
 |sl t w e=>exact⟨.sl t w e x,rfl,h⟩
 |rat=>obtain⟨c,e,h⟩:=h;exact⟨c,e,vA h⟩
 |one a=>obtain⟨c,e,h⟩:=h;exact⟨c,e,vA h⟩
 |pair a b=>obtain⟨c,e,h⟩:=h;exact⟨c,e,vA h⟩
 |tup a b=>cases hτ
 |tup3 a b c=>cases hτ
theorem pvQ_ok{q:Bool×List Lf}{v:Value}(h:QR W Q q v):PvR W Q (pvQ q) v:=by
 obtain⟨g,l⟩:=q
 cases g with
 |true=>exact h
 |false=>
  obtain⟨x,h1,h2⟩:=h
  simp only at h1;subst h1
  exact h2
theorem JP{τ:Ty}{v:Value}{x:τ.T}(h:RepV W τ v x)(hτ:τ.okT=true):PvR W Q (toP τ x) v:=by
 cases τ with
 |tup a b=>
  obtain⟨v1,v2,rfl,h1,h2⟩:=h
  simp only[Ty.okT,aG,bC]at hτ
  exact⟨_,rfl,v1,_,rfl,Y9 h1 hτ.1,v2,_,rfl,Y9 h2 hτ.2,rfl⟩
 |tup3 a b c=>
  obtain⟨v1,v2,e,rfl,h1,h2,d⟩:=h
  simp only[Ty.okT,aG,bC]at hτ
  exact⟨_,rfl,v1,_,rfl,Y9 h1 hτ.1.1,v2,_,rfl,Y9 h2 hτ.1.2,e,_,rfl,Y9 d hτ.2,rfl⟩
 |_=>exact pvQ_ok (Y9 h rfl)
end
section
variable{P:Program}{s:St}
theorem ko{t e:TypeId}{b len cap l h:Nat}{inf:TypeInfo}{c:List Value}{lo hi:Option Value}(hu:P.underlying t=some (.slice e))(j:P.info? e=some inf)(hg:s.get b=some (.cells c e))(k:qm lo 0=some l)(i:qm hi len=some h)(h1:l≤h)(h2:h≤cap / 2) :
 ∃off cap',cap' / 2=cap / 2-l∧(off=l*inf.size∨l=h)∧(l=0→off=0)∧qk P t (.slice (some ⟨b,0,none⟩) len cap) lo hi none s=.ok (.value (.slice (some ⟨b,off,none⟩) (h-l) cap')) s:=by
 have d:(Nat.ble l h&&Nat.ble h (cap / 2)&&Nat.ble (cap / 2) (cap / 2)&&(hi.isSome || !(none:Option Value).isSome))=true:=by
  simp only[aG]
  exact⟨⟨⟨aZ h1,aZ h2⟩,aZ (aO _)⟩,by simp⟩
 have g:qm (none:Option Value) (cap / 2)=some (cap / 2):=rfl
 have f:∀n,(Addr.mk b 0 none).add n=⟨b,n,none⟩:=fun n=>by
  unfold Addr.add
  split
  ·next h=>subst h;rfl
  ·next h=>simp only[cA]
 by_cases a:cap % 2=0
 ·by_cases m:cap / 2=l
  ·refine⟨0,2*(cap / 2-l),by omega,.inr Oz,fun _=>rfl,?_⟩
   have:Nat.beq (cap / 2) l=true:=by rw[m];exact eM _
   simp only[qk,hu,j,a,xU,k,i,g,d,Bool.true_or,this,dP]
   rfl
  ·refine⟨l*inf.size,2*(cap / 2-l),by omega,.inl rfl,(by rintro rfl;rw[eF]),?_⟩
   have:Nat.beq (cap / 2) l=false:=by
    rw[cL];exact fun h=>m (aJ h)
   simp only[qk,hu,j,a,xU,k,i,g,d,Bool.true_or,this,cP,f]
   rfl
 ·have a:cap % 2=1:=by omega
  refine⟨l*inf.size,2*(cap / 2-l)+1,by omega,.inl rfl,(by rintro rfl;rw[eF]),?_⟩
  have o:wg e (some ⟨b,0,none⟩) cap s=true:=by
   simp only[wg,a,hg,eM]
  simp only[qk,hu,j,a,o,xU,k,i,g,d,cP,f]
  rfl
theorem zbz{t e:TypeId}{b len cap l h:Nat}{inf:TypeInfo}{c:List Value}{lo hi:Option Value}{m:Nat}{mx:Value}(hu:P.underlying t=some (.slice e))(g:P.info? e=some inf)(hg:s.get b=some (.cells c e))(i:qm lo 0=some l)(f:qm hi len=some h)(j:qm (some mx) (cap / 2)=some m)(h0:hi.isSome=true)(h1:l≤h)(h2:h≤m)(n:m≤cap / 2) :
 ∃v,qk P t (.slice (some ⟨b,0,none⟩) len cap) lo hi (some mx) s=.ok (.value v) s:=by
 have d:(Nat.ble l h&&Nat.ble h m&&Nat.ble m (cap / 2)&&(hi.isSome || !(some mx).isSome))=true:=by
  simp only[aG,h0]
  exact⟨⟨⟨aZ h1,aZ h2⟩,aZ n⟩,rfl⟩
 by_cases a:cap % 2=0
 ·exact⟨_,by simp only[qk,hu,g,a,xU,i,f,j,d,Bool.true_or];rfl⟩
 ·have a:cap % 2=1:=by omega
  have k:wg e (some ⟨b,0,none⟩) cap s=true:=by
   simp only[wg,a,hg,eM]
  exact⟨_,by simp only[qk,hu,g,a,k,xU,i,f,j,d];rfl⟩
end
theorem op_clear1{P:Program}{I:zU}{F:FF}{s:St}{Q:FF→St→Prop}{d:Option Nat}{ty:TypeId}{pos:String}{af:Array Edge}{g:Option (Nat×Bool)}{args:Array Operand}{ts:Array TypeId}{t e h:TypeId}{tr:List TypeId}{x:Operand}{b off cap m:Nat}{c c':List Value}{z:Value}{inf:TypeInfo}
 (hu:P.underlying t=some (.slice e)) (n:ts.toList=t::tr) (ha:args.toList=[x]) (hx:zd F x=.slice (some ⟨b,off,none⟩) m cap) (l:m=1) (i:P.info? e=some inf) (o:we P e=some [z]) (hp:Go.M.plainCell z=true) (hg:s.get b=some (.cells c h)) (a:s.may b=true) (f:yO off [z] c=some c')
 (k:Q (upd F d (.tuple ⟨[]⟩)) (s.put b (some (.cells c' h)))):OpW P I ⟨d,.call ⟨.builtin .clear,args,ts⟩,ty,pos,af,g⟩ F s Q:=by
 subst l
 refine zA (v:=.tuple ⟨[]⟩) (s':=s.put b (some (.cells c' h))) ?_ k
 have h1:kq [z] 1=[z]:=rfl
 have h2:[z].all Go.M.plainCell=true:=by simp only[List.all_cons,hp,List.all_nil,Bool.and_self]
 have j:xy b off [z] s=.ok .skip (s.put b (some (.cells c' h))):=by
  unfold xy
  simp only[hg,h2,a,f,Bool.and_self]
 simp only[zh,xp,n,ha,qB,hx,Z6,hu,i,o,h1,j]
 rfl
theorem fb307:vG Tryz.f307 (Tryz.f307.body.getD .skip) 3=true:=by kernel_rfl
theorem zr3:we Tryz.prog 3=some [.int .i64 0]:=by kernel_rfl
theorem vS{kd:IntKind}{n m:Nat}:qm (some (Value.int kd (n:Int))) m=some n:=rfl
theorem zhb{kd:IntKind}{n m:Nat}:qm (some (Value.int kd ((n:Int)+1))) m=some (n+1):=rfl
theorem erase_put{l:List Value}{i:Nat}(hi:i<l.length):∃r,yO i (l.drop (i+1)) l=some (l.eraseIdx i++[r]):=by
 induction l generalizing i with
 |nil=>simp at hi
 |cons x l a=>
  cases i with
  |zero=>
   simp only[fA,List.drop_zero,List.eraseIdx_zero,List.tail_cons,yO]
   have:∀(l:List Value) (x:Value),∃r,xO l (x::l)=some (l++[r]):=by
    intro l
    induction l with
    |nil=>intro x;exact⟨x,rfl⟩
    |cons y l a=>
     intro x
     obtain⟨r,h⟩:=a y
     exact⟨r,by simp only[xO,h,bV]⟩
   exact this l x
  |succ i=>
   obtain⟨r,h⟩:=a (i:=i) (by simpa using hi)
   exact⟨r,by simp only[fA,yO,h,List.eraseIdx_cons_succ,bV]⟩
theorem put_last{l:List Value}{r v:Value}:yO l.length [v] (l++[r])=some (l++[v]):=by
 induction l with
 |nil=>rfl
 |cons x l a=>simp only[aW,bV,yO,a]
set_option maxHeartbeats 4000000 in
set_option maxRecDepth 20000 in
theorem del_ok{I:zU}(z:zH I){s0 s:St}{A B:Hp'}{b cap n i:Nat}{l:List Value}(H:HL [] s0 s (A++(b,.cells l 3)::B) n)(j:s0.next+n≤zw)(hp:l.all Go.M.plainCell=true)(hcap:cap / 2=l.length)(hi:i<l.length) :
 ∃v s',vo Tryz.prog I 307 #[.slice (some ⟨b,0,none⟩) l.length cap,.int .i64 (i:Int),.int .i64 ((i:Int)+1)] s v s' ∧
  ∃cap',v=.slice (some ⟨b,0,none⟩) (l.length-1) cap'∧l.length-1≤cap' / 2∧HL [] s0 s' (A++(b,.cells (l.eraseIdx i++[.int .i64 0]) 3)::B) n:=by
 obtain⟨hu,inf,z',a,hsz,-,-,-,-⟩:=yY uW
 have hg:=H.ownA
 have hne:l≠[]:=by rintro rfl;simp at hi
 refine qD 3 (z 307) Tryz.func307 rfl fb307 rfl ?_
 refine zg (zZ rfl (qn (zb (zg (zZ rfl (yJ (zZ rfl (yJ (zZ rfl (yJ (zZ rfl (yJ (zZ rfl (qX hu rfl rfl rfl ?_))))))))))))))
 obtain⟨v1,e1⟩:=zbz (t:=22) (lo:=some (.int .i64 (i:Int))) (hi:=some (.int .i64 ((i:Int)+1))) (mx:=.int .i64 (l.length:Int)) (m:=l.length) (len:=l.length) (cap:=cap) hu a hg vS zhb vS rfl Oz Oz Oz
 refine zZ rfl (zA e1 (zb (zL (zg (zZ rfl (yJ (zZ rfl (yJ (zZ rfl (Xl rfl rfl (fun h=>by omega) (fun _=>?_)))))))))))
 refine zb (ye rfl (yo (zn (zg (zZ rfl (yJ (zZ rfl (qX hu rfl rfl rfl (zZ rfl (qn (zb (vQ [⟨0,0,.light,[]⟩,⟨1,0,.light,[]⟩,⟨3,0,.light,[]⟩,⟨4,0,.light,[]⟩,⟨2,3,.fresh,[]⟩,⟨5,24,.fresh,[]⟩,⟨6,63,.whole,[]⟩,⟨7,127,.light,[]⟩] Z0 Z0 (za rfl rfl (yJ ⟨rfl,(za rfl rfl (yJ ⟨rfl,?_⟩))⟩))))))))))))))
 refine za rfl rfl (yJ ⟨rfl,(za rfl rfl (yJ ⟨rfl,?_⟩))⟩)
 obtain⟨off2,cap2,g1,g2,u,e2⟩:=ko (s:={s with bar:=s.next}) (t:=22) (lo:=none) (hi:=some (.int .i64 (i:Int))) (len:=l.length) (cap:=cap) hu a hg rfl vS (cJ _) Oz
 obtain rfl:=u rfl
 refine vk rfl rfl (zA e2 ?_)
 obtain⟨off3,cap3,g4,w,g6,p⟩:=ko (s:={s with bar:=s.next}) (t:=22) (lo:=some (.int .i64 ((i:Int)+1))) (hi:=none) (len:=l.length) (cap:=cap) hu a hg zhb rfl Oz Oz
 refine vk rfl rfl (zA p ?_)
 obtain⟨r,f⟩:=erase_put hi
 have g:kS s 1 (.slice (some ⟨b,off3,none⟩) (l.length-(i+1)) cap3) (l.length-(i+1)) (l.drop (i+1)):=by
  rcases w with rfl|h
  ·rw[hsz,cG]
   refine wX hg ?_ Oz
   rw[cG,dC (by rw[bZ];omega)]
  ·rw[show l.length-(i+1)=0 by omega,List.drop_eq_nil_of_le Oz]
   exact⟨⟨_,_,rfl⟩,by simp only[xQ,hg,eF];rfl⟩
 have k:=H
 refine yr rfl rfl (jf (A:=A) (L:=B) (m:=l.length-(i+1)) (len:=i) (l:=l.drop (i+1)) (c':=l.eraseIdx i++[r]) H uW hu rfl rfl rfl g Oz ?_ (by rw[cG];exact f) j (fun s1 H=>?_))
 ·rw[List.all_eq_true]at hp ⊢
  exact fun x hx=>hp x (List.mem_of_mem_drop hx)
 have H:=HL.same k H
 refine za rfl rfl (qn ⟨rfl,(yV ?_)⟩)
 have hlen:(l.eraseIdx i).length=l.length-1:=by rw[List.length_eraseIdx,aF hi]
 have c:=H.ownA
 refine zg (zZ rfl (yJ (zZ rfl (yJ (zZ rfl (qX hu rfl rfl rfl (zZ rfl (yJ ?_))))))))
 have e5:((i+(l.length-(i+1)):Nat):Int)=((l.length-1:Nat):Int):=by omega
 obtain⟨off4,cap4,g7,y,g9,q⟩:=ko (t:=22) (lo:=some (.int .i64 ((i+(l.length-(i+1)):Nat):Int))) (hi:=some (.int .i64 (l.length:Int))) (len:=i+(l.length-(i+1))) (cap:=cap2) hu a c vS vS Oz Oz
 refine zZ rfl (zA q ?_)
 have e:off4=(l.eraseIdx i).length:=by rcases y with h|h<;>(try rw[h,hsz])<;>omega
 have d:=(H.own (b,.cells (l.eraseIdx i++[r]) 3) Y8).2.2.1
 have o:=H.putAt A (.cells (l.eraseIdx i++[.int .i64 0]) 3) j
 refine zZ rfl (op_clear1 hu rfl rfl rfl Oz a zr3 rfl c d (by rw[e];exact put_last) (zb (zg (zZ rfl (yJ (zZ rfl (qn (zb (qH (xD (uH ?_)))))))))))
 exact⟨_,by rw[show l.length-1=i+(l.length-(i+1))by omega];rfl,by omega,o⟩
theorem fb186:vG Tryz.f186 (Tryz.f186.body.getD .skip) 1=true:=by kernel_rfl
theorem fb108:vG Tryz.f108 (Tryz.f108.body.getD .skip) 1=true:=by kernel_rfl
theorem fc186:xH Tryz.prog 186=true:=by kernel_rfl
section
variable{P:Program}{I:zU}{F:FF}{s:St}{Q:FF→St→Prop}{d:Option Tmp}{ty:TypeId}{pos:String}{af:Array Edge}{g:Option (Nat×Bool)}
theorem J7{t:TypeId}{x y:Operand}{e:TypeId}{a b:Int}(hx:zd F x=.int .u64 a)(c:zd F y=.int .u64 b)(h:a<b)(k:Q (upd F d (.bool false)) s):OpW P I ⟨d,.binOp .geq t x y e,ty,pos,af,g⟩ F s Q:=by
 refine zA (v:=.bool false) (s':=s) ?_ k
 have h2:decide (b≤a)=false:=bA Oz
 simp only[zh,qO,hx,c,qY,Go.binOp,Op.intCmp,h2];rfl
theorem op_indexB{t:TypeId}{x i:Operand}{kd:IntKind}{m:Nat}{b:ByteArray}(hu:P.underlying t=some .string)(hx:zd F x=.string b)(hi:zd F i=.int kd (m:Int))(hl:m<b.data.toList.length)(k:∀c:UInt8,Q (upd F d (.int .u8 c.toNat)) s):OpW P I ⟨d,.index t x i,ty,pos,af,g⟩ F s Q:=by
 refine zA (v:=.int .u8 (b.data.toList[m]).toNat) (s':=s) ?_ (k _)
 have h1:zF b.data.toList m=some (b.data.toList[m]):=by rw[zJ];exact aE hl
 show wC P t (zd F x) (zd F i) s=_
 rw[hx,hi]
 show wC P t (.string b) (.int kd (Int.ofNat m)) s=_
 simp only[wC,hu,h1]
 rfl
theorem zch{src dst:TypeId}{x:Operand}{kd:IntKind}{a:Int}{u:TypeDesc}(hu:P.underlying src=some u)(hd:P.underlying dst=some (.int .u8))(hx:zd F x=.int kd a)(h:IntKind.u8.wrap a=a)(k:Q (upd F d (.int .u8 a)) s):OpW P I ⟨d,.convert src dst x,ty,pos,af,g⟩ F s Q:=
 XW hu hd hx (by rw[h];exact k)
end
section
variable{P:Program}{I:zU}{f:FuncId}{args:Array Value}{s:St}{Q:Value→St→Prop}
theorem zdg(h:∃v s',vo P I f args s v s'∧((∃z,v=.int .i64 z)∧s'=s))(c:∀z,Q (.int .i64 z) s):∃v s',vo P I f args s v s'∧Q v s':=by
 obtain⟨v,s',a,⟨z,rfl⟩,rfl⟩:=h
 exact⟨_,_,a,c z⟩
end
theorem wrap8:∀n:Nat,n≤12→IntKind.u8.wrap (n:Int)=n:=by decide
theorem un5:Tryz.prog.underlying 5=some (.int .u8):=by kernel_rfl
theorem un9:Tryz.prog.underlying 9=some .string:=by kernel_rfl
set_option maxHeartbeats 4000000 in
set_option maxRecDepth 10000 in
theorem len64_ok{I:zU}(a:zH I){s:St}{n:Nat}(hn:n≤12):∃v' s',vo Tryz.prog I 186 #[.int .u64 (n:Int)] s v' s'∧((∃z,v'=.int .i64 z)∧s'=s):=by
 refine qD 1 (a 186) Tryz.func186 rfl fb186 rfl ?_
 refine zg (zZ rfl (zO (zb (zL (zg ?_)))))
 first|refine zZ rfl (zf rfl ?_)|refine zZ rfl (yJ ?_)
 refine zZ rfl (J7 rfl rfl Oz (zb (ye rfl (yo (zn (zL (zg ?_)))))))
 first|refine zZ rfl (zf rfl ?_)|refine zZ rfl (yJ ?_)
 refine zZ rfl (J7 rfl rfl Oz (zb (ye rfl (yo (zn (zL (zg ?_)))))))
 first|refine zZ rfl (zf rfl ?_)|refine zZ rfl (yJ ?_)
 refine zZ rfl (J7 rfl rfl Oz (zb (ye rfl (yo (zn (zg ?_))))))
 first|refine zZ rfl (zf rfl ?_)|refine zZ rfl (yJ ?_)
 first|refine zZ rfl (zf rfl ?_)|refine zZ rfl (yJ ?_)
 refine zZ rfl (zch un183 un5 rfl (wrap8 n hn) (zZ rfl (op_indexB un9 rfl rfl (by show n<_;exact cC hn Uz) (fun c=>?_))))
 refine zZ rfl (zen un5 un3 rfl (by have:=c.toNat_lt;unfold yy;omega) (zZ rfl (xX rfl rfl (by have:=c.toNat_lt;unfold yy;omega) ?_)))
 first|refine zZ rfl (z4 rfl ?_)|refine zZ rfl (qn ?_)
 refine zb (qH (xD (uH ?_)))
 exact⟨⟨_,rfl⟩,rfl⟩
set_option maxHeartbeats 4000000 in
set_option maxRecDepth 10000 in
theorem zgB{I:zU}(a:zH I){s:St}{n:Nat}(hn:n≤12):∃v' s',vo Tryz.prog I 108 #[.int .u64 (n:Int)] s v' s'∧((∃z,v'=.int .i64 z)∧s'=s):=by
 refine qD 1 (a 108) Tryz.func108 rfl fb108 rfl ?_
 refine zg (zZ rfl (zO (zb (zL (ye rfl (yo (zn (zg ?_))))))))
 first|refine zZ rfl (zf rfl ?_)|refine zZ rfl (yJ ?_)
 refine zZ rfl (ym rfl fc186 rfl (zdg (len64_ok a hn) (fun z=>?_)))
 first|refine zZ rfl (z4 rfl ?_)|refine zZ rfl (qn ?_)
 refine zb (qH (xD (uH ?_)))
 exact⟨⟨_,rfl⟩,rfl⟩
end Go.Proofs.YtocnbjjmmgolfaaGreat
