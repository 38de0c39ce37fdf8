/- The evaluator: operations that write nothing, joined. -/
import Derived.Test.YtocnbjjmmgolfaaGreatA14
set_option linter.unusedSimpArgs false
set_option linter.unusedVariables false
set_option linter.unusedSectionVars false
namespace Go.Proofs.YtocnbjjmmgolfaaGreat
open Go Go.M Go.Proofs.C14
section
variable{W:Wd}{D:au}{Q:Qs}{C:Cx}{e:En}{F:FF}{s s':St}{ρ:Type}{r:ρ}{k:Pv->Option ρ}
theorem zcV{t:TypeId}{b off len cap n sz j:Nat}{kd:IntKind}(he:wM Tryz.prog t=some (true,n,sz)):kS Tryz.prog t (.slice (some ⟨b,off,none⟩) len cap) (.int kd (j:Int)) s'=xl j len b off sz s':=by
 show kS Tryz.prog t _ (.int kd (.ofNat j)) s'=_
 simp only[kS,he]
theorem zaF{t:TypeId}{a i:Pv}{v u:Value}(hs:L6 W Q C e F s)(ha:cL W Q a v)(hi:cL W Q i u)(h:ZQ C e t a i k=some r)(s':St) :
 ∃p w,kS Tryz.prog t v u s'=.ok (.value w) s'/\cL W Q p w/\k p=some r:=by
 unfold ZQ at h
 split at h
 .next kd i n sz t' w τ l he=>
  cases hi
  split at h
  .next hw=>
   obtain rfl:=aK hw
   obtain⟨x,hx,z⟩:=zT h
   obtain⟨h0,h1,h2⟩:=kz hx
   obtain⟨a',cap,L,e1,y,hn,hl⟩:=ha
   simp only[List.cons.injEq,fA]at e1
   subst e1
   obtain⟨j,rfl⟩:=Int.eq_ofNat_of_zero_le h0
   obtain⟨b,off,c,rfl,hg,hb,hc⟩:=(hs.kn.s _ _ _ _ y).at (i:=(j:Int)) (k:=j) Oz Oz
   have d:Nat.blt j l.length=true:=wU Oz
   refine⟨.one (.ep t' w τ x 0),.pointer (some ⟨b,off+j*w,none⟩),?_,⟨b,off,l.length,cap,L,j,y,by omega,hl _ _ h2,by simp only[bM]⟩,z⟩
   rw[zcV he];simp only[xl,d];rfl
  .cases h
 .next kd i n sz j he=>
  cases hi
  split at h
  .next t' w τ l ho=>
   split at h
   .next hw=>
    obtain rfl:=aK hw
    obtain⟨x,hx,z⟩:=zT h
    obtain⟨h0,h1,h2⟩:=kz hx
    obtain⟨q,a,cap,f,hv,hl⟩:=hs.lst _ _ _ _ _ ho
    obtain⟨q',g,e1,_⟩:=ha
    rw[f]at g;cases g
    simp only[List.cons.injEq,fA]at e1
    obtain⟨c,tt,L,ea,_,hgc,hcc,B⟩:=hl _ _ h2
    rw[hv,ea]at e1
    subst e1
    obtain⟨A,rfl⟩:=Int.eq_ofNat_of_zero_le h0
    have d:Nat.blt A l.length=true:=wU Oz
    refine⟨.one (.op j w (A:Int) 0),.pointer (some ⟨q.2,0+A*w,none⟩),?_,⟨q,f,by simp only[bM,cB,Int.toNat_natCast]⟩,z⟩
    rw[zcV he];simp only[xl,d];rfl
   .cases h
  .cases h
 .next kd i n sz j m he=>
  cases hi
  split at h
  .next d=>
   obtain⟨q,f,hx⟩:=ha
   simp only[List.cons.injEq,fA]at hx
   subst hx
   refine⟨.one (.ptr j (0+i*sz)),.pointer (some ⟨q.2,0+i*sz,none⟩),?_,⟨q,f,rfl⟩,h⟩
   show kS Tryz.prog t _ (.int kd (.ofNat i)) s'=_
   simp only[kS,he,xl,d];rfl
  .cases h
 .next kd i n sz j off he=>
  cases hi
  split at h
  .next d=>
   obtain⟨q,f,hx⟩:=ha
   simp only[List.cons.injEq,fA]at hx
   subst hx
   refine⟨.one (.ptr j (off+i*sz)),.pointer (some ⟨q.2,off+i*sz,none⟩),?_,⟨q,f,rfl⟩,h⟩
   simp only[kS,he,xl,d];rfl
  .cases h
 .next kd i n sz t' w τ x off he=>
  cases hi
  split at h
  .next d=>
   obtain⟨b,o,G,cap,L,E,y,hk,B,hx⟩:=ha
   simp only[List.cons.injEq,fA]at hx
   subst hx
   refine⟨.one (.ep t' w τ x (off+i*sz)),.pointer (some ⟨b,o+E*w+off+i*sz,none⟩),?_,⟨b,o,G,cap,L,E,y,hk,B,by simp only[Nat.add_assoc]⟩,h⟩
   simp only[kS,he,xl,d];rfl
  .cases h
 .next kd i n sz j w x off he=>
  cases hi
  split at h
  .next d=>
   obtain⟨q,f,hx⟩:=ha
   simp only[List.cons.injEq,fA]at hx
   subst hx
   refine⟨.one (.op j w x (off+i*sz)),.pointer (some ⟨q.2,x.toNat*w+off+i*sz,none⟩),?_,⟨q,f,by simp only[Nat.add_assoc]⟩,h⟩
   simp only[kS,he,xl,d];rfl
  .cases h
 .cases h
theorem oU{t:TypeId}{a p:Pv}{f:Nat}{v:Value}(ha:cL W Q a v)(h:zfo t a f=some p)(s':St):∃w,ZV Tryz.prog t v f s'=.ok (.value w) s'/\cL W Q p w:=by
 unfold zfo at h
 split at h
 .next l fs hu=>
  obtain⟨c,rfl,ha⟩:=ha
  split at h
  .next fd hf=>
   obtain⟨w,h1,h2⟩:=VK ha h
   exact⟨w,by simp only[ZV,hu,hf,h1];rfl,h2⟩
  .cases h
 .cases h
theorem pd{Γ:TypeId->Option Ty}{t:TypeId}{a i:Pv}{v u:Value}(ha:cL (W.x D) Q a v)(hi:cL (W.x D) Q i u)(h:zff Γ t a i k=some r)(s':St):∃p w,wK Tryz.prog t v u s'=.ok (.value w) s'/\cL (W.x D) Q p w/\k p=some r:=by
 unfold zff at h
 split at h
 .next kd i l len el hu=>
  cases hi
  obtain⟨c,rfl,ha⟩:=ha
  split at h
  .next τ inf hΓ y=>
   split at h
   .next xs j A=>
    simp only[aF]at j
    obtain⟨x,hx,G⟩:=zT h
    obtain⟨h0,h1,h2⟩:=kz hx
    obtain⟨Y,e1,e2,e3,B,E⟩:=KG ha A
    obtain⟨n,rfl⟩:=Int.eq_ofNat_of_zero_le h0
    have z:Nat.blt n len=true:=wU Oz
    have hsz:=aK j.2
    have b:=E _ _ h2
    simp only[Int.toNat_natCast]at b
    have f:=gl B (k:=n) Oz
    rw[cB,e1]at f
    have key:∃w,jv (z3 Tryz.prog el) (n*inf.size) c=some w/\cL (W.x D) Q (OQ (τ.isAgg,Zo τ x)) w:=by
     rw[<-hsz]
     have d:=j.1
     unfold EY at d
     split at d
     .next q=>
      rw[q]
      simp only[aF,bB]at d
      have g:=aK d.2
      have hl:=ax.len b
      rw[g]at hl
      obtain⟨w,hw⟩:=List.length_eq_one_iff.mp hl
      rw[hw,g]at f
      refine⟨w,?_,?_⟩
      .rw[g];exact W3 (o:=0) f rfl
      .rw[d.1]
       rw[hw]at b
       cases τ with
       |int k=>exact(show eg (W.x D) Q (.int k x) [w]from b)
       |bool=>exact(show eg (W.x D) Q (.bool x) [w]from b)
       |sl t w' e=>exact(show eg (W.x D) Q (.sl t w' e x) [w]from b)
       |tup=>exact b.elim
       |tup3=>exact b.elim
       |_=>cases d.1
     .next m q=>
      rw[q]
      simp only[aF]at d
      have g:=aK d.2
      subst g
      refine⟨_,by simp only[jv,f];rfl,?_⟩
      rw[d.1]
      exact⟨_,rfl,vE b⟩
     .cases d
    obtain⟨w,g1,g2⟩:=key
    refine⟨_,w,?_,g2,G⟩
    show wK Tryz.prog t _ (.int kd (.ofNat n)) s'=_
    simp only[wK,hu,z,y,g1];rfl
   .cases h
  .cases h
 .cases h
theorem Ha{t:TypeId}{a p:Pv}{v:Value}(hs:L6 W Q C e F s)(ha:cL W Q a v)(h:GZ C e t a=some p)(ts:List TypeId)(s':St):∃w,Vk Tryz.prog (t::ts) [v] s'=.ok (.value w) s'/\cL W Q p w:=by
 unfold GZ at h
 split at h
 .next el hu=>cases h;cases ha;exact⟨_,by simp only[Vk,hu];rfl,rfl⟩
 .next el t' w τ l hu=>
  cases h
  obtain⟨a',cap,L,e1,_⟩:=ha
  simp only[List.cons.injEq,fA]at e1
  subst e1
  exact⟨.int .i64 (l.length:Int),by simp only[Vk,hu];rfl,rfl⟩
 .next el j n hu=>
  cases h
  obtain⟨q,c,hx⟩:=ha
  simp only[List.cons.injEq,fA]at hx
  subst hx
  exact⟨.int .i64 (n:Int),by simp only[Vk,hu];rfl,rfl⟩
 .next el j hu=>
  split at h
  .next t' w τ l ho=>
   cases h
   obtain⟨q,a,cap,c,hv,hl⟩:=hs.lst _ _ _ _ _ ho
   obtain⟨q',b,e1,_⟩:=ha
   rw[c]at b;cases b
   simp only[List.cons.injEq,fA]at e1
   rw[hv]at e1
   subst e1
   exact⟨.int .i64 (l.length:Int),by simp only[Vk,hu];rfl,rfl⟩
  .cases h
 .cases h
theorem zep:∀{l:List (Bool×List Lf)} {vs:List Value} {i:Nat} {p:Bool×List Lf},fO W Q l vs->zH l i=some p->∃v,zH vs i=some v/\QR W Q p v
 |x::l,vs,0,p,⟨v,r,e,h1,h2⟩,h=>by cases h;subst e;exact⟨v,rfl,h1⟩
 |x::l,vs,i+1,p,⟨v,r,e,h1,h2⟩,h=>by subst e;exact zep (l:=l) (vs:=r) (i:=i) h2 h
theorem zfp{a p:Pv}{i:Nat}{v:Value}(ha:cL W Q a v)(h:Vz a i=some p)(s':St):∃w,vF v i s'=.ok (.value w) s'/\cL W Q p w:=by
 unfold Vz at h
 split at h
 .next l=>
  obtain⟨vs,rfl,ha⟩:=ha
  split at h
  .next l' hl=>
   cases h
   obtain⟨w,h1,h2⟩:=zep ha hl
   exact⟨w,by simp only[vF,h1];rfl,h2⟩
  .next x hl=>
   cases h
   obtain⟨w,h1,x',h2,b⟩:=zep ha hl
   simp only[List.cons.injEq,fA]at h2
   subst h2
   exact⟨w,by simp only[vF,h1];rfl,b⟩
  .cases h
 .cases h
theorem nT{Γ:TypeId->Option Ty}{t:TypeId}{parts:List (Nat×Operand)}{p:Pv}(b:∀x p,e.ev C x=some p->cL (W.x D) Q p (zd F x))(h:zgh Γ C e t parts=some p)(s':St):∃w,wT Tryz.prog t parts (zd F) s'=.ok (.value w) s'/\cL (W.x D) Q p w:=by
 unfold zgh at h
 split at h
 .next z fs τ f hu hΓ=>
  split at h
  .next l hl a=>
   split at h
   .next c hc=>
    cases h
    obtain⟨c',h1,h2⟩:=QZ b (jY (W:=W) (D:=D) (Q:=Q) hl) hc
    exact⟨_,by simp only[wT,f,hu,a,h1];rfl,c',rfl,h2⟩
   .cases h
  .cases h
 .next z el τ f hu hΓ=>
  split at h
  .next l inf hl d=>
   split at h
   .next c hc=>
    cases h
    obtain⟨c',h1,h2⟩:=QZ b (jY (W:=W) (D:=D) (Q:=Q) hl) hc
    exact⟨_,by simp only[wT,f,hu,d,h1];rfl,c',rfl,h2⟩
   .cases h
  .cases h
 .cases h
theorem zah{Γ:TypeId->Option Ty}{o:Op}(hs:L6 (W.x D) Q C e F s)(hb:∀t x,o=.load t x->∀p,zd F x=.pointer (some p)->p.block<s.next->s'.get p.block=s.get p.block)(h:KK Γ C e o k=some r) :
 ∃p v,zj Tryz.prog (zd F) o s'=.ok (.value v) s'/\cL (W.x D) Q p v/\k p=some r:=by
 unfold KK at h
 split at h
 .obtain⟨p,hp,h⟩:=yN h
  exact⟨p,_,rfl,hs.ev _ _ hp,h⟩
 .obtain⟨p,hp,h⟩:=yN h
  exact⟨p,_,rfl,hs.ev _ _ hp,h⟩
 .next c a b=>
  split at h
  .next H hc=>
   have hc:=hs.ev _ _ hc
   have hc:zd F c=.bool H:=by have:[zd F c]=[Value.bool H]:=hc;simpa using this
   split at h
   .next g=>
    subst g
    obtain⟨p,hp,h⟩:=yN h
    exact⟨p,_,by simp only[zj,YE,hc];rfl,hs.ev _ _ hp,h⟩
   .next g=>
    obtain rfl:H=false:=by simpa using g
    obtain⟨p,hp,h⟩:=yN h
    exact⟨p,_,by simp only[zj,YE,hc];rfl,hs.ev _ _ hp,h⟩
  .cases h
 .next t x=>
  obtain⟨a,ha,h⟩:=yN h
  exact AJ hs (hb t x rfl) (hs.ev _ _ ha) h
 .next t x f=>
  obtain⟨a,ha,h⟩:=yN h
  obtain⟨p,hp,h⟩:=yN h
  obtain⟨u,h1,h2⟩:=zaW (hs.ev _ _ ha) hp s'
  exact⟨p,u,h1,h2,h⟩
 .next t x i=>
  obtain⟨a,ha,h⟩:=yN h
  obtain⟨R,hi,h⟩:=yN h
  exact zaF hs (hs.ev _ _ ha) (hs.ev _ _ hi) h s'
 .next t x f=>
  obtain⟨a,ha,h⟩:=yN h
  obtain⟨p,hp,h⟩:=yN h
  obtain⟨u,h1,h2⟩:=oU (hs.ev _ _ ha) hp s'
  exact⟨p,u,h1,h2,h⟩
 .next t x i=>
  obtain⟨a,ha,h⟩:=yN h
  obtain⟨R,hi,h⟩:=yN h
  exact pd (hs.ev _ _ ha) (hs.ev _ _ hi) h s'
 .next o' t x y t2=>
  obtain⟨a,ha,h⟩:=yN h
  obtain⟨b,d,h⟩:=yN h
  exact Gv hs.kn (hs.ev _ _ ha) (hs.ev _ _ d) h s'
 .next t x=>
  split at h
  .next b d=>
   have hc:zd F x=.bool b:=by have:[zd F x]=[Value.bool b]:=hs.ev _ _ d;simpa using this
   exact⟨.one (.bool (!b)),.bool (!b),by simp only[zj,BS,hc];rfl,rfl,h⟩
  .cases h
 .next t x=>
  split at h
  .next a ha=>
   have hc:zd F x=.int .i64 a:=by have:[zd F x]=[Value.int .i64 a]:=hs.ev _ _ ha;simpa using this
   obtain⟨z,O,h⟩:=zT h
   obtain⟨rfl,B⟩:=wL O
   refine⟨.one (.int .i64 (0-a)),.int .i64 (0-a),?_,rfl,h⟩
   have:=Yo B
   simp only[zj,BS,hc]
   show cE.ok (Next.value (Value.int .i64 (IntKind.i64.wrap (0-a)))) s'=_
   rw[this]
  .next a hx=>
   have hc:zd F x=.int .u64 a:=(List.cons.inj (show [zd F x]=_ from hs.ev _ _ hx)).1
   refine⟨.one (.int .u64 ((0-a) % 18446744073709551616)),.int .u64 ((0-a) % 18446744073709551616),?_,rfl,h⟩
   simp only[zj,BS,hc]
   show cE.ok (Next.value (Value.int .u64 (IntKind.u64.wrap (0-a)))) s'=_
   rw[FD]
  .cases h
 .next x i=>
  obtain⟨a,ha,h⟩:=yN h
  obtain⟨p,hp,h⟩:=yN h
  obtain⟨u,h1,h2⟩:=zfp (hs.ev _ _ ha) hp s'
  exact⟨p,u,h1,h2,h⟩
 .next x=>
  split at h
  .next j off hp=>
   have hp:=hs.ev _ _ hp
   obtain⟨q,K,hx⟩:=hp
   simp only[List.cons.injEq,fA]at hx
   exact⟨.one (.ptr j off),.pointer (some ⟨q.2,off,none⟩),by simp only[zj,K3,hx];rfl,⟨q,K,rfl⟩,h⟩
  .next t w τ y off hp=>
   have hp:=hs.ev _ _ hp
   obtain⟨b,o,S,cap,L,P,G,hk,J,hx⟩:=hp
   simp only[List.cons.injEq,fA]at hx
   exact⟨.one (.ep t w τ y off),.pointer (some ⟨b,o+P*w+off,none⟩),by simp only[zj,K3,hx];rfl,⟨b,o,S,cap,L,P,G,hk,J,rfl⟩,h⟩
  .next j w i off hp=>
   have hp:=hs.ev _ _ hp
   obtain⟨q,K,hx⟩:=hp
   simp only[List.cons.injEq,fA]at hx
   exact⟨.one (.op j w i off),.pointer (some ⟨q.2,i.toNat*w+off,none⟩),by simp only[zj,K3,hx];rfl,⟨q,K,rfl⟩,h⟩
  .next f hp=>
   have hx:[zd F x]=_:=hs.ev _ _ hp
   simp only[List.cons.injEq,fA]at hx
   exact⟨.one (.fn f),_,by simp only[zj,K3,hx];rfl,rfl,h⟩
  .next f l hp=>
   have hp:=hs.ev _ _ hp
   obtain⟨cs,hx,hl⟩:=hp
   exact⟨.clo f l,_,by simp only[zj,K3,hx];rfl,⟨cs,rfl,hl⟩,h⟩
  .cases h
 .next src dst x=>
  split at h
  .next a' b' a m A hx=>
   have hx:zd F x=.int .i64 a:=(List.cons.inj (show [zd F x]=_ from hs.ev _ _ hx)).1
   refine⟨.one (.int .u64 (a % 18446744073709551616)),.int .u64 (a % 18446744073709551616),?_,rfl,h⟩
   simp only[zj,vG,m,A,hx,FD];rfl
  .next a' b' a m A hx=>
   have hx:zd F x=.int .u64 a:=(List.cons.inj (show [zd F x]=_ from hs.ev _ _ hx)).1
   obtain⟨z,O,h2⟩:=zT h
   obtain⟨rfl,B⟩:=wL O
   refine⟨.one (.int .i64 z),.int .i64 z,?_,rfl,h2⟩
   simp only[zj,vG,m,A,hx,Yo B];rfl
  .cases h
 .next t x=>
  split at h
  .next n el t' w τ l hu hx=>
   split at h
   .next hn=>
    obtain⟨a,cap,L,e1,G,I,J⟩:=hs.ev _ _ hx
    have M:=hs.kn.s _ _ _ _ G
    cases M with
    |nil c hv hl=>rw[hl]at I;simp at I;omega
    |block b off E c hv hgc hbn hcap hc=>
     have hx:zd F x=.slice (some ⟨b,off,none⟩) L.length E:=by rw[<-hv];exact(List.cons.inj e1).1
     refine⟨.one (.sp t' w τ l),.pointer (some ⟨b,off,none⟩),?_,⟨b,off,_,_,L,rfl,by rw[<-hv];exact G,I,J⟩,h⟩
     have hle:Nat.ble (n+1) L.length=true:=aZ Oz
     simp only[zj,iN,hu,hx,hle];rfl
   .cases h
  .cases h
 .next t parts=>
  obtain⟨p,hp,h⟩:=yN h
  obtain⟨u,h1,h2⟩:=nT hs.ev hp s'
  exact⟨p,u,h1,h2,h⟩
 .next f caps=>
  split at h
  .next hk=>
   obtain⟨l,hl,h⟩:=yN h
   exact⟨.clo f l,_,by simp only[zj,hk];rfl,⟨_,rfl,zhF hs.ev hl⟩,h⟩
  .cases h
 .next c=>
  split at h
  .next t ts x hc N has=>
   obtain⟨a,ha,h⟩:=yN h
   obtain⟨p,hp,h⟩:=yN h
   obtain⟨u,h1,h2⟩:=Ha hs (hs.ev _ _ ha) hp ts s'
   exact⟨p,u,by simp only[zj,hc,N,has,xn,qv];exact h1,h2,h⟩
  .cases h
 .cases h
end
def wx(b:Nat):Option ak->au
 |none=>[]
 |some o=>[(b,o)]
abbrev ff(W:Wd)(Q:Qs)(l:List (Nat×Pv))(F:FF):Prop:=∀p,p∈l->cL W Q p.2 (F p.1)
def GC(N:Nat)(x y:Code):Prop:=(xP x&&xP y&&kA x&&kA y)=true/\qX N x=true/\qX N y=true
def cZ(W:Wd)(Q:Qs):Ob->Value×Nat->Option ak->Prop
 | .cells l,_,o=>∃c t,o=some (.cells c t)/\bu W Q l c
 | .loop N slots ps x y st pend,_,o=>GC N x y/\∃fr b,o=some (.loop {fr:=fr,params:=ps,assign:=x,body:=y,state:=st,pend:=pend})/\aT N b fr/\ff W Q slots b
 | .list t w e l,q,o=>∃a cap,q.1=.slice a l.length cap/\(l.length=0->cap=0)/\dk W t w e (wx q.2 o) a l.length cap l
 |_,_,_=>True
structure fy where
 slots:List (Nat×Pv)
 F:FF
 n:Nat
 psi:au:=[]
structure GX(QL:Qs)(W:Wd)(s0 s:St)(C:Cx)(stk:List fy)(e:En)(F:FF)(m:Nat)(Q:Qs)(O:List (Option ak))(L Φ:au):Prop where
 K:et s0 W
 H:HL [] s0 s L m
 oq:O.length=Q.length
 len:e.objs.length=Q.length
 cn:C.n<=Q.length
 ln:C.lent<=C.n
 pre:∀(i:Nat),i<C.lent->Q[i]? = QL[i]?
 fro:Φ⊆L
 own:∀(i:Nat) q o,Q[i]? = some q->O[i]? = some (some o)->C.lent<=i->(q.2,o)∈L
 lent:∀(i:Nat) q o,Q[i]? = some q->O[i]? = some (some o)->i<C.lent->s.get q.2=some o/\q.2<s0.next
 inj:∀(i j:Nat) q r o o',Q[i]? = some q->Q[j]? = some r->O[i]? = some (some o)->O[j]? = some (some o')->q.2=r.2->i=j
 dis:∀(i:Nat) q o p,C.lent<=i->Q[i]? = some q->O[i]? = some (some o)->p∈Φ->p.1≠q.2
 obj:∀(i:Nat) b q o,e.objs[i]? = some b->Q[i]? = some q->O[i]? = some o->cZ (W.x Φ) Q b q o
 cob:∀(i:Nat) b q o,e.objs[i]? = some .const->C.objs[i]? = some b->Q[i]? = some q->O[i]? = some o->cZ (W.x Φ) (Q.take C.n) b q o
 slots:ff (W.x Φ) Q e.slots F
 cslots:ff (W.x Φ) (Q.take C.n) C.slots F
 stk:∀f,f∈stk->f.n<=C.n/\ff (W.x Φ) (Q.take f.n) f.slots f.F/\f.psi⊆Φ
def vg(QL:Qs)(W:Wd)(s0 s:St)(C:Cx)(stk:List fy)(e:En)(F:FF)(m:Nat):Prop:=∃Q O L Φ,GX QL W s0 s C stk e F m Q O L Φ
theorem Vv{α:Type}{l:List (Nat×α)}{t:Nat}{v:α}(h:cW l t=some v):(t,v)∈l:=by
 induction l with
 |nil=>cases h
 |cons p l a=>
  obtain⟨t',u⟩:=p
  simp only[cW]at h
  split at h
  .next hb=>cases h;rw[aK hb];exact aO ..
  .exact aP _ (a h)
theorem lC{α:Type}{l:List (Nat×α)}{t:Nat}(h:cW l t=none):∀p,p∈l->p.1≠t:=by
 induction l with
 |nil=>intro p hp;cases hp
 |cons p l a=>
  obtain⟨t',u⟩:=p
  simp only[cW]at h
  split at h
  .cases h
  .next hb=>
   intro p hp
   rcases aJ.mp hp with rfl|hp
   .intro e;simp only at e;subst e;simp at hb
   .exact a h p hp
theorem XD{α:Type}{l:List (Nat×α)}{d:Nat}{p:Nat×α}(h:p∈Rs l d):p∈l/\p.1≠d:=by
 induction l with
 |nil=>cases h
 |cons q l a=>
  obtain⟨t',u⟩:=q
  simp only[Rs]at h
  split at h
  .obtain⟨h1,h2⟩:=a h;exact⟨aP _ h1,h2⟩
  .next hb=>
   rcases aJ.mp h with rfl|h
   .exact⟨aO ..,λe=>by simp only at e;subst e;simp at hb⟩
   .obtain⟨h1,h2⟩:=a h;exact⟨aP _ h1,h2⟩
theorem y9{α:Type}(l:List α)(n:Nat)(y:α):(zM l n y).length=l.length:=by
 induction l generalizing n with
 |nil=>rfl
 |cons x l a=>cases n with
  |zero=>rfl
  |succ n=>simp only[zM,aU,a]
theorem xV{α:Type}(l:List α)(n i:Nat)(y:α):(zM l n y)[i]? = if i=n/\i<l.length then some y else l[i]? :=by
 induction l generalizing n i with
 |nil=>simp[zM]
 |cons x l a=>cases n with
  |zero=>cases i<;>simp[zM]
  |succ n=>cases i with
   |zero=>simp[zM]
   |succ i=>simp only[zM,cR,a,Nat.succ.injEq,aU,Nat.add_lt_add_iff_right,dS]
theorem ff.mono{W W':Wd}{Q Q':Qs}(hw:cu W W')(a:cd Q Q'){l:List (Nat×Pv)}{F:FF}(h:ff W Q l F):ff W' Q' l F:=λp hp=>(h p hp).mono hw a
theorem cZ.mono{W W':Wd}{Q Q':Qs}(hw:cu W W')(d:cd Q Q'){b:Ob}{q:Value×Nat}{o:Option ak}(h:cZ W Q b q o):cZ W' Q' b q o:=by
 cases b with
 |loop N slots ps x y st pend=>obtain⟨h0,fr,f,e,ha,h⟩:=h;exact⟨h0,fr,f,e,ha,h.mono hw d⟩
 |cells l=>obtain⟨c,t,e,h⟩:=h;exact⟨c,t,e,h.mono hw d⟩
 |list t w e l=>obtain⟨a,cap,e,h0,h⟩:=h;exact⟨a,cap,e,h0,h.mono hw⟩
 |_=>trivial
section
variable{W:Wd}{s0 s:St}{C:Cx}{QL:Qs}{stk:List fy}{e:En}{F:FF}{m:Nat}{Q:Qs}{O:List (Option ak)}{L Φ:au}
theorem GX.get(G:GX QL W s0 s C stk e F m Q O L Φ){i:Nat}{q:Value×Nat}{o:ak}(h1:Q[i]? = some q)(h2:O[i]? = some (some o)):s.get q.2=some o:=by
 by_cases hi:C.lent<=i
 .exact(G.H.own _ (G.own i q o h1 h2 hi)).1
 .exact(G.lent i q o h1 h2 Oz).1
theorem GX.lt(G:GX QL W s0 s C stk e F m Q O L Φ){i:Nat}{q:Value×Nat}{o:ak}(h1:Q[i]? = some q)(h2:O[i]? = some (some o)):q.2<s.next:=by
 by_cases hi:C.lent<=i
 .exact(G.H.own _ (G.own i q o h1 h2 hi)).2.1
 .have:=(G.lent i q o h1 h2 Oz).2;have:=G.H.le;omega
theorem GX.at(G:GX QL W s0 s C stk e F m Q O L Φ){j:Nat}{b:Ob}(h:e.obj C j=some b):∃q o,Q[j]? = some q/\O[j]? = some o/\cZ (W.x Φ) Q b q o:=by
 unfold En.obj at h
 rw[zN,zN]at h
 have hj:∀b',e.objs[j]? = some b'->∃q o,Q[j]? = some q/\O[j]? = some o:=λb' hb=>by
  have h1:=(aM.mp hb).1
  have h2:j<Q.length:=by rw[<-G.len];exact h1
  have c:j<O.length:=by rw[G.oq];exact h2
  exact⟨_,_,aE h2,aE c⟩
 split at h
 .next hc=>
  obtain⟨q,o,a,ho⟩:=hj _ hc
  exact⟨q,o,a,ho,(G.cob j b q o hc h a ho).mono cu.rfl cd.take⟩
 .obtain⟨q,o,a,ho⟩:=hj _ h
  exact⟨q,o,a,ho,G.obj j b q o h a ho⟩
theorem GX.ev(G:GX QL W s0 s C stk e F m Q O L Φ){x:Operand}{p:Pv}(h:e.ev C x=some p):cL (W.x Φ) Q p (zd F x):=by
 unfold En.ev at h
 split at h
 .next t=>
  unfold En.get at h
  split at h
  .next hf=>cases h;exact G.slots _ (Vv hf)
  .exact(G.cslots _ (Vv h)).mono cu.rfl cd.take
 .next v=>
  split at h
  .next l hl=>
   cases h
   unfold ofV at hl
   split at hl<;>cases hl<;>rfl
  .cases h
 .cases h;rfl
 .cases h
theorem GX.see(G:GX QL W s0 s C stk e F m Q O L Φ):L6 (W.x Φ) Q C e F s where
 ev _ _ h:=G.ev h
 cel j l h:=by
  obtain⟨q,o,d,ho,c,t,rfl,hl⟩:=G.at h
  exact⟨q,c,t,d,G.lt d ho,G.get d ho,hl⟩
 lst j t w τ l h:=by
  obtain⟨q,o,d,ho,a,cap,hv,_,h1,h2,L',h3,f,p,r⟩:=G.at h
  refine⟨q,a,cap,d,hv,λk x hx=>?_⟩
  have hk:=(aM.mp hx).1
  generalize i:wx q.2 o=D at f
  generalize hc:L'.flatten=c at f
  generalize g:(Value.slice a l.length cap)=sl at f
  generalize hn:l.length=n at f
  cases f with
  |nil=>omega
  |block b cap' _ _ hl hcap=>
   cases g
   cases o with
   |none=>cases i
   |some o=>
    cases i
    refine⟨c,t,L'.getD k [],rfl,G.lt d ho,G.get d ho,?_,r _ _ hx⟩
    have:=gl p (k:=k) Oz
    rw[cB,hc]at this
    exact this
 kn:=G.K.x G.H G.fro
theorem GX.put(G:GX QL W s0 s C stk e F m Q O L Φ){d:Nat}{p:Pv}{v:Value}(hd:cW C.slots d=none)(hp:cL (W.x Φ) Q p v):GX QL W s0 s C stk {e with slots:=putS e.slots d p} (ba F (some d) v) m Q O L Φ:=
 {G with
  slots:=λx hx=>by
   rcases aJ.mp hx with rfl|hx
   .rw[vk,aG rfl];exact hp
   .obtain⟨h1,h2⟩:=XD hx
    rw[vk,aD h2];exact G.slots _ h1
  cslots:=λx hx=>by
   rw[vk,aD (lC hd x hx)];exact G.cslots _ hx}
theorem GX.set(G:GX QL W s0 s C stk e F m Q O L Φ){ρ:Type}{k:En->Option ρ}{r:ρ}{d:Option Nat}{p:Pv}{v:Value}(hp:cL (W.x Φ) Q p v)(h:e.set C d p k=some r):∃a,GX QL W s0 s C stk a (ba F d v) m Q O L Φ/\k a=some r:=by
 unfold En.set at h
 split at h
 .exact⟨e,G,h⟩
 .split at h
  .cases h
  .next hd=>exact⟨_,G.put hd hp,h⟩
theorem GX.mark(G:GX QL W s0 s C stk e F m Q O L Φ){x:Operand}{b:Bool}(hx:e.ev C x=some (.one (.bool b))):GX QL W s0 s C stk (e.mark x b) F m Q O L Φ:=by
 unfold En.mark
 split
 .next t=>
  have hv:=G.ev hx
  exact{G with
   slots:=λx hx=>by
    rcases aJ.mp hx with rfl|hx
    .exact hv
    .exact G.slots _ (XD hx).1}
 .exact G
theorem xC{α:Type}{l:List α}{x:α}{i:Nat}{y:α}(h:(l++[x])[i]? = some y):(i<l.length/\l[i]? = some y)\/(i=l.length/\y=x):=by
 by_cases hi:i<l.length
 .rw[cA hi]at h;exact .inl ⟨hi,h⟩
 .have h1:=(aM.mp h).1
  simp only[aQ,List.length_singleton]at h1
  obtain rfl:i=l.length:=by omega
  simp only[List.getElem?_concat_length]at h
  cases h;exact .inr ⟨rfl,rfl⟩
theorem GX.swap(G:GX QL W s0 s C stk e F m Q O L Φ){s':St}{z:au}{b:Nat}{o:ak}{bo:Ob}{v:Value}{J:Nat}(H':HL [] s0 s' ((b,o)::z) J)(hΦ:Φ⊆z)(k:∀(i:Nat) q o,Q[i]? = some q->O[i]? = some (some o)->C.lent<=i->(q.2,o)∈z)
 (hb:cZ (W.x Φ) (Q++[(v,b)]) bo (v,b) (some o)) (B:bo≠.const) :
 GX QL W s0 s' C stk {e with objs:=e.objs++[bo]} F J (Q++[(v,b)]) (O++[some o]) ((b,o)::z) Φ:=by
 have hbge:s0.next<=b:=by
  rcases(H'.own (b,o) (aO ..)).2.2.2 with h|h
  .exact h
  .cases h
 have hd:=(List.pairwise_cons.mp H'.dist).1
 have w:∀(i:Nat) q o,Q[i]? = some q->O[i]? = some (some o)->q.2≠b:=λi q o' h1 h2 he=>by
  by_cases hi:C.lent<=i
  .exact hd _ (k i q o' h1 h2 hi) he.symm
  .have:=(G.lent i q o' h1 h2 Oz).2;omega
 have l:∀{i:Nat} {y},(O++[some o])[i]? = some y->(i<Q.length/\O[i]? = some y)\/(i=Q.length/\y=some o):=λh=>by
  have:=xC h;rwa[G.oq]at this
 have I:∀{i:Nat} {y},(e.objs++[bo])[i]? = some y->(i<Q.length/\e.objs[i]? = some y)\/(i=Q.length/\y=bo):=λh=>by
  have:=xC h;rwa[G.len]at this
 exact{
  K:=G.K,H:=H'
  oq:=by simp[G.oq]
  len:=by simp[G.len]
  cn:=by have:=G.cn;simp;omega
  ln:=G.ln
  pre:=λi hi=>by rw[cA (by have:=G.ln;have:=G.cn;omega)];exact G.pre i hi
  fro:=λp hp=>aP _ (hΦ hp)
  own:=λi q o' g ho hi=>by
   rcases xC g with⟨h1,h2⟩|⟨h1,h2⟩<;>rcases l ho with⟨c,a⟩|⟨c,a⟩
   .exact aP _ (k i q o' h2 a hi)
   .omega
   .omega
   .cases h2;cases a;exact aO ..
  lent:=λi q o' g ho hi=>by
   have:=G.ln;have:=G.cn
   rcases xC g with⟨h1,h2⟩|⟨h1,h2⟩<;>rcases l ho with⟨c,a⟩|⟨c,a⟩
   .obtain⟨g1,g2⟩:=G.lent i q o' h2 a hi
    exact⟨by rw[H'.get g2,<-G.H.get g2];exact g1,g2⟩
   .omega
   .omega
   .omega
  inj:=λi j q r M N g R D E t=>by
   rcases xC g with⟨h1,h2⟩|⟨h1,h2⟩<;>rcases xC R with⟨c,a⟩|⟨c,a⟩<;>rcases l D with⟨u,d⟩|⟨u,d⟩<;>rcases l E with⟨P,A⟩|⟨P,A⟩<;>try omega
   .exact G.inj i j q r M N h2 a d A t
   .subst a;exact(w i q M h2 d t).elim
   .subst h2;exact(w j r N a A t.symm).elim
  dis:=λi q o' p hi g ho hp=>by
   rcases xC g with⟨h1,h2⟩|⟨h1,h2⟩<;>rcases l ho with⟨c,a⟩|⟨c,a⟩<;>try omega
   .exact G.dis i q o' p hi h2 a hp
   .subst h2;exact λhe=>hd _ (hΦ hp) he.symm
  obj:=λi b' q o' n g ho=>by
   rcases xC g with⟨h1,h2⟩|⟨h1,h2⟩<;>rcases l ho with⟨c,a⟩|⟨c,a⟩<;>rcases I n with⟨u,d⟩|⟨u,d⟩<;>try omega
   .exact(G.obj i b' q o' d h2 a).mono cu.rfl cd.app
   .subst h2 a d;exact hb
  cob:=λi b' q o' hc n g ho=>by
   rw[List.take_append_of_le_length G.cn]
   rcases xC g with⟨h1,h2⟩|⟨h1,h2⟩<;>rcases l ho with⟨c,a⟩|⟨c,a⟩<;>rcases I hc with⟨u,d⟩|⟨u,d⟩<;>try omega
   .exact G.cob i b' q o' d n h2 a
   .exact(B d.symm).elim
  slots:=G.slots.mono cu.rfl cd.app
  cslots:=by rw[List.take_append_of_le_length G.cn];exact G.cslots
  stk:=λf hf=>by
   obtain⟨h1,h2,c⟩:=G.stk f hf
   exact⟨h1,by rw[List.take_append_of_le_length (by have:=G.cn;omega)];exact h2,c⟩}
theorem GX.new(G:GX QL W s0 s C stk e F m Q O L Φ)(c:s0.next+m<zA){o:ak}{b:Ob}{v:Value}(hb:cZ (W.x Φ) (Q++[(v,s.next)]) b (v,s.next) (some o))(a:b≠.const) :
 GX QL W s0 (s.new o) C stk {e with objs:=e.objs++[b]} F (m+1) (Q++[(v,s.next)]) (O++[some o]) ((s.next,o)::L) Φ:=
 G.swap (G.H.new o c) G.fro G.own hb a
end
section
variable{W:Wd}{s0 s:St}{C:Cx}{QL:Qs}{stk:List fy}{e:En}{F:FF}{m:Nat}{Q:Qs}{O:List (Option ak)}{L Φ:au}
theorem GX.write(G:GX QL W s0 s C stk e F m Q O L Φ)(E:s0.next+m<=zA){j:Nat}{q:Value×Nat}{o o':ak}{b:Ob}(r:Q[j]? = some q)(ho:O[j]? = some (some o))(hj:C.lent<=j)(hb:cZ (W.x Φ) Q b q (some o'))(y:b≠.const) :
 ∃J,GX QL W s0 (s.put q.2 (some o')) C stk (e.setO j b) F m Q (zM O j (some o')) J Φ:=by
 have f:=G.own j q o r ho hj
 obtain⟨A,B,rfl⟩:=eI f
 have g:=G.H.own _ f
 have hge:s0.next<=q.2:=by rcases g.2.2.2 with h|h;exact h;cases h
 have hlt:q.2<s.next:=g.2.1
 have hmost:=G.H.most
 have z:=λb'=>St.get_put (s:=s) (b:=q.2) (by unfold zA at E;omega) (some o') b'
 have l:j<O.length:=(aM.mp ho).1
 have n:∀p,p∈A++(q.2,o)::B->p.1≠q.2->p∈A++(q.2,o')::B:=λp hp a=>by
  rcases aW.mp hp with h|h
  .exact bJ _ h
  .rcases aJ.mp h with rfl|h
   .exact(a rfl).elim
   .exact bA _ (aP _ h)
 have k:∀(i:Nat) c,(zM O j (some o'))[i]? = some c->(i=j/\c=some o')\/(i≠j/\O[i]? = some c):=λi c h=>by
  rw[xV]at h
  split at h
  .next h1=>cases h;exact .inl ⟨h1.1,rfl⟩
  .next h1=>
   refine .inr ⟨λe=>?_,h⟩
   subst e
   exact h1 ⟨rfl,l⟩
 refine⟨A++(q.2,o')::B,?_⟩
 exact{
  K:=G.K,H:=G.H.putAt A o' E,oq:=by rw[y9];exact G.oq,len:=by simp only[En.setO,y9];exact G.len
  cn:=G.cn,ln:=G.ln,pre:=G.pre
  fro:=λp hp=>n p (G.fro hp) (G.dis j q o p hj r ho hp)
  own:=λi d c h1 h2 hi=>by
   rcases k i _ h2 with⟨rfl,h⟩|⟨a,h⟩
   .cases h;rw[r]at h1;cases h1;exact bA _ (aO ..)
   .exact n _ (G.own i d c h1 h hi) λe=>a (G.inj i j d q c o h1 r h ho e)
  lent:=λi d c h1 h2 hi=>by
   rcases k i _ h2 with⟨rfl,h⟩|⟨a,h⟩
   .omega
   .obtain⟨g1,g2⟩:=G.lent i d c h1 h hi
    exact⟨by rw[z,aD Oz];exact g1,g2⟩
  inj:=λi1 i2 d D c I h1 h2 M N he=>by
   rcases k i1 _ M with⟨rfl,h⟩|⟨a,h⟩<;>rcases k i2 _ N with⟨v,w⟩|⟨v,w⟩
   .exact v.symm
   .exact G.inj i1 i2 d D o I h1 h2 ho w he
   .subst v;exact G.inj i1 i2 d D c o h1 h2 h ho he
   .exact G.inj i1 i2 d D c I h1 h2 h w he
  dis:=λi d c p hi h1 h2 hp=>by
   rcases k i _ h2 with⟨rfl,h⟩|⟨a,h⟩
   .exact G.dis i d o p hi h1 ho hp
   .exact G.dis i d c p hi h1 h hp
  obj:=λi t d c h0 h1 h2=>by
   rw[En.setO,xV]at h0
   rcases k i _ h2 with⟨rfl,rfl⟩|⟨a,h⟩
   .have:i<e.objs.length:=by rw[G.len,<-G.oq];exact l
    rw[aG ⟨rfl,this⟩]at h0
    rw[r]at h1
    cases h0;cases h1;exact hb
   .rw[aD (λh=>a h.1)]at h0
    exact G.obj i t d c h0 h1 h
  cob:=λi t d c h0 u h1 h2=>by
   rw[En.setO,xV]at h0
   rcases k i _ h2 with⟨rfl,rfl⟩|⟨a,h⟩
   .have:i<e.objs.length:=by rw[G.len,<-G.oq];exact l
    rw[aG ⟨rfl,this⟩]at h0
    cases h0;exact(y rfl).elim
   .rw[aD (λh=>a h.1)]at h0
    exact G.cob i t d c h0 u h1 h
  slots:=G.slots,cslots:=G.cslots,stk:=G.stk}
theorem GX.drop(G:GX QL W s0 s C stk e F m Q O L Φ)(j:Nat):GX QL W s0 s C stk (e.setO j .dead) F m Q (zM O j none) L Φ:=by
 have d:∀(i:Nat) c,(zM O j none)[i]? = some (some c)->i≠j/\O[i]? = some (some c):=λi c h=>by
  rw[xV]at h
  split at h
  .cases h
  .next h1=>
   refine⟨λe=>?_,h⟩
   subst e
   exact h1 ⟨rfl,(aM.mp h).1⟩
 have k:∀(i:Nat) b,(zM e.objs j .dead)[i]? = some b->b=.dead\/(i≠j/\e.objs[i]? = some b):=λi b h=>by
  rw[xV]at h
  split at h
  .cases h;exact .inl rfl
  .next h1=>
   refine .inr ⟨λe=>?_,h⟩
   subst e
   exact h1 ⟨rfl,(aM.mp h).1⟩
 have f:∀(i:Nat) c,i≠j->(zM O j none)[i]? = some c->O[i]? = some c:=λi c a h=>by
  rw[xV,aD (λh=>a h.1)]at h;exact h
 exact{G with
  oq:=by rw[y9];exact G.oq
  len:=by simp only[En.setO,y9];exact G.len
  own:=λi q o h1 h2=>G.own i q o h1 (d i o h2).2
  lent:=λi q o h1 h2=>G.lent i q o h1 (d i o h2).2
  inj:=λi j q r o o' h1 h2 l n=>G.inj i j q r o o' h1 h2 (d _ _ l).2 (d _ _ n).2
  dis:=λi q o p hi h1 h2=>G.dis i q o p hi h1 (d _ _ h2).2
  obj:=λi b q o h0 h1 h2=>by
   rcases k i b h0 with rfl|⟨a,h⟩
   .trivial
   .exact G.obj i b q o h h1 (f i o a h2)
  cob:=λi b q o h0 g h1 h2=>by
   rcases k i .const h0 with h|⟨a,h⟩
   .cases h
   .exact G.cob i b q o h g h1 (f i o a h2)}
theorem GX.call(G:GX QL W s0 s C stk e F m Q O L Φ){s':St}{D:au}{k:Nat}(H':HL [] s s' D k):GX QL W s0 s' C stk e F (m+k) Q O (D++L) (D++Φ):=by
 have hw:cu (W.x Φ) (W.x (D++Φ)):=vK (dK _ _)
 exact{G with
  H:=G.H.call H'
  fro:=λp hp=>by
   rcases aW.mp hp with h|h
   .exact bJ _ h
   .exact bA _ (G.fro h)
  own:=λi q o h1 h2 hi=>bA _ (G.own i q o h1 h2 hi)
  lent:=λi q o h1 h2 hi=>by
   obtain⟨g1,g2⟩:=G.lent i q o h1 h2 hi
   exact⟨by rw[H'.get (by have:=G.H.le;omega)];exact g1,g2⟩
  dis:=λi q o p hi h1 h2 hp=>by
   rcases aW.mp hp with h|h
   .have:=G.lt h1 h2
    rcases(H'.own p h).2.2.2 with h|h
    .omega
    .cases h
   .exact G.dis i q o p hi h1 h2 h
  obj:=λi b q o h0 h1 h2=>(G.obj i b q o h0 h1 h2).mono hw cd.rfl
  cob:=λi b q o h0 a h1 h2=>(G.cob i b q o h0 a h1 h2).mono hw cd.rfl
  slots:=G.slots.mono hw cd.rfl
  cslots:=G.cslots.mono hw cd.rfl
  stk:=λf hf=>⟨(G.stk f hf).1,(G.stk f hf).2.1.mono hw cd.rfl,λp hp=>bA _ ((G.stk f hf).2.2 hp)⟩}
theorem eg.sub{W W':Wd}{Q:Qs}(hw:cu W W'){j t w:Nat}{τ:Ty}{l:List τ.T}{q:Value×Nat}(b:Q[j]? = some q)(hl:ax W' (.sl t w τ) [q.1] l){x:Lf}{c:List Value}(h:eg W Q x c):eg W' Q (x.sub j (.sl t w τ l)) c:=by
 have a:=h.mono hw cd.rfl
 cases x with
 |own i=>
  simp only[Lf.sub]
  split
  .next hb=>
   obtain rfl:=aK hb
   obtain⟨q',h1,h2,_⟩:=h
   rw[b]at h1;cases h1
   rw[h2];exact hl
  .exact a
 |_=>exact a
theorem bu.sub{W W':Wd}{Q:Qs}(hw:cu W W'){j t w:Nat}{τ:Ty}{l:List τ.T}{q:Value×Nat}(a:Q[j]? = some q)(hl:ax W' (.sl t w τ) [q.1] l):∀{x:List Lf} {c:List Value},bu W Q x c->bu W' Q (sc j (.sl t w τ l) x) c
 | [],_,h=>h
 |_::_,_,⟨c1,b,e,h1,h2⟩=>⟨c1,b,e,h1.sub hw a hl,bu.sub hw a hl h2⟩
theorem fO.sub{W W':Wd}{Q:Qs}(hw:cu W W'){j t w:Nat}{τ:Ty}{l:List τ.T}{q:Value×Nat}(a:Q[j]? = some q)(hl:ax W' (.sl t w τ) [q.1] l):∀{x:List (Bool×List Lf)} {c:List Value},fO W Q x c->fO W' Q (HU j (.sl t w τ l) x) c
 | [],_,h=>h
 |(true,y)::x,_,⟨v,r,e,⟨c,e1,h1⟩,h2⟩=>⟨v,r,e,⟨c,e1,bu.sub hw a hl h1⟩,fO.sub hw a hl h2⟩
 |(false,y)::x,_,⟨v,r,e,⟨z,e1,h1⟩,h2⟩=>⟨v,r,e,⟨z.sub j (.sl t w τ l),by simp only at e1;subst e1;rfl,eg.sub hw a hl h1⟩,fO.sub hw a hl h2⟩
theorem cL.sub{W W':Wd}{Q:Qs}(hw:cu W W'){j t w:Nat}{τ:Ty}{l:List τ.T}{q:Value×Nat}(a:Q[j]? = some q)(hl:ax W' (.sl t w τ) [q.1] l){x:Pv}{v:Value}(h:cL W Q x v):cL W' Q (x.sub j (.sl t w τ l)) v:=by
 cases x with
 |one x=>exact eg.sub hw a hl h
 |agg x=>obtain⟨c,e,h⟩:=h;exact⟨c,e,bu.sub hw a hl h⟩
 |tup x=>obtain⟨c,e,h⟩:=h;exact⟨c,e,fO.sub hw a hl h⟩
 |_=>exact cL.mono hw cd.rfl h
theorem zbO{j:Nat}{x:Lf}:∀{l:List (Nat×Pv)} {p:Nat×Pv},p∈HT j x l->∃a,a∈l/\p=(a.1,a.2.sub j x)
 |(t,u)::l,p,h=>by
  rcases aJ.mp h with rfl|h
  .exact⟨(t,u),aO ..,rfl⟩
  .obtain⟨a,h1,h2⟩:=zbO h
   exact⟨a,aP _ h1,h2⟩
theorem Ks{j:Nat}{x:Lf}:∀{l:List Ob} {i:Nat},(I7 j x l)[i]? = (l[i]?).map (·.sub j x)
 | [],_=>rfl
 |o::l,0=>rfl
 |o::l,i+1=>by simp only[I7,cR];exact Ks
theorem zbP{j:Nat}{x:Lf}:∀{l:List Ob},(I7 j x l).length=l.length
 | []=>rfl
 |o::l=>by simp only[I7,aU,zbP]
theorem GX.frz(G:GX QL W s0 s C stk e F m Q O L Φ){j:Nat}{z:En}(h:e.frz C j=some z):∃A y,GX QL W s0 s C stk z F m Q A L y:=by
 unfold En.frz at h
 split at h
 .next t w τ l hb d=>
  cases h
  have d:=aR d
  rw[zN]at hb
  have g:j<Q.length:=by rw[<-G.len];exact(aM.mp hb).1
  obtain⟨q,n⟩:∃q,Q[j]? = some q:=⟨_,aE g⟩
  obtain⟨o,ho⟩:∃o,O[j]? = some o:=⟨_,aE (by rw[G.oq];exact g)⟩
  obtain⟨a,cap,hv,_,how⟩:=G.obj j _ q o hb n ho
  have r:wx q.2 o⊆L:=by
   cases o with
   |none=>exact List.nil_subset _
   |some o=>intro p hp;simp only[wx,bC]at hp;subst hp;exact G.own j q o n ho d
  have hw:cu (W.x Φ) (W.x (wx q.2 o++Φ)):=vK (dK _ _)
  have hl:ax (W.x (wx q.2 o++Φ)) (.sl t w τ) [q.1] l:=by
   rw[hv];exact how.rep (dK _ _) (List.subset_append_left _ _)
  have G1:=G.drop j
  have k:∀(i:Nat),(I7 j (.sl t w τ l) (zM e.objs j .dead))[i]? = some Ob.const->(zM e.objs j .dead)[i]? = some Ob.const:=λi h=>by
   rw[Ks,Option.map_eq_some_iff]at h
   obtain⟨b,h1,h2⟩:=h
   cases b<;>first|exact h1|(simp only[Ob.sub]at h2;cases h2)
  refine⟨zM O j none,wx q.2 o++Φ,?_⟩
  exact{G1 with
   len:=by simp only[zbP];exact G1.len
   fro:=λp hp=>by
    rcases aW.mp hp with h|h
    .exact r h
    .exact G.fro h
   dis:=λi q' o' p hi h1 h2 hp=>by
    rcases aW.mp hp with h|h
    .cases o with
     |none=>cases h
     |some o=>
      simp only[wx,bC]at h
      subst h
      intro he
      rw[xV]at h2
      split at h2
      .cases h2
      .next v=>
       have:=G.inj j i q q' o o' n h1 ho h2 he
       subst this
       exact v ⟨rfl,by rw[G.oq];exact g⟩
    .exact G1.dis i q' o' p hi h1 h2 h
   obj:=λi b q' o' h0 h1 h2=>by
    rw[Ks,Option.map_eq_some_iff]at h0
    obtain⟨b',h0,rfl⟩:=h0
    have:=G1.obj i b' q' o' h0 h1 h2
    cases b' with
    |cells x=>obtain⟨c,t',e1,h⟩:=this;exact⟨c,t',e1,bu.sub hw n hl h⟩
    |list=>exact this.mono hw cd.rfl
    |loop=>exact this.mono hw cd.rfl
    |_=>trivial
   cob:=λi b q' o' h0 u h1 h2=>(G1.cob i b q' o' (k i h0) u h1 h2).mono hw cd.rfl
   slots:=λp hp=>by
    obtain⟨B,h1,rfl⟩:=zbO hp
    exact(G.slots B h1).sub hw n hl
   cslots:=G.cslots.mono hw cd.rfl
   stk:=λf hf=>⟨(G.stk f hf).1,(G.stk f hf).2.1.mono hw cd.rfl,λp hp=>bA _ ((G.stk f hf).2.2 hp)⟩}
 .cases h
theorem GX.frzL{l:List Lf}:∀{e b:En} {O:List (Option ak)} {Φ:au},GX QL W s0 s C stk e F m Q O L Φ->e.frzL C l=some b->∃d a,GX QL W s0 s C stk b F m Q d L a:=by
 induction l with
 |nil=>intro e b O Φ G h;cases h;exact⟨_,_,G⟩
 |cons x l c=>
  intro e b O Φ G h
  cases x with
  |own j=>
   simp only[En.frzL]at h
   split at h
   .exact c G h
   .split at h
    .next e1 h1=>
     obtain⟨d,a,f⟩:=G.frz h1
     exact c f h
    .cases h
  |_=>simp only[En.frzL]at h;exact c G h
theorem GX.frzT{l:List (Bool×List Lf)}:∀{e b:En} {O:List (Option ak)} {Φ:au},GX QL W s0 s C stk e F m Q O L Φ->e.frzT C l=some b->∃c a,GX QL W s0 s C stk b F m Q c L a:=by
 induction l with
 |nil=>intro e b O Φ G h;cases h;exact⟨_,_,G⟩
 |cons x l f=>
  intro e b O Φ G h
  simp only[En.frzT]at h
  split at h
  .next e1 h1=>
   obtain⟨c,a,d⟩:=G.frzL h1
   exact f d h
  .cases h
theorem GX.frzP{l:List Pv}:∀{e d:En} {O:List (Option ak)} {Φ:au},GX QL W s0 s C stk e F m Q O L Φ->e.frzP C l=some d->∃c a,GX QL W s0 s C stk d F m Q c L a:=by
 induction l with
 |nil=>intro e d O Φ G h;cases h;exact⟨_,_,G⟩
 |cons x l f=>
  intro e d O Φ G h
  cases x with
  |one x=>
   simp only[En.frzP]at h
   split at h
   .next e1 h1=>
    obtain⟨c,a,b⟩:=G.frzL h1
    exact f b h
   .cases h
  |agg x=>
   simp only[En.frzP]at h
   split at h
   .next e1 h1=>
    obtain⟨c,a,b⟩:=G.frzL h1
    exact f b h
   .cases h
  |tup x=>
   simp only[En.frzP]at h
   split at h
   .next e1 h1=>
    obtain⟨c,a,b⟩:=G.frzT h1
    exact f b h
   .cases h
  |_=>simp only[En.frzP]at h;exact f G h
end
def u5(W:Wd):(ar:List Ty)->List Value->Tp ar->Prop
 | [],vs,_=>vs=[]
 | [a],vs,x=>∃v,vs=[v]/\cx W a v x
 |a::b::l,vs,x=>∃v r,vs=v::r/\cx W a v x.1/\u5 W (b::l) r x.2
-- a contract over one table
def tT(I:zZ)(f:FuncId)(k:Nat)(ar:List Ty)(τ:Ty)(z:Tp ar->Option τ.T):Prop:=∀⦃s:St⦄,Fine s->∀⦃W:Wd⦄,et s W->∀⦃vs:List Value⦄ ⦃x:Tp ar⦄,u5 W ar vs x->∀⦃r:τ.T⦄,z x=some r->s.next+k<=zA->Rp W I f ⟨vs⟩ s k τ r
def qt(f:FuncId)(k:Nat)(ar:List Ty)(τ:Ty)(z:Tp ar->Option τ.T):Prop:=∀⦃I:zZ⦄,zx I->tT I f k ar τ z
def QE(I:zZ)(T:FuncId->Option eQ):Prop:=∀f a,T f=some a->tT I f a.room a.ar a.res a.fn
def ad(T:FuncId->Option eQ):Prop:=∀f a,T f=some a->qt f a.room a.ar a.res a.fn
theorem ad.i{T:FuncId->Option eQ}(h:ad T){I:zZ}(b:zx I):QE I T:=λf a hf=>h f a hf b
def er(W:Wd)(Q:Qs):List Pv->List Value->Prop
 | [],vs=>vs=[]
 |p::l,vs=>∃v r,vs=v::r/\cL W Q p v/\er W Q l r
section
variable{W:Wd}{D:au}{Q:Qs}
theorem zeo{p:Pv}{q:Bool×List Lf}{v:Value}(h:cL W Q p v)(a:P6 p=some q):QR W Q q v:=by
 unfold P6 at a
 split at a<;>cases a
 .exact⟨_,rfl,h⟩
 .exact h
theorem kg{τ:Ty}{l:List Lf}{c:List Value}{x:τ.T}(h:bu (W.x D) Q l c)(a:vh τ l=some x):ax (W.x D) τ c x:=by
 unfold vh at a
 split at a
 .next y d=>
  cases a
  obtain⟨c1,b,rfl,h1,h2⟩:=zgL τ h d
  rw[show b=[]from h2,bP];exact h1
 .cases a
theorem jI{τ:Ty}{p:Bool×List Lf}{v:Value}{x:τ.T}(h:QR (W.x D) Q p v)(d:XZ τ p=some x):cx (W.x D) τ v x:=by
 obtain⟨g,l⟩:=p
 unfold XZ at d
 split at d
 .next hg=>
  simp only[beq_iff_eq]at hg
  subst hg
  cases τ with
  |int k=>
   obtain⟨y,h1,h2⟩:=h
   simp only at h1 d;subst h1
   have:=kg (bu.one h2) d
   exact(List.cons.inj (show [v]=[Value.int k x]from this)).1
  |bool=>
   obtain⟨y,h1,h2⟩:=h
   simp only at h1 d;subst h1
   have:=kg (bu.one h2) d
   exact(List.cons.inj (show [v]=[Value.bool x]from this)).1
  |sl t w e=>
   obtain⟨y,h1,h2⟩:=h
   simp only at h1 d;subst h1
   exact kg (bu.one h2) d
  |rat=>obtain⟨c,h1,h2⟩:=h;exact⟨c,h1,kg h2 d⟩
  |one a=>obtain⟨c,h1,h2⟩:=h;exact⟨c,h1,kg h2 d⟩
  |pair a b=>obtain⟨c,h1,h2⟩:=h;exact⟨c,h1,kg h2 d⟩
  |tup a b=>
   simp only[vh]at d
   split at d
   .next f=>cases l<;>(try rename_i y _;cases y)<;>(simp only[qd]at f;cases f)
   .cases d
  |tup3 a b c=>
   simp only[vh]at d
   split at d
   .next f=>cases l<;>(try rename_i y _;cases y)<;>(simp only[qd]at f;cases f)
   .cases d
 .cases d
theorem YD{τ:Ty}{p:Pv}{v:Value}{x:τ.T}(h:cL (W.x D) Q p v)(d:KF τ p=some x):cx (W.x D) τ v x:=by
 unfold KF at d
 split at d
 .next a b p q=>
  obtain⟨vs,rfl,v1,r1,rfl,h1,v2,r2,rfl,h2,rfl⟩:=h
  split at d
  .next x y hx e=>cases d;exact⟨v1,v2,rfl,jI h1 hx,jI h2 e⟩
  .cases d
 .next a b c p q r=>
  obtain⟨vs,rfl,v1,r1,rfl,h1,v2,r2,rfl,h2,j,r3,rfl,f,rfl⟩:=h
  split at d
  .next x y z hx e i=>cases d;exact⟨v1,v2,j,rfl,jI h1 hx,jI h2 e,jI f i⟩
  .cases d
 .cases d
 .cases d
 .split at d
  .next q g=>exact jI (zeo h g) d
  .cases d
theorem zeB:∀{ar:List Ty} {ps:List Pv} {vs:List Value} {x:Tp ar},er (W.x D) Q ps vs->RI ar ps=some x->u5 (W.x D) ar vs x
 | [],[],vs,x,h,c=>h
 | [a],[p],vs,x,⟨v,r,e,h,h2⟩,c=>⟨v,by rw[e,show r=[]from h2],YD h c⟩
 |a::b::l,p::ps,vs,x,⟨v,r,e,h,h2⟩,c=>by
  simp only[RI]at c
  split at c
  .next y z d f=>cases c;exact⟨v,r,e,YD h d,zeB h2 f⟩
  .cases c
theorem Xh{τ:Ty}{v:Value}{x:τ.T}(h:cx W τ v x)(hτ:τ.isTup=false):QR W Q (H4 τ x) v:=by
 cases τ with
 |int k=>exact⟨.int k x,rfl,by rw[show v=_ from h];rfl⟩
 |bool=>exact⟨.bool x,rfl,by rw[show v=_ from h];rfl⟩
 |sl t w e=>exact⟨.sl t w e x,rfl,h⟩
 |rat=>obtain⟨c,e,h⟩:=h;exact⟨c,e,vE h⟩
 |one a=>obtain⟨c,e,h⟩:=h;exact⟨c,e,vE h⟩
 |pair a b=>obtain⟨c,e,h⟩:=h;exact⟨c,e,vE h⟩
 |tup a b=>cases hτ
 |tup3 a b c=>cases hτ
theorem rn{q:Bool×List Lf}{v:Value}(h:QR W Q q v):cL W Q (OQ q) v:=by
 obtain⟨g,l⟩:=q
 cases g with
 |true=>exact h
 |false=>
  obtain⟨x,h1,h2⟩:=h
  simp only at h1;subst h1
  exact h2
theorem J7{τ:Ty}{v:Value}{x:τ.T}(h:cx W τ v x)(hτ:τ.okT=true):cL W Q (RJ τ x) v:=by
 cases τ with
 |tup a b=>
  obtain⟨v1,v2,rfl,h1,h2⟩:=h
  simp only[Ty.okT,aF,bB]at hτ
  exact⟨_,rfl,v1,_,rfl,Xh h1 hτ.1,v2,_,rfl,Xh h2 hτ.2,rfl⟩
 |tup3 a b c=>
  obtain⟨v1,v2,e,rfl,h1,h2,d⟩:=h
  simp only[Ty.okT,aF,bB]at hτ
  exact⟨_,rfl,v1,_,rfl,Xh h1 hτ.1.1,v2,_,rfl,Xh h2 hτ.1.2,e,_,rfl,Xh d hτ.2,rfl⟩
 |_=>exact rn (Xh h rfl)
end
section
variable{P:Program}{s:St}
theorem q8{t e:TypeId}{b len cap l h:Nat}{inf:TypeInfo}{c:List Value}{lo hi:Option Value}(hu:P.underlying t=some (.slice e))(k:P.info? e=some inf)(hg:s.get b=some (.cells c e))(m:qh lo 0=some l)(j:qh hi len=some h)(h1:l<=h)(h2:h<=cap / 2) :
 ∃off f,f / 2=cap / 2-l/\(off=l*inf.size\/l=h)/\(l=0->off=0)/\qf P t (.slice (some ⟨b,0,none⟩) len cap) lo hi none s=.ok (.value (.slice (some ⟨b,off,none⟩) (h-l) f)) s:=by
 have d:(Nat.ble l h&&Nat.ble h (cap / 2)&&Nat.ble (cap / 2) (cap / 2)&&(hi.isSome || !(none:Option Value).isSome))=true:=by
  simp only[aF]
  exact⟨⟨⟨aZ h1,aZ h2⟩,aZ (aN _)⟩,by simp⟩
 have i:qh (none:Option Value) (cap / 2)=some (cap / 2):=rfl
 have g:∀n,(Addr.mk b 0 none).add n=⟨b,n,none⟩:=λn=>by
  unfold Addr.add
  split
  .next h=>subst h;rfl
  .next h=>simp only[cB]
 by_cases a:cap % 2=0
 .by_cases o:cap / 2=l
  .refine⟨0,2*(cap / 2-l),by omega,.inr Oz,λ_=>rfl,?_⟩
   have:Nat.beq (cap / 2) l=true:=by rw[o];exact eL _
   simp only[qf,hu,k,a,xR,m,j,i,d,Bool.true_or,this,dQ]
   rfl
  .refine⟨l*inf.size,2*(cap / 2-l),by omega,.inl rfl,(by rintro rfl;rw[eF]),?_⟩
   have:Nat.beq (cap / 2) l=false:=by
    rw[cM];exact λh=>o (aK h)
   simp only[qf,hu,k,a,xR,m,j,i,d,Bool.true_or,this,cQ,g]
   rfl
 .have a:cap % 2=1:=by omega
  refine⟨l*inf.size,2*(cap / 2-l)+1,by omega,.inl rfl,(by rintro rfl;rw[eF]),?_⟩
  have p:wo e (some ⟨b,0,none⟩) cap s=true:=by
   simp only[wo,a,hg,eL]
  simp only[qf,hu,k,a,p,xR,m,j,i,d,cQ,g]
  rfl
theorem zbW{t e:TypeId}{b len cap l h:Nat}{inf:TypeInfo}{c:List Value}{lo hi:Option Value}{m:Nat}{mx:Value}(hu:P.underlying t=some (.slice e))(g:P.info? e=some inf)(hg:s.get b=some (.cells c e))(i:qh lo 0=some l)(f:qh hi len=some h)(j:qh (some mx) (cap / 2)=some m)(h0:hi.isSome=true)(h1:l<=h)(h2:h<=m)(n:m<=cap / 2) :
 ∃v,qf P t (.slice (some ⟨b,0,none⟩) len cap) lo hi (some mx) s=.ok (.value v) s:=by
 have d:(Nat.ble l h&&Nat.ble h m&&Nat.ble m (cap / 2)&&(hi.isSome || !(some mx).isSome))=true:=by
  simp only[aF,h0]
  exact⟨⟨⟨aZ h1,aZ h2⟩,aZ n⟩,rfl⟩
 by_cases a:cap % 2=0
 .exact⟨_,by simp only[qf,hu,g,a,xR,i,f,j,d,Bool.true_or];rfl⟩
 .have a:cap % 2=1:=by omega
  have k:wo e (some ⟨b,0,none⟩) cap s=true:=by
   simp only[wo,a,hg,eL]
  exact⟨_,by simp only[qf,hu,g,a,k,xR,i,f,j,d];rfl⟩
end
theorem l9{P:Program}{I:zZ}{F:FF}{s:St}{Q:FF->St->Prop}{d:Option Nat}{ty:TypeId}{pos:String}{af:Array Edge}{g:Option (Nat×Bool)}{args:Array Operand}{ts:Array TypeId}{t e h:TypeId}{tr:List TypeId}{x:Operand}{b off cap m:Nat}{c c':List Value}{z:Value}{inf:TypeInfo}
 (hu:P.underlying t=some (.slice e)) (l:ts.toList=t::tr) (ha:args.toList=[x]) (hx:zd F x=.slice (some ⟨b,off,none⟩) m cap) (hm:m=1) (i:P.info? e=some inf) (n:wl P e=some [z]) (hp:Go.M.plainCell z=true) (hg:s.get b=some (.cells c h)) (a:s.may b=true) (f:yK off [z] c=some c')
 (k:Q (ba F d (.tuple ⟨[]⟩)) (s.put b (some (.cells c' h)))):br P I ⟨d,.call ⟨.builtin .clear,args,ts⟩,ty,pos,af,g⟩ F s Q:=by
 subst hm
 refine zE (v:=.tuple ⟨[]⟩) (s':=s.put b (some (.cells c' h))) ?_ k
 have h1:ke [z] 1=[z]:=rfl
 have h2:[z].all Go.M.plainCell=true:=by simp only[List.all_cons,hp,List.all_nil,Bool.and_self]
 have j:xu b off [z] s=.ok .skip (s.put b (some (.cells c' h))):=by
  unfold xu
  simp only[hg,h2,a,f,Bool.and_self]
 simp only[zj,xn,l,ha,qv,hx,Z7,hu,i,n,h1,j]
 rfl
theorem NF:vM Tryz.f307 (Tryz.f307.body.getD .skip) 3=true:=by kernel_rfl
theorem zr3:wl Tryz.prog 3=some [.int .i64 0]:=by kernel_rfl
theorem vY{kd:IntKind}{n m:Nat}:qh (some (Value.int kd (n:Int))) m=some n:=rfl
theorem zhH{kd:IntKind}{n m:Nat}:qh (some (Value.int kd ((n:Int)+1))) m=some (n+1):=rfl
theorem lA{l:List Value}{i:Nat}(hi:i<l.length):∃r,yK i (l.drop (i+1)) l=some (l.eraseIdx i++[r]):=by
 induction l generalizing i with
 |nil=>simp at hi
 |cons x l a=>
  cases i with
  |zero=>
   simp only[eX,List.drop_zero,List.eraseIdx_zero,List.tail_cons,yK]
   have:∀(l:List Value) (x:Value),∃r,xI l (x::l)=some (l++[r]):=by
    intro l
    induction l with
    |nil=>intro x;exact⟨x,rfl⟩
    |cons y l a=>
     intro x
     obtain⟨r,h⟩:=a y
     exact⟨r,by simp only[xI,h,bY]⟩
   exact this l x
  |succ i=>
   obtain⟨r,h⟩:=a (i:=i) (by simpa using hi)
   exact⟨r,by simp only[eX,yK,h,List.eraseIdx_cons_succ,bY]⟩
theorem rk{l:List Value}{r v:Value}:yK l.length [v] (l++[r])=some (l++[v]):=by
 induction l with
 |nil=>rfl
 |cons x l a=>simp only[aU,bY,yK,a]
set_option maxHeartbeats 4000000 in
set_option maxRecDepth 20000 in
theorem GL{I:zZ}(G:zx I){s0 s:St}{A B:au}{b cap n i:Nat}{l:List Value}(H:HL [] s0 s (A++(b,.cells l 3)::B) n)(u:s0.next+n<=zA)(hp:l.all Go.M.plainCell=true)(hcap:cap / 2=l.length)(hi:i<l.length) :
 ∃v s',vr Tryz.prog I 307 #[.slice (some ⟨b,0,none⟩) l.length cap,.int .i64 (i:Int),.int .i64 ((i:Int)+1)] s v s' /\
  ∃c,v=.slice (some ⟨b,0,none⟩) (l.length-1) c/\l.length-1<=c / 2/\HL [] s0 s' (A++(b,.cells (l.eraseIdx i++[.int .i64 0]) 3)::B) n:=by
 obtain⟨hu,inf,z',a,hsz,-,-,-,-⟩:=yV uW
 have hg:=H.ownA
 have hne:l≠[]:=by rintro rfl;simp at hi
 refine qz 3 (G 307) Tryz.func307 rfl NF rfl ?_
 refine zh (z6 rfl (qk (zb (zh (z6 rfl (yF (z6 rfl (yF (z6 rfl (yF (z6 rfl (yF (z6 rfl (qT hu rfl rfl rfl ?_))))))))))))))
 obtain⟨v1,e1⟩:=zbW (t:=22) (lo:=some (.int .i64 (i:Int))) (hi:=some (.int .i64 ((i:Int)+1))) (mx:=.int .i64 (l.length:Int)) (m:=l.length) (len:=l.length) (cap:=cap) hu a hg vY zhH vY rfl Oz Oz Oz
 refine z6 rfl (zE e1 (zb (zO (zh (z6 rfl (yF (z6 rfl (yF (z6 rfl (Xv rfl rfl (λh=>by omega) (λ_=>?_)))))))))))
 refine zb (yh rfl (yq (zn (zh (z6 rfl (yF (z6 rfl (qT hu rfl rfl rfl (z6 rfl (qk (zb (vW [⟨0,0,.light,[]⟩,⟨1,0,.light,[]⟩,⟨3,0,.light,[]⟩,⟨4,0,.light,[]⟩,⟨2,3,.fresh,[]⟩,⟨5,24,.fresh,[]⟩,⟨6,63,.whole,[]⟩,⟨7,127,.light,[]⟩] Z0 Z0 (za rfl rfl (yF ⟨rfl,(za rfl rfl (yF ⟨rfl,?_⟩))⟩))))))))))))))
 refine za rfl rfl (yF ⟨rfl,(za rfl rfl (yF ⟨rfl,?_⟩))⟩)
 obtain⟨off2,d,g1,g2,D,e2⟩:=q8 (s:={s with bar:=s.next}) (t:=22) (lo:=none) (hi:=some (.int .i64 (i:Int))) (len:=l.length) (cap:=cap) hu a hg rfl vY (cH _) Oz
 obtain rfl:=D rfl
 refine vo rfl rfl (zE e2 ?_)
 obtain⟨o,e,g4,E,g6,z⟩:=q8 (s:={s with bar:=s.next}) (t:=22) (lo:=some (.int .i64 ((i:Int)+1))) (hi:=none) (len:=l.length) (cap:=cap) hu a hg zhH rfl Oz Oz
 refine vo rfl rfl (zE z ?_)
 obtain⟨r,k⟩:=lA hi
 have q:kQ s 1 (.slice (some ⟨b,o,none⟩) (l.length-(i+1)) e) (l.length-(i+1)) (l.drop (i+1)):=by
  rcases E with rfl|h
  .rw[hsz,cG]
   refine ji hg ?_ Oz
   rw[cG,dJ (by rw[bZ];omega)]
  .rw[show l.length-(i+1)=0 by omega,List.drop_eq_nil_of_le Oz]
   exact⟨⟨_,_,rfl⟩,by simp only[xM,hg,eF];rfl⟩
 have w:=H
 refine yw rfl rfl (jq (A:=A) (L:=B) (m:=l.length-(i+1)) (len:=i) (l:=l.drop (i+1)) (c':=l.eraseIdx i++[r]) H uW hu rfl rfl rfl q Oz ?_ (by rw[cG];exact k) u (λs1 H=>?_))
 .rw[List.all_eq_true]at hp |-
  exact λx hx=>hp x (List.mem_of_mem_drop hx)
 have H:=HL.same w H
 refine za rfl rfl (qk ⟨rfl,(yS ?_)⟩)
 have hlen:(l.eraseIdx i).length=l.length-1:=by rw[List.length_eraseIdx,aG hi]
 have f:=H.ownA
 refine zh (z6 rfl (yF (z6 rfl (yF (z6 rfl (qT hu rfl rfl rfl (z6 rfl (yF ?_))))))))
 have e5:((i+(l.length-(i+1)):Nat):Int)=((l.length-1:Nat):Int):=by omega
 obtain⟨p,cap4,g7,F,g9,C⟩:=q8 (t:=22) (lo:=some (.int .i64 ((i+(l.length-(i+1)):Nat):Int))) (hi:=some (.int .i64 (l.length:Int))) (len:=i+(l.length-(i+1))) (cap:=d) hu a f vY vY Oz Oz
 refine z6 rfl (zE C ?_)
 have j:p=(l.eraseIdx i).length:=by rcases F with h|h<;>(try rw[h,hsz])<;>omega
 have g:=(H.own (b,.cells (l.eraseIdx i++[r]) 3) Y8).2.2.1
 have y:=H.putAt A (.cells (l.eraseIdx i++[.int .i64 0]) 3) u
 refine z6 rfl (l9 hu rfl rfl rfl Oz a zr3 rfl f g (by rw[j];exact rk) (zb (zh (z6 rfl (yF (z6 rfl (qk (zb (qE (xA (uL ?_)))))))))))
 exact⟨_,by rw[show l.length-1=i+(l.length-(i+1))by omega];rfl,by omega,y⟩
theorem NA:vM Tryz.f186 (Tryz.f186.body.getD .skip) 1=true:=by kernel_rfl
theorem Nw:vM Tryz.f108 (Tryz.f108.body.getD .skip) 1=true:=by kernel_rfl
theorem NM:xE Tryz.prog 186=true:=by kernel_rfl
section
variable{P:Program}{I:zZ}{F:FF}{s:St}{Q:FF->St->Prop}{d:Option Tmp}{ty:TypeId}{pos:String}{af:Array Edge}{g:Option (Nat×Bool)}
theorem zao{t:TypeId}{x y:Operand}{e:TypeId}{a b:Int}(hx:zd F x=.int .u64 a)(c:zd F y=.int .u64 b)(h:a<b)(k:Q (ba F d (.bool false)) s):br P I ⟨d,.binOp .geq t x y e,ty,pos,af,g⟩ F s Q:=by
 refine zE (v:=.bool false) (s':=s) ?_ k
 have h2:decide (b<=a)=false:=aX Oz
 simp only[zj,qM,hx,c,qU,Go.binOp,Op.intCmp,h2];rfl
theorem md{t:TypeId}{x i:Operand}{kd:IntKind}{m:Nat}{b:ByteArray}(hu:P.underlying t=some .string)(hx:zd F x=.string b)(hi:zd F i=.int kd (m:Int))(hl:m<b.data.toList.length)(k:∀c:UInt8,Q (ba F d (.int .u8 c.toNat)) s):br P I ⟨d,.index t x i,ty,pos,af,g⟩ F s Q:=by
 refine zE (v:=.int .u8 (b.data.toList[m]).toNat) (s':=s) ?_ (k _)
 have h1:zH b.data.toList m=some (b.data.toList[m]):=by rw[zN];exact aE hl
 show wK P t (zd F x) (zd F i) s=_
 rw[hx,hi]
 show wK P t (.string b) (.int kd (Int.ofNat m)) s=_
 simp only[wK,hu,h1]
 rfl
theorem zcB{src dst:TypeId}{x:Operand}{kd:IntKind}{a:Int}{u:TypeDesc}(hu:P.underlying src=some u)(hd:P.underlying dst=some (.int .u8))(hx:zd F x=.int kd a)(h:IntKind.u8.wrap a=a)(k:Q (ba F d (.int .u8 a)) s):br P I ⟨d,.convert src dst x,ty,pos,af,g⟩ F s Q:=
 X3 hu hd hx (by rw[h];exact k)
end
section
variable{P:Program}{I:zZ}{f:FuncId}{args:Array Value}{s:St}{Q:Value->St->Prop}
theorem zdE(h:∃v s',vr P I f args s v s'/\((∃z,v=.int .i64 z)/\s'=s))(c:∀z,Q (.int .i64 z) s):∃v s',vr P I f args s v s'/\Q v s':=by
 obtain⟨v,s',a,⟨z,rfl⟩,rfl⟩:=h
 exact⟨_,_,a,c z⟩
end
theorem P8:∀n:Nat,n<=12->IntKind.u8.wrap (n:Int)=n:=by decide
theorem un5:Tryz.prog.underlying 5=some (.int .u8):=by kernel_rfl
theorem un9:Tryz.prog.underlying 9=some .string:=by kernel_rfl
set_option maxHeartbeats 4000000 in
set_option maxRecDepth 10000 in
theorem pj{I:zZ}(a:zx I){s:St}{n:Nat}(hn:n<=12):∃v' s',vr Tryz.prog I 186 #[.int .u64 (n:Int)] s v' s'/\((∃z,v'=.int .i64 z)/\s'=s):=by
 refine qz 1 (a 186) Tryz.func186 rfl NA rfl ?_
 refine zh (z6 rfl (zQ (zb (zO (zh ?_)))))
 first|refine z6 rfl (zg rfl ?_)|refine z6 rfl (yF ?_)
 refine z6 rfl (zao rfl rfl Oz (zb (yh rfl (yq (zn (zO (zh ?_)))))))
 first|refine z6 rfl (zg rfl ?_)|refine z6 rfl (yF ?_)
 refine z6 rfl (zao rfl rfl Oz (zb (yh rfl (yq (zn (zO (zh ?_)))))))
 first|refine z6 rfl (zg rfl ?_)|refine z6 rfl (yF ?_)
 refine z6 rfl (zao rfl rfl Oz (zb (yh rfl (yq (zn (zh ?_))))))
 first|refine z6 rfl (zg rfl ?_)|refine z6 rfl (yF ?_)
 first|refine z6 rfl (zg rfl ?_)|refine z6 rfl (yF ?_)
 refine z6 rfl (zcB P3 un5 rfl (P8 n hn) (z6 rfl (md un9 rfl rfl (by show n<_;exact cD hn Uz) (λc=>?_))))
 refine z6 rfl (zeL un5 un3 rfl (by have:=c.toNat_lt;unfold xc;omega) (z6 rfl (xU rfl rfl (by have:=c.toNat_lt;unfold xc;omega) ?_)))
 first|refine z6 rfl (yb rfl ?_)|refine z6 rfl (qk ?_)
 refine zb (qE (xA (uL ?_)))
 exact⟨⟨_,rfl⟩,rfl⟩
set_option maxHeartbeats 4000000 in
set_option maxRecDepth 10000 in
theorem zhi{I:zZ}(a:zx I){s:St}{n:Nat}(hn:n<=12):∃v' s',vr Tryz.prog I 108 #[.int .u64 (n:Int)] s v' s'/\((∃z,v'=.int .i64 z)/\s'=s):=by
 refine qz 1 (a 108) Tryz.func108 rfl Nw rfl ?_
 refine zh (z6 rfl (zQ (zb (zO (yh rfl (yq (zn (zh ?_))))))))
 first|refine z6 rfl (zg rfl ?_)|refine z6 rfl (yF ?_)
 refine z6 rfl (yo rfl NM rfl (zdE (pj a hn) (λz=>?_)))
 first|refine z6 rfl (yb rfl ?_)|refine z6 rfl (qk ?_)
 refine zb (qE (xA (uL ?_)))
 exact⟨⟨_,rfl⟩,rfl⟩
end Go.Proofs.YtocnbjjmmgolfaaGreat
