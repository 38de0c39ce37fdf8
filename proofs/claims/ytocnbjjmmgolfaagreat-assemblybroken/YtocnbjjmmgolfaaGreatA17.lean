/- The evaluator: operations one after another. -/
import Derived.Test.YtocnbjjmmgolfaaGreatA16
set_option linter.unusedSimpArgs false
set_option linter.unusedVariables false
set_option linter.unusedSectionVars false
namespace Go.Proofs.YtocnbjjmmgolfaaGreat
open Go Go.M Go.Proofs.C14
theorem Cs{τ:Option Ty}{c:List Value}{l:List Lf}{W:Wd}{D:au}{Q:Qs}(h:tD τ c=some l):bu (W.x D) Q l c:=by
 unfold tD at h
 split at h
 .exact jY h
 .unfold Rw at h
  split at h<;>cases h
  exact bu.one rfl
section
variable{I:zZ}{Γ:TypeId->Option Ty}{T:FuncId->Option eQ}{ρ:Type}{inl:ir ρ}{rc:Nat}{W:Wd}{s0 s:St}{C:Cx}{QL:Qs}{stk:List fy}{e:En}{F:FF}{m:Nat}{Q:Qs}{O:List (Option ak)}{L Φ:au}
theorem pK(G:GX QL W s0 s C stk e F m Q O L Φ){d:Option Nat}{o:Op}{k:En->Option ρ}{r:ρ}(hn:newOp o=true)(u:s0.next+m<zA)(h:wg Γ T inl rc C e d o k=some r) :
 ∃ob v,(∀s1:St,s1.next=s.next->zj Tryz.prog (zd F) o s1=.ok (.value v) (s1.new ob))/\((v=.pointer (some ⟨s.next,0,none⟩)/\iT o=false)\/(iT o=true/\∃n c,v=.slice (some ⟨s.next,0,none⟩) n c))/\∃g,vg QL W s0 (s.new ob) C stk g (ba F d v) (m+1)/\k g=some r:=by
 unfold wg at h
 split at h
 .cases hn
 ·-- box
  next t x=>
  split at h
  .next v hv=>
   split at h
   .next l hl=>
    have q:=Zc (G.ev hv) hl
    obtain⟨g,A,h1⟩:=G.newK u (o:=.cells (yr (zd F x)) t) (v:=undef) (w:=.pointer (some ⟨s.next,0,none⟩)) (b:=.cells l) (l:=(.ptr · 0)) ⟨_,_,rfl,q.mono cu.rfl cd.app⟩ (λh=>nomatch h) ⟨_,G.nth,rfl⟩ h
    refine⟨_,_,λs1 f=>?_,.inl ⟨rfl,rfl⟩,g,A,h1⟩
    have a:s1.room=true:=by rw[St.room,f];exact G.H.room u
    simp only[zj,XN,a,f]
    rfl
   .cases h
  .cases h
 ·-- alloc
  next t=>
  split at h
  .next c j=>
   split at h
   .next l hl=>
    have q:=Cs (W:=W) (D:=Φ) (Q:=Q) hl
    obtain⟨g,A,h1⟩:=G.newK u (o:=.cells c t) (v:=undef) (w:=.pointer (some ⟨s.next,0,none⟩)) (b:=.cells l) (l:=(.ptr · 0)) ⟨_,_,rfl,q.mono cu.rfl cd.app⟩ (λh=>nomatch h) ⟨_,G.nth,rfl⟩ h
    refine⟨_,_,λs1 f=>?_,.inl ⟨rfl,rfl⟩,g,A,h1⟩
    have a:s1.room=true:=by rw[St.room,f];exact G.H.room u
    simp only[jy]at j
    split at j
    .next i hb hi=>
     split at j
     .next z S=>
      cases j
      simp only[zj,hb,jh,gJ,hi,S,XN,a,f]
      rfl
     .cases j
    .cases j
   .cases h
  .cases h
 ·-- buildSlice
  next t n parts=>
  split at h
  .next el sz τ z ps N hps=>
   obtain⟨by_,zc,hs,hby,hsz,U⟩:=XC N
   split at h
   .next e0 M=>
    obtain⟨O,Φ,G⟩:=G.frzP M
    split at h
    .next c B hc=>
     split at h
     .next xs P=>
      obtain⟨c',h1,h2⟩:=QZ (λx p=>G.ev (x:=x) (p:=p)) (rC (U W Φ Q) n) hc
      obtain⟨Y,e1,e2,E,V,X⟩:=KG h2 P
      have K:n*sz=c'.length:=by rw[<-e1,qQ (λy R=>by rw[V y R,hsz]),e2]
      have how:dk (W.x Φ) el sz τ [(s.next,.cells c' el)] (some ⟨s.next,0,none⟩) xs.length (2*n) xs:=by
       refine⟨rfl,hsz,Y,by rw[e2,E],?_,λy R=>by rw[V y R,hsz],X⟩
       rw[e1,E]
       exact .block s.next (2*n) c' n K Oz
      obtain⟨g,A,J⟩:=G.newK u (o:=.cells c' el) (v:=.slice (some ⟨s.next,0,none⟩) xs.length (2*n)) (w:=.slice (some ⟨s.next,0,none⟩) xs.length (2*n)) (b:=.list el sz τ xs) (l:=.own) ⟨_,_,rfl,(λh=>by rw[E]at h;omega),how⟩ (λh=>nomatch h) ⟨_,G.nth,rfl,_,_,_,rfl⟩ h
      obtain⟨hu,inf,z',hi,rfl,_,j,_,_⟩:=yV hs
      refine⟨_,_,λs1 f=>?_,.inr ⟨rfl,_,_,rfl⟩,g,A,J⟩
      have a:s1.room=true:=by rw[St.room,f];exact G.H.room u
      simp only[zj,qJ,hu,hi,j,B,h1,newK,a,E,f]
      rfl
     .cases h
    .cases h
   .cases h
  .cases h
 .cases hn
 .cases hn
 .cases hn
 .cases hn
 .next h1 h2 J Z h5 h6 h7 h8=>cases o<;>first|(cases hn;done)|exact(h2 _ _ rfl).elim|exact(J _ rfl).elim|exact(Z _ _ _ rfl).elim
theorem nS(G:GX QL W s0 s C stk e F m Q O L Φ){i a:Int}{n:Nat}{o:Option Operand}(h:x6 C e i o=some a)(hi:i=n)(ha:0<=a):qh (o.map (zd F)) n=some a.toNat:=by
 unfold x6 at h
 split at h
 .cases h;subst hi;rfl
 .next x=>
  split at h
  .next kd j hj=>
   cases h
   have:=(List.cons.inj (show [zd F x]=_ from G.ev hj)).1
   obtain⟨b,rfl⟩:=Int.eq_ofNat_of_zero_le ha
   rw[cQ,this]
   rfl
  .cases h
theorem QK(G:GX QL W s0 s C stk e F m Q O L Φ){d:Option Nat}{o:Op}{k:En->Option ρ}{r:ρ}(hn:I8 o=true)(h:wg Γ T inl rc C e d o k=some r) :
 ∃v,(∀s1:St,(∀t x lo hi,o=.slice t x lo hi none->∀a n c,zd F x=.slice (some a) n c->a.block<s.next->s1.get a.block=s.get a.block)->zj Tryz.prog (zd F) o s1=.ok (.value v) s1)/\∃P,vg QL W s0 s C stk P (ba F d v) m/\k P=some r:=by
 unfold I8 at hn
 split at hn
 .next t x lo hi=>
  unfold wg at h
  simp only at h
  split at h
  .next p hp=>
   cases z:Gt p lo hi
   case true=>
    rw[z]at h
    simp only at h
    obtain⟨v,hv,h⟩:=yN h
    unfold M5 at hv
    split at hv
    .next j n el hu=>
     split at hv
     .next u=>
      cases hv
      obtain⟨inf,u⟩:=Option.isSome_iff_exists.mp u
      unfold Gt at z
      split at z
      .obtain⟨q,hq,hx⟩:=G.ev hp
       have hx:=(List.cons.inj hx).1
       obtain⟨P,G2,h4⟩:=G.set (p:=.one (.asl j n)) (v:=.slice (some ⟨q.2,0,none⟩) n (2*n)) ⟨q,hq,rfl⟩ h
       refine⟨_,λs1 Z=>?_,P,G2.good,h4⟩
       have D:(Addr.mk q.2 0 none).add (0*inf.size)=⟨q.2,0,none⟩:=by
        rw[eF]
        unfold Addr.add
        split
        .rfl
        .next h=>exact(h rfl).elim
       have h0l:Nat.ble 0 n=true:=aZ (cH _)
       have hbl:Nat.ble n n=true:=aZ (aN _)
       simp only[zj,qf,hu,u,hx,xR,Option.map_none,qh,h0l,hbl,cQ,D,Bool.true_or,Bool.true_and,Option.isSome_none,Bool.not_false,Bool.or_true,Nat.sub_zero,ite_self]
       rfl
      .cases z
     .cases hv
    .cases hv
   rw[z]at h
   simp only at h
   split at h
   .next e1 he1=>
    obtain⟨O1,Φ1,G1⟩:=G.frzP he1
    split at h
    .next t' w τ l el hx hu=>
     split at h
     .next a b inf hla hhb u=>
      split at h
      .next N=>
       simp only[aF]at N
       have hw:=aK N.1
       have ht:=aK N.2
       subst hw ht
       obtain⟨y,hy,h⟩:=zT h
       unfold qK at hy
       split at hy
       .next hc=>
        cases hy
        obtain⟨h0,h1,h2,h3⟩:=hc
        obtain⟨a',cap,Ls,e2,hS,V,hl⟩:=G1.ev hx
        have hxv:=(List.cons.inj e2).1
        have hsl:=G1.see.kn.s _ _ _ _ hS
        cases hsl with
        |nil c hv hl0=>rw[hl0]at V;simp at V;omega
        |block M off cap2 c hv hg K hcap hcc=>
         have R:=K
         simp only[Value.slice.injEq]at hv
         obtain⟨rfl,hn3,rfl⟩:=hv
         obtain⟨f,rfl⟩:=Int.eq_ofNat_of_zero_le h0
         obtain⟨g,rfl⟩:=Int.eq_ofNat_of_zero_le (Int.le_trans h0 h1)
         simp only[Int.toNat_natCast]at h |-
         have H:=nS (n:=0) G1 hla rfl Oz
         have E:=nS (n:=l.length) G1 hhb rfl Oz
         simp only[Int.toNat_natCast]at H E
         have S:f<=g:=by omega
         have hhl:g<=l.length:=by omega
         have hlen:((l.drop f).take (g-f)).length=g-f:=by rw[bX,bZ];omega
         have X:∀off' i,g-f<=i / 2->(off'=off+f*inf.size\/f=g)->ax (W.x Φ1) (.sl t' inf.size τ) [.slice (some ⟨M,off',none⟩) (g-f) i] ((l.drop f).take (g-f)):=λoff' i g1 g2=>by
          refine⟨some ⟨M,off',none⟩,i,(Ls.drop f).take (g-f),by rw[hlen],by rw[hlen];exact G1.see.kn.cut _ _ _ _ _ _ _ hS f g i off' S Oz g1 g2,by rw[hlen,bX,bZ];omega,λk x hk=>?_⟩
          rw[List.getElem?_take]at hk
          split at hk
          .next hk1=>
           rw[dV]at hk
           have:=hl _ _ hk
           simp only[aB,List.getElem?_take,dV,hk1,dQ]at this |-
           exact this
          .cases hk
         have J:(Nat.ble f g&&Nat.ble g (cap / 2)&&Nat.ble (cap / 2) (cap / 2)&&((hi.map (zd F)).isSome || !(none:Option Value).isSome))=true:=by
          simp only[aF]
          exact⟨⟨⟨aZ S,aZ Oz⟩,aZ (aN _)⟩,by simp⟩
         have K:qh (none:Option Value) (cap / 2)=some (cap / 2):=rfl
         have D:∀n,(Addr.mk M off none).add n=⟨M,off+n,none⟩:=λn=>by
          unfold Addr.add
          split
          .next h=>subst h;rfl
          .rfl
         -- where the part begins,how much it may hold
         have key:∃off' i,g-f<=i / 2/\(off'=off+f*inf.size\/f=g)/\∀s1:St,s1.get M=s.get M->zj Tryz.prog (zd F) (.slice t x lo hi none) s1=.ok (.value (.slice (some ⟨M,off',none⟩) (g-f) i)) s1:=by
          have B:∀s1,zj Tryz.prog (zd F) (.slice t x lo hi none) s1=qf Tryz.prog t (.slice (some ⟨M,off,none⟩) l.length cap) (lo.map (zd F)) (hi.map (zd F)) none s1:=λs1=>by
           rw[<-hxv];rfl
          by_cases A:cap % 2=0
          .by_cases U:cap / 2=f
           .refine⟨off,2*(cap / 2-f),by omega,.inr Oz,λs1 hh=>?_⟩
            rw[B]
            have:Nat.beq (cap / 2) f=true:=by rw[U];exact eL _
            simp only[qf,hu,u,A,xR,H,E,K,J,Bool.true_or,this,dQ]
            rfl
           .refine⟨off+f*inf.size,2*(cap / 2-f),by omega,.inl rfl,λs1 hh=>?_⟩
            rw[B]
            have:Nat.beq (cap / 2) f=false:=by
             rw[cM];exact λh=>U (aK h)
            simp only[qf,hu,u,A,xR,H,E,K,J,Bool.true_or,this,cQ,D]
            rfl
          .have A:cap % 2=1:=by omega
           refine⟨off+f*inf.size,2*(cap / 2-f)+1,by omega,.inl rfl,λs1 hh=>?_⟩
           rw[B]
           have Y:wo t' (some ⟨M,off,none⟩) cap s1=true:=by
            have hg1:s1.get M=some (.cells c t'):=by rw[hh];exact hg
            simp only[wo,A,hg1,eL]
           simp only[qf,hu,u,A,Y,xR,H,E,K,J,cQ,D]
           rfl
         obtain⟨off',i,g1,g2,g3⟩:=key
         obtain⟨P,G2,h4⟩:=G1.set (p:=.one (.sl t' inf.size τ ((l.drop f).take (g-f)))) (X off' i g1 g2) h
         exact⟨_,λs1 Z=>g3 s1 (Z t x lo hi rfl _ _ _ hxv R),P,G2.good,h4⟩
       .cases hy
      .cases h
     .cases h
    .cases h
   .cases h
  .cases h
 .cases hn
theorem Ok(G:GX QL W s0 s C stk e F m Q O L Φ){d:Option Nat}{t:TypeId}{x hi mx:Operand}{k:En->Option ρ}{r:ρ}(h:wg Γ T inl rc C e d (.slice t x none (some hi) (some mx)) k=some r) :
 ∃v,zj Tryz.prog (zd F) (.slice t x none (some hi) (some mx)) s=.ok (.value v) s/\∃E,vg QL W s0 s C stk E (ba F d v) m/\k E=some r:=by
 unfold wg at h
 simp only at h
 split at h
 .next t' w τ l a b el hx X hm hu=>
  split at h
  .next inf i=>
   split at h
   .next j=>
    simp only[aF]at j
    have hw:=aK j.1
    have Y:=aK j.2
    subst hw Y
    split at h
    .next J=>
     subst J
     obtain⟨y,H,h⟩:=zT h
     unfold qK at H
     split at H
     .next hc=>
      cases H
      obtain⟨_,h1,h2,h3⟩:=hc
      obtain⟨n,rfl⟩:=Int.eq_ofNat_of_zero_le h1
      have K:zd F hi=.int .i64 (n:Int):=(List.cons.inj (show [zd F hi]=_ from G.ev X)).1
      have P:zd F mx=.int .i64 (n:Int):=(List.cons.inj (show [zd F mx]=_ from G.ev hm)).1
      obtain⟨a',cap,Ls,e2,U,A,hl⟩:=G.ev hx
      have S:=(List.cons.inj e2).1
      have R:=G.see.kn.s _ _ _ _ U
      cases R with
      |nil c hv N=>rw[N]at A;simp at A;omega
      |block g off cap2 c hv hg hbn hcap hcc=>
       simp only[Value.slice.injEq]at hv
       obtain⟨rfl,hn3,rfl⟩:=hv
       have hnl:n<=l.length:=by omega
       have hlen:((l.drop 0).take (n-0)).length=n:=by rw[bX,bZ];omega
       have B:ax (W.x Φ) (.sl t' inf.size τ) [.slice (some ⟨g,off,none⟩) n (2*n)] ((l.drop (0:Int).toNat).take ((n:Int).toNat-(0:Int).toNat)):=by
        have z:=G.see.kn.cut _ _ _ _ _ _ _ U 0 n (2*n) off (cH _) Oz Oz (.inl Oz)
        refine⟨some ⟨g,off,none⟩,2*n,(Ls.drop 0).take (n-0),by simp only[Int.toNat_natCast,Int.toNat_zero];rw[hlen],by simp only[Int.toNat_natCast,Int.toNat_zero];rw[hlen];exact z,by simp only[Int.toNat_natCast,Int.toNat_zero,bX,bZ];omega,λk x hk=>?_⟩
        simp only[Int.toNat_natCast,Int.toNat_zero,List.drop_zero,Nat.sub_zero]at hk |-
        rw[List.getElem?_take]at hk
        split at hk
        .next M=>
         have:=hl _ _ hk
         simp only[aB,List.getElem?_take,M,dQ]at this |-
         exact this
        .cases hk
       have o:zj Tryz.prog (zd F) (.slice t x none (some hi) (some mx)) s=.ok (.value (.slice (some ⟨g,off,none⟩) n (2*n))) s:=by
        have e1:zj Tryz.prog (zd F) (.slice t x none (some hi) (some mx)) s=qf Tryz.prog t (.slice (some ⟨g,off,none⟩) l.length cap) none (some (.int .i64 (Int.ofNat n))) (some (.int .i64 (Int.ofNat n))) s:=by
         rw[<-S]
         show qf Tryz.prog t (zd F x) none (some (zd F hi)) (some (zd F mx)) s=_
         rw[K,P]
         rfl
        rw[e1]
        have u:(Nat.ble 0 n&&Nat.ble n n&&Nat.ble n (cap / 2)&&(true || !true))=true:=by
         simp only[aF]
         exact⟨⟨⟨aZ (cH _),aZ (aN _)⟩,aZ Oz⟩,rfl⟩
        have q:(Addr.mk g off none).add (0*inf.size)=⟨g,off,none⟩:=by
         rw[eF]
         unfold Addr.add
         split
         .rfl
         .next h=>exact(h rfl).elim
        have fin:∀kn,xR inf.size (some ⟨g,off,none⟩) l.length (cap / 2) kn none (some (.int .i64 (Int.ofNat n))) (some (.int .i64 (Int.ofNat n))) s=.ok (.value (.slice (some ⟨g,off,none⟩) n (2*n))) s:=λkn=>by
         simp only[xR,qh,u,Option.isSome_some,Bool.or_true,cQ,q,Nat.sub_zero,ite_self]
         rfl
        by_cases f:cap % 2=0
        .simp only[qf,hu,i,f,fin]
        .have f:cap % 2=1:=by omega
         have D:wo t' (some ⟨g,off,none⟩) cap s=true:=by simp only[wo,f,hg,eL]
         simp only[qf,hu,i,f,D,fin]
       obtain⟨E,G2,V⟩:=G.set (p:=.one (.sl t' inf.size τ ((l.drop (0:Int).toNat).take ((n:Int).toNat-(0:Int).toNat)))) B h
       exact⟨_,o,E,G2.good,V⟩
     .cases H
    .cases h
   .cases h
  .cases h
 .cases h
theorem zcK{α:Type}:∀{l a a' b:List α},xI l a=some a'->xI l (a++b)=some (a'++b)
 | [],_,_,_,h=>by simp only[xI,bH]at h |-;rw[h]
 |_::_,[],_,_,h=>by simp[xI]at h
 |v::l,x::a,a',b,h=>by
  simp only[xI,bY]at h |-
  split at h
  .next r c=>rw[zcK c];cases h;rfl
  .cases h
theorem Jh{α:Type}:∀{j:Nat} {l a a' b:List α},yK j l a=some a'->yK j l (a++b)=some (a'++b)
 |0,_,_,_,_,h=>zcK h
 |_+1,_,[],_,_,h=>by simp[yK]at h
 |j+1,l,x::a,a',b,h=>by
  simp only[yK,bY]at h |-
  split at h
  .next r c=>rw[Jh c];cases h;rfl
  .cases h
theorem Vc{α:Type}{k:Nat}{l b b':List α}(h:yK k l b=some b'):∀a:List α,yK (a.length+k) l (a++b)=some (a++b')
 | []=>by rw[List.length_nil,cB];exact h
 |x::a=>by
  rw[aU,show a.length+1+k=(a.length+k)+1 by omega]
  simp only[yK,bY,Vc h a]
theorem Vd{sz j:Nat}{l b:List Value}:∀{es:List (List Value)} (_:∀x∈es,x.length=sz) {i:Nat} (_:i<es.length) (_:yK j l (es.getD i [])=some b),yK (i*sz+j) l es.flatten=some (es.set i b).flatten
 | [],_,_,hi,_=>by simp at hi
 |x::es,a,0,_,he=>by
  rw[eF,cB,cT,List.set_cons_zero,cT]
  exact Jh he
 |x::es,a,i+1,hi,he=>by
  have h1:=Vd (es:=es) (λy c=>a y (aP _ c)) (i:=i) (by simpa using hi) he
  rw[cT,List.set_cons_succ,cT,dM,eG,show i*sz+sz+j=x.length+(i*sz+j)by rw[a x (aO ..)];omega]
  exact Vc h1 x
theorem yQ{α:Type}:∀{l:List α} {n:Nat} {y:α},zM l n y=l.set n y
 | [],_,_=>rfl
 |_::_,0,_=>rfl
 |_::l,n+1,y=>by simp only[zM,List.set_cons_succ,yQ]
theorem zbR(G:GX QL W s0 s C stk e F m Q O L Φ)(hr:s0.next+m<=zA){d:Option Nat}{t:TypeId}{x v:Operand}{k:En->Option ρ}{r:ρ}(h:wg Γ T inl rc C e d (.store t x v) k=some r) :
 ∃j off q c E tt n,(∀j' off',e.ev C x=some (.one (.ptr j' off'))->j'=j)/\Q[j]? = some q/\(∃o,O[j]? = some (some o))/\C.lent<=j/\qV Tryz.prog t=some n/\zd F x=.pointer (some ⟨q.2,off,none⟩)/\Nat.beq (yD (yr (zd F v)) 0) n=true/\(yr (zd F v)).all Go.M.plainCell=true /\
  s.get q.2=some (.cells c tt)/\s.may q.2=true/\yK off (yr (zd F v)) c=some E/\∃e',vg QL W s0 (s.put q.2 (some (.cells E tt))) C stk e' (ba F d undef) m/\k e'=some r:=by
 unfold wg at h
 simp only at h
 split at h
 .next j off pv hx hv=>
  split at h
  .next c l A hl=>
   split at h
   .next c' n Z hsz=>
    split at h
    .next hb=>
     simp only[aF]at hb
     rw[zN]at A
     have K:j<Q.length:=by rw[<-G.len];exact(aM.mp A).1
     obtain⟨q,B⟩:∃q,Q[j]? = some q:=⟨_,aE K⟩
     obtain⟨oj,f⟩:∃o,O[j]? = some o:=⟨_,aE (by rw[G.oq];exact K)⟩
     obtain⟨cs,tt,rfl,hcs⟩:=G.obj j _ q oj A B f
     have u:=Zc (G.ev hv) hl
     obtain⟨E,h1,h2⟩:=hcs.put u Z
     have hxx:zd F x=.pointer (some ⟨q.2,off,none⟩):=by
      obtain⟨q',g1,g2⟩:=G.ev hx
      rw[B]at g1;cases g1
      exact(List.cons.inj g2).1
     have g:=aR hb.2
     have N:=(G.H.own _ (G.own j q _ B f g)).2.2.1
     have hlen:Nat.beq (yD (yr (zd F v)) 0) n=true:=by
      rw[yf,bM,u.len];exact hb.1
     obtain⟨L',G1⟩:=G.write hr (o':=.cells E tt) (b:=.cells c') B f g ⟨E,tt,rfl,h2⟩ (λh=>nomatch h)
     obtain⟨e',G2,h3⟩:=G1.set (p:=.undef) (v:=undef) rfl h
     exact⟨j,off,q,cs,E,tt,n,(λj' off' R=>by rw[hx]at R;cases R;rfl),B,⟨_,f⟩,g,hsz,hxx,hlen,u.plain,G.get B f,N,h1,e',G2.good,h3⟩
    .cases h
   .cases h
  .cases h
 .next j w i off pv hx hv=>
  split at h
  .next t' w' τ ls l A hl=>
   split at h
   .next n hsz X=>
    simp only[aF]at X
    obtain rfl:=aK X.1
    have g:=aR X.2
    obtain⟨y0,hy0,h⟩:=zT h
    obtain⟨hi0,hi1,hi2⟩:=kz hy0
    split at h
    .next c' Z hwn=>
     split at h
     .next y hy=>
      rw[zN]at A
      have K:j<Q.length:=by rw[<-G.len];exact(aM.mp A).1
      obtain⟨q,B⟩:∃q,Q[j]? = some q:=⟨_,aE K⟩
      obtain⟨oj,f⟩:∃o,O[j]? = some o:=⟨_,aE (by rw[G.oq];exact K)⟩
      obtain⟨a,cap,hv',hc0,hn,hw,Y,hY1,J,S,hY4⟩:=G.obj j _ q oj A B f
      have u:=Zc (G.ev hv) hl
      have hrep:=hY4 _ _ hi2
      obtain⟨E,h1,h2⟩:=(vE (Q:=Q) hrep).put u Z
      have P:=kg h2 hy
      have hil:i.toNat<ls.length:=(aM.mp hi2).1
      have hxx:zd F x=.pointer (some ⟨q.2,i.toNat*w'+off,none⟩):=by
       obtain⟨q',g1,g2⟩:=G.ev hx
       rw[B]at g1;cases g1
       exact(List.cons.inj g2).1
      have hlen:Nat.beq (yD (yr (zd F v)) 0) n=true:=by
       rw[yf,bM,u.len];exact hwn
      have U:=Vd S (i:=i.toNat) Oz h1
      have hc2:E.length=w':=by rw[<-hw];exact ax.len P
      generalize hD:wx q.2 oj=D at J
      generalize hsl:(Value.slice a ls.length cap)=sl at J
      generalize hcc:Y.flatten=c at J U
      generalize hn':ls.length=n' at J
      cases J with
      |nil=>omega
      |block b' cap2 _ _ hl2 V=>
       cases hsl
       cases oj with
       |none=>cases hD
       |some o=>
        cases hD
        have N:=(G.H.own _ (G.own j q _ B f g)).2.2.1
        have hfl:(Y.set i.toNat E).flatten.length=c.length:=by
         rw[<-hcc,qQ S,qQ (es:=Y.set i.toNat E) (sz:=w') (λx hx=>(List.mem_or_eq_of_mem_set hx).elim (S x) λe=>by rw[e];exact hc2),bR]
        obtain⟨L',G1⟩:=G.write hr (o':=.cells (Y.set i.toNat E).flatten t') (b:=.list t' w' τ (zM ls i.toNat y)) B f g
         ⟨_,cap,by rw[hv',yQ,bR],(by rw[yQ,bR];exact hc0),rfl,hw,Y.set i.toNat E,by rw[bR,yQ,bR];exact hY1,by
          rw[yQ,bR,hn']
          exact .block q.2 cap _ _ (by rw[hfl];exact hl2) V,λx hx=>(List.mem_or_eq_of_mem_set hx).elim (S x) λe=>by rw[e];exact hc2,λk z hz=>by
          rw[yQ,List.getElem?_set]at hz
          rw[aB,List.getElem?_set]
          by_cases hk:i.toNat=k
          .subst hk
           rw[aG rfl,aG hil]at hz
           rw[aG rfl,aG Oz]
           cases hz;exact P
          .rw[aD hk]at hz |-
           rw[<-aB]
           exact hY4 k z hz⟩ (λh=>nomatch h)
        obtain⟨e',G2,h3⟩:=G1.set (p:=.undef) (v:=undef) rfl h
        exact⟨j,i.toNat*w'+off,q,_,_,t',n,(λj' off' R=>by rw[hx]at R;cases R),B,⟨_,f⟩,g,hsz,hxx,hlen,u.plain,G.get B f,N,U,e',G2.good,h3⟩
     .cases h
    .cases h
   .cases h
  .cases h
 .cases h
theorem EX{W:Wd}{Q:Qs}:∀{js:List Nat} {cs:List Value},Gh Q js cs->bu W Q (js.map (Lf.ptr · 0)) cs
 | [],_,h=>h
 |_::_,_,⟨q,c',h1,h2,a⟩=>⟨[_],c',h2,⟨q,h1,rfl⟩,EX a⟩
theorem Od:∀js:List Nat,((js.map (Lf.ptr · 0)).all λx=>Nat.beq x.w 1)=true
 | []=>rfl
 |_::js=>by simp only[List.map_cons,List.all_cons,Od js,Bool.and_true];rfl
theorem Xq{c:List Value}:∀n,(List.replicate n c).flatten=ke c n
 |0=>rfl
 |n+1=>by rw[List.replicate_succ,cT,Xq n];rfl
theorem Oi(G:GX QL W s0 s C stk e F m Q O L Φ)(E:s0.next+m<zA){d:Option Nat}{t:TypeId}{l c:Operand}{k:En->Option ρ}{r:ρ}(h:wg Γ T inl rc C e d (.makeSlice t l c) k=some r) :
 ∃s1 v,zj Tryz.prog (zd F) (.makeSlice t l c) s=.ok (.value v) s1/\∃j,vg QL W s0 s1 C stk j (ba F d v) (m+1)/\k j=some r:=by
 unfold wg at h
 simp only at h
 split at h
 .next el sz τ z a b A hl hc=>
  obtain⟨by_,i,hs,q,hsz,D⟩:=XC A
  have hle:zd F l=.int .i64 a:=(List.cons.inj (show [zd F l]=_ from G.ev hl)).1
  have u:zd F c=.int .i64 b:=(List.cons.inj (show [zd F c]=_ from G.ev hc)).1
  split at h
  .next y M=>
   split at h
   .next p=>
    obtain⟨h0,rfl,h1⟩:=p
    obtain⟨n,rfl⟩:=Int.eq_ofNat_of_zero_le h0
    simp only[Int.toNat_natCast]at h
    have g:=kg (D W Φ Q) M
    have B:i.length=sz:=by rw[<-hsz];exact ax.len g
    have f:∀x∈List.replicate n i,x.length=sz:=λx hx=>by rw[(List.mem_replicate.mp hx).2];exact B
    have how:dk (W.x Φ) el sz τ [(s.next,.cells (ke i n) el)] (some ⟨s.next,0,none⟩) (List.replicate n y).length (2*n) (List.replicate n y):=by
     refine⟨rfl,hsz,List.replicate n i,by simp,?_,f,λk x hx=>?_⟩
     .rw[Xq,dE]
      exact .block s.next (2*n) _ n (by rw[<-Xq,qQ f,dE]) Oz
     .rw[List.getElem?_replicate]at hx
      split at hx
      .next hk=>
       cases hx
       rw[aB,List.getElem?_replicate,aG hk]
       exact g
      .cases hx
    obtain⟨j,J,K⟩:=G.newK E (o:=.cells (ke i n) el) (v:=.slice (some ⟨s.next,0,none⟩) (List.replicate n y).length (2*n)) (w:=.slice (some ⟨s.next,0,none⟩) n (2*n)) (b:=.list el sz τ (List.replicate n y)) (l:=.own)
     ⟨_,_,rfl,(λh=>by rw[dE]at h;omega),how⟩ (λh=>nomatch h) ⟨_,G.nth,by rw[dE],_,_,_,rfl⟩ h
    obtain⟨hu,inf,z',hi,rfl,rfl,N,_,_⟩:=yV hs
    refine⟨_,_,?_,j,J,K⟩
    have hb1:(Nat.ble n n&&Nat.ble (n*(inf.bytes+1)) 1073741824)=true:=by
     rw[aF]
     exact⟨aZ (aN _),aZ (bK (eE (show n<=65536 by omega) (Nat.succ_le_succ q)) Uz)⟩
    show qL Tryz.prog t (zd F l) (zd F c) s=_
    rw[hle,u]
    show qL Tryz.prog t (.int .i64 (.ofNat n)) (.int .i64 (.ofNat n)) s=_
    simp only[qL,hu,hi,N,hb1,newK,G.H.room E]
    rfl
   .cases h
  .cases h
 .cases h
theorem lN{α:Type}{l c:List α}(h:l.length=c.length):yK 0 l c=some l:=by
 have key:∀(l c:List α),l.length=c.length->xI l c=some l:=by
  intro l
  induction l with
  |nil=>intro c h;cases c with
   |nil=>rfl
   |cons _ _=>cases h
  |cons x l a=>intro c h;cases c with
   |nil=>cases h
   |cons y c=>simp only[xI,a c (by simpa using h)]
 exact key l c h
theorem Ak(G:GX QL W s0 s C stk e F m Q O L Φ)(hr:s0.next+m<=zA){d:Option Nat}{ag:Array Operand}{ts:Array TypeId}{k:En->Option ρ}{r:ρ}(h:wg Γ T inl rc C e d (.call ⟨.builtin .copy,ag,ts⟩) k=some r) :
 ∃v s',zj Tryz.prog (zd F) (.call ⟨.builtin .copy,ag,ts⟩) s=.ok (.value v) s'/\∃e',vg QL W s0 s' C stk e' (ba F d v) m/\k e'=some r:=by
 unfold wg at h
 simp only at h
 split at h
 .next t tr x y hts hag=>
  split at h
  .next j t' w τ A el hx hy hu=>
   split at h
   .next t2 w2 τ2 l inf N E R=>
    split at h
    .next he=>
     obtain⟨rfl,rfl,rfl,hw⟩:=he
     split at h
     .next U=>
      obtain⟨u,hpos⟩:=U
      simp only[aF]at E
      have n:=aR E.1
      have hw1:=aR E.2
      rw[zN]at N
      have S:j<Q.length:=by rw[<-G.len];exact(aM.mp N).1
      obtain⟨q,Z⟩:∃q,Q[j]? = some q:=⟨_,aE S⟩
      obtain⟨oj,f⟩:∃o,O[j]? = some o:=⟨_,aE (by rw[G.oq];exact S)⟩
      obtain⟨a,cap,hv',hc0,hn,hw0,Y,hY1,g,hY3,hY4⟩:=G.obj j _ q oj N Z f
      obtain⟨a2,cap2,Ls,e2,hS,K,hl⟩:=G.ev hy
      have hyv:=(List.cons.inj e2).1
      have hz:∀z∈Ls,z.length=w2:=λz hz=>by
       obtain⟨i,hi,rfl⟩:=List.getElem_of_mem hz
       have:=hl i _ (aE (show i<A.length by omega))
       rw[aB,aE hi,bN]at this
       rw[ax.len this,hw0]
      have hel:=(G.see.kn.s _ _ _ _ hS).elems hz hw1
      have J:Ls.flatten.length=Y.flatten.length:=by rw[qQ hz,qQ hY3,hY1,K,u]
      generalize hD:wx q.2 oj=D at g
      generalize hsl:(Value.slice a l.length cap)=sl at g
      generalize hcc:Y.flatten=c at g J
      generalize hn':l.length=n' at g
      cases g with
      |nil=>omega
      |block b' cap3 _ _ hl3 B=>
       cases hsl
       cases oj with
       |none=>cases hD
       |some o=>
        cases hD
        have V:=(G.H.own _ (G.own j q _ Z f n)).2.2.1
        have P:=G.get Z f
        obtain⟨L',G1⟩:=G.write hr (o':=.cells Ls.flatten t2) (b:=.list t2 w2 τ2 A) Z f n
         ⟨_,cap,by rw[hv',u],(by rw[<-u];exact hc0),rfl,hw0,Ls,K,by
          rw[<-u,hn']
          exact .block q.2 cap _ _ (by rw[J];exact hl3) B,hz,hl⟩ (λh=>nomatch h)
        obtain⟨e',G2,h3⟩:=G1.set (p:=.one (.int .i64 A.length)) (v:=.int .i64 A.length) rfl h
        refine⟨_,_,?_,e',G2.good,h3⟩
        have hxx:zd F x=.slice (some ⟨q.2,0,none⟩) l.length cap:=by
         obtain⟨q',g1,g2⟩:=G.ev hx
         rw[Z]at g1;cases g1
         rw[(List.cons.inj g2.1).1,hv']
        have hpl:Ls.flatten.all Go.M.plainCell=true:=by
         rw[List.all_flatten,List.all_eq_true]
         intro z hz'
         obtain⟨i,hi,rfl⟩:=List.getElem_of_mem hz'
         have:=hl i _ (aE (show i<A.length by omega))
         rw[aB,aE hi,bN]at this
         exact ax.plain this
        have hst:xu q.2 0 Ls.flatten s=.ok .skip (s.put q.2 (some (.cells Ls.flatten t2))):=by
         simp only[xu,P,hpl,V,lN J]
         rfl
        have X:Nat.min A.length l.length=A.length:=by rw[u];exact Nat.min_self _
        have hf:xM inf.size A.length (zd F y) s=some Ls.flatten:=by rw[hw,<-K,hyv];exact hel.2
        have hlv:FU (zd F y)=some A.length:=by rw[hyv];rfl
        simp only[zj,xn,hts,hag,qv,Qo,hxx,hu,R,hlv,X,hf,hst]
        rfl
     .cases h
    .cases h
   .cases h
  .cases h
 .cases h
theorem zfu(hI:zx I)(hT:QE I T)(D:Qr I W s0 inl rc)(G:GX QL W s0 s C stk e F m Q O L Φ){d:Option Nat}{o:Op}{k:En->Option ρ}{r:ρ}{P:FF->St->Prop}{ty:TypeId}{pos:String}{af:Array Edge}{g:Option (Nat×Bool)}
 (h:wg Γ T inl rc C e d o k=some r) (S:s0.next+(m+qN T rc o)<=zA) (hk:∀u F' s' m',m'<=m+qN T rc o->vg QL W s0 s' C stk u F' m'->k u=some r->P F' s'):br Tryz.prog I ⟨d,o,ty,pos,af,g⟩ F s P:=by
 have B:∀{o':Op},o'=o->KK Γ C e o' (λv=>e.set C d v k)=some r->br Tryz.prog I ⟨d,o,ty,pos,af,g⟩ F s P:=λ{o'} ho hp=>by
  subst ho
  obtain⟨p,v,h1,h2,M⟩:=zah G.see (s':=s) (λ_ _ _ _ _ _=>rfl) hp
  obtain⟨u,G1,h4⟩:=G.set h2 M
  exact zE h1 (hk u _ s m Oz G1.good h4)
 cases hn:newOp o with
 |true=>
  have hroom:qN T rc o=1:=by cases o<;>first|rfl|cases hn
  obtain⟨ob,v,hs,_,u,G1,h1⟩:=pK G hn Oz h
  exact zE (hs s rfl) (hk u _ _ (m+1) Oz G1 h1)
 |false=>
 cases hs:I8 o with
 |true=>
  obtain⟨v,g1,u,G1,h1⟩:=QK G hs h
  exact zE (g1 s λ_ _ _ _ _ _ _ _ _ _=>rfl) (hk u _ _ m Oz G1 h1)
 |false=>
 by_cases V:∃t l c,o=.makeSlice t l c
 .obtain⟨t,l,c,rfl⟩:=V
  obtain⟨s1,v,h1,u,G1,h2⟩:=Oi G (bL (Nat.lt_succ_self (s0.next+m)) S) h
  exact zE h1 (hk u _ s1 (m+1) (aN (m+1)) G1 h2)
 by_cases U:∃ag ts,o=.call ⟨.builtin .copy,ag,ts⟩
 .obtain⟨ag,ts,rfl⟩:=U
  obtain⟨v,s',h1,u,G1,h2⟩:=Ak G Oz h
  exact zE h1 (hk u _ s' m Oz G1 h2)
 by_cases X:∃t x hi mx,o=.slice t x none (some hi) (some mx)
 .obtain⟨t,x,hi,mx,rfl⟩:=X
  obtain⟨v,h1,u,G1,h2⟩:=Ok G h
  exact zE h1 (hk u _ s m Oz G1 h2)
 unfold wg at h
 split at h
 .next t x v=>
  obtain⟨j,off,q,c,c2,tt,n,hx,hq,ho,hj,hsz,hxx,hlen,hp,hg,hm,hc,u,G2,M⟩:=zbR (Γ:=Γ) (T:=T) (inl:=inl) (rc:=rc) (d:=d) (t:=t) (x:=x) (v:=v) G Oz (by unfold wg;exact h)
  exact jd (q7 hsz hxx rfl hlen hp hg hm hc) (hk u _ _ m Oz G2 M)
 .cases hn
 .cases hn
 .cases hn
 .next t l c=>exact(V ⟨t,l,c,rfl⟩).elim
 .cases hs
 .next t x hi mx=>exact(X ⟨t,x,hi,mx,rfl⟩).elim
 ·-- call
  next c=>
  obtain⟨callee,ag,ts⟩:=c
  simp only at h
  split at h
  .next f=>
   split at h
   .next K hf=>
    split at h
    .next hb=>
     simp only[aF,bB]at hb
     have i:zd F f=.func (.func K) #[] #[]:=(List.cons.inj (show [zd F f]=_ from G.ev hf)).1
     refine yo (args:=⟨qv (zd F) ag.toList++[]⟩) i hb.1 rfl ?_ hb.2
     refine VR (caps:=[]) (cs:=[]) (R:=qN T rc (.call ⟨.value f,ag,ts⟩)) hI hT D G hb.2 rfl rfl h ?_ ?_ S hk
     .intro J z w
      cases f with
      |func g2=>
       have:g2=K:=by
        have:zd F (.func g2)=.func (.func g2) #[] #[]:=rfl
        rw[this]at i;cases i;rfl
       subst this
       simp only[qN,z,aN]
      |_=>cases w
     .intro hor
      cases f with
      |func g2=>
       have:g2=K:=by
        have:zd F (.func g2)=.func (.func g2) #[] #[]:=rfl
        rw[this]at i;cases i;rfl
       subst this
       rcases hor with hn|w
       .simp only[qN,hn,aN]
       .cases w
      |_=>exact aN _
    .cases h
   .next K caps hf=>
    split at h
    .next hb=>
     simp only[aF,bB]at hb
     obtain⟨cs,i,E⟩:=G.ev hf
     have A:∀g2,f≠.func g2:=λg2 e=>by
      subst e;simp only[En.ev,bH]at hf;cases hf
     refine yo i hb.1.1 (by rfl) ?_ hb.1.2
     refine VR (R:=qN T rc (.call ⟨.value f,ag,ts⟩)) hI hT D G hb.1.2 E hb.2 h ?_ ?_ S hk
     .intro J z w;cases w
     .intro _
      cases f with
      |func g2=>exact(A g2 rfl).elim
      |_=>exact aN _
    .cases h
   .next K js hf=>
    split at h
    .next hb=>
     simp only[aF,bB]at hb
     obtain⟨cs,i,E⟩:=G.ev hf
     have i:=(List.cons.inj i).1
     have A:∀g2,f≠.func g2:=λg2 e=>by
      subst e;simp only[En.ev,bH]at hf;cases hf
     refine yo i hb.1 (by rfl) ?_ hb.2
     refine VR (R:=qN T rc (.call ⟨.value f,ag,ts⟩)) hI hT D G hb.2 (EX E) (Od js) h ?_ ?_ S hk
     .intro J z w;cases w
     .intro _
      cases f with
      |func g2=>exact(A g2 rfl).elim
      |_=>exact aN _
    .cases h
   .next j hf=>
    split at h
    .next ps N sl pars x y Y hob=>
     split at h
     .next hlen=>
      obtain⟨q,hq,i⟩:=G.ev hf
      have i:=(List.cons.inj i).1
      have A:∀g2,f≠.func g2:=λg2 e=>by
       subst e;simp only[En.ev,bH]at hf;cases hf
      have hrc:rc<=qN T rc (.call ⟨.value f,ag,ts⟩):=by
       cases f with
       |func g2=>exact(A g2 rfl).elim
       |_=>exact aN _
      obtain⟨q',o,Z,ho,hcode,fr,F0,rfl,ha,hs'⟩:=G.at hob
      rw[hq]at Z;cases Z
      have hpl:=(G.evs Y).len
      refine pY i (G.get hq ho) rfl (by rw[yf,bM,hpl,<-bM ps.length,<-yf];exact hlen) ?_
      rw[<-zcf hq]
      refine D h (G.enter F) rfl (G.evs Y) Oz ?_
      intro p v o' s' m' Q' O' L' Φ' hm' G' hp H
      split at H
      .next hc=>
       have G2:=G.exit (F'':=F) G' hc
       obtain⟨u,G3,M⟩:=G2.set hp H
       exact hk u _ s' m' Oz G3.good M
      .cases H
     .cases h
    .cases h
   .cases h
  .split at h
   .next t t2 tr x y hts has=>
    split at h
    .next el2 px py hu2 hx hy=>
     exact xt G hts has hu2 hx hy h (by simpa only[qN]using S) (by simpa only[qN]using hk)
    .cases h
   .cases h
  .exact(U ⟨_,_,rfl⟩).elim
  .split at h
   .next x y has=>
    split at h
    .next a b hx hy=>
     obtain⟨u,G1,h1⟩:=G.set (p:=.one (.int .i64 (min a b))) (v:=.int .i64 (min a b)) rfl h
     exact Hp has (List.cons.inj (show [zd F x]=_ from G.ev hx)).1 (List.cons.inj (show [zd F y]=_ from G.ev hy)).1 (hk u _ s m Oz G1.good h1)
    .cases h
   .cases h
  .split at h
   .next x y has=>
    split at h
    .next a b hx hy=>
     obtain⟨u,G1,h1⟩:=G.set (p:=.one (.int .i64 (max a b))) (v:=.int .i64 (max a b)) rfl h
     exact Ho has (List.cons.inj (show [zd F x]=_ from G.ev hx)).1 (List.cons.inj (show [zd F y]=_ from G.ev hy)).1 (hk u _ s m Oz G1.good h1)
    .cases h
   .cases h
  .exact B rfl h
 .exact B rfl h
end
section
variable{I:zZ}{Γ:TypeId->Option Ty}{T:FuncId->Option eQ}{ρ:Type}{inl:ir ρ}{rc:Nat}{W:Wd}{s0 s:St}{C:Cx}{QL:Qs}{stk:List fy}{e:En}{F:FF}{m:Nat}{Q:Qs}{O:List (Option ak)}{L Φ:au}
theorem zgs(G:GX QL W s0 s C stk e F m Q O L Φ){ops:List Oper}{o:Oper}{run skip:En->Option ρ}{r:ρ}(h:Su C ops e o run skip=some r) :
 ∃c,GX QL W s0 s C stk c F m Q O L Φ/\((ym ops F o=true/\run c=some r)\/(ym ops F o=false/\skip c=some r)):=by
 unfold Su at h
 unfold ym
 split at h
 .next hg=>rw[hg];exact⟨e,G,.inl ⟨rfl,h⟩⟩
 .next j w hg=>
  rw[hg]
  simp only
  split at h
  .next q i=>
   rw[i]
   simp only
   split at h
   .next d hd=>
    rw[hd]
    simp only
    split at h
    .next b hb=>
     have hv:F d=.bool b:=by
      have:=G.ev (x:=.tmp d) hb
      exact(List.cons.inj (show [F d]=[Value.bool b]from this)).1
     rw[hv]
     simp only
     split at h
     .next g=>
      subst g
      have a:=G.mark (x:=.tmp d) hb
      cases w with
      |true=>exact⟨_,a,.inl ⟨rfl,h⟩⟩
      |false=>exact⟨_,a,.inr ⟨rfl,h⟩⟩
     .next f=>
      obtain rfl:b=false:=by simpa using f
      have a:=G.mark (x:=.tmp d) hb
      cases w with
      |true=>exact⟨_,a,.inr ⟨rfl,h⟩⟩
      |false=>exact⟨_,a,.inl ⟨rfl,h⟩⟩
    .next hb=>
     have hv:F d=undef:=G.ev (x:=.tmp d) hb
     rw[hv]
     exact⟨e,G,.inr ⟨rfl,h⟩⟩
    .cases h
   .next hd=>rw[hd];exact⟨e,G,.inr ⟨rfl,h⟩⟩
  .next i=>rw[i];exact⟨e,G,.inr ⟨rfl,h⟩⟩
theorem zeK(q:zx I)(t:QE I T)(b:Qr I W s0 inl rc){ops:List Oper}{k:En->Option ρ}{r:ρ}{P:FF->St->Prop}:∀{l:List Oper} {s:St} {e:En} {F:FF} {m:Nat},vg QL W s0 s C stk e F m->p6 Γ T inl rc C ops l e k=some r->s0.next+(m+Rm T rc l)<=zA ->
 (∀j g s' u,u<=m+Rm T rc l->vg QL W s0 s' C stk j g u->k j=some r->P g s')->dj Tryz.prog I ops l F s P
 | [],s,e,F,m,G,h,w,hk=>hk e F s m (Nat.le_add_right ..) G h
 |o::l,s,e,F,m,⟨Q,O,L,Φ,G⟩,h,w,hk=>by
  simp only[Rm]at w hk
  unfold p6 at h
  obtain⟨e1,G1,x⟩:=zgs G h
  rcases x with⟨hw,h⟩|⟨hw,h⟩
  .refine z6 hw (zfu (o:=o.op) q t b G1 h Oz ?_)
   intro j g s' u hm G2 h2
   exact zeK q t b G2 h2 Oz λa F'' d c f i n=>hk a F'' d c Oz i n
  .refine xB hw ?_
   obtain⟨e2,G2,h2⟩:=G1.set (p:=.undef) (v:=undef) rfl h
   exact zeK q t b G2.good h2 Oz λa F'' d c f i n=>hk a F'' d c Oz i n
theorem KM(G:GX QL W s0 s C stk e F m Q O L Φ){p:Option Pv}{v:Value}(hp:∀x,p=some x->cL (W.x Φ) Q x v)(h:KN C e p=true):(∀a,v=.pointer (some a)->a.block<s.next)/\∀a n c,v=.slice (some a) n c->a.block<s.next:=by
 unfold KN at h
 split at h
 .next j off=>
  obtain⟨q,y,hv⟩:=hp _ rfl
  have hv:=(List.cons.inj hv).1
  split at h
  .next l ho=>
   obtain⟨q',o,f,r,c,t,rfl,_⟩:=G.at ho
   rw[y]at f;cases f
   refine⟨λa ha=>?_,λa n c ha=>?_⟩
   .rw[hv]at ha;cases ha;exact G.lt y r
   .rw[hv]at ha;cases ha
  .cases h
 .next j=>
  obtain⟨q,y,hv,_⟩:=hp _ rfl
  have hv:=(List.cons.inj hv).1
  split at h
  .next t w τ l ho=>
   obtain⟨q',o,f,r,a,cap,z,_,_,_,Y,_,d,_⟩:=G.at ho
   rw[y]at f;cases f
   refine⟨λa ha=>?_,λa n c ha=>?_⟩
   .rw[hv,z]at ha;cases ha
   .rw[hv,z]at ha
    cases ha
    generalize E:wx q.2 o=D at d
    generalize u:(Value.slice (some a) l.length cap)=sl at d
    generalize Y.flatten=c at d
    generalize l.length=n at d u
    cases d with
    |nil=>cases u
    |block b g _ _ hl hcap=>
     cases u
     cases o with
     |none=>cases E
     |some o=>cases E;exact G.lt y r
  .cases h
 .next pv h1 h2=>
  have hp:=hp _ rfl
  cases pv with
  |undef=>rw[show v=undef from hp];exact⟨(λ_ h=>nomatch h),(λ_ _ _ h=>nomatch h)⟩
  |any=>cases h
  |agg=>obtain⟨c,rfl,_⟩:=hp;exact⟨(λ_ h=>nomatch h),(λ_ _ _ h=>nomatch h)⟩
  |tup=>obtain⟨c,rfl,_⟩:=hp;exact⟨(λ_ h=>nomatch h),(λ_ _ _ h=>nomatch h)⟩
  |clo=>obtain⟨c,rfl,_⟩:=hp;exact⟨(λ_ h=>nomatch h),(λ_ _ _ h=>nomatch h)⟩
  |one x=>
   cases x with
   |int=>rw[(List.cons.inj (show [v]=_ from hp)).1];exact⟨(λ_ h=>nomatch h),(λ_ _ _ h=>nomatch h)⟩
   |bool=>rw[(List.cons.inj (show [v]=_ from hp)).1];exact⟨(λ_ h=>nomatch h),(λ_ _ _ h=>nomatch h)⟩
   |nil=>rw[(List.cons.inj (show [v]=_ from hp)).1];exact⟨(λ_ h=>nomatch h),(λ_ _ _ h=>nomatch h)⟩
   |nilf=>rw[(List.cons.inj (show [v]=_ from hp)).1];exact⟨(λ_ h=>nomatch h),(λ_ _ _ h=>nomatch h)⟩
   |fn=>rw[(List.cons.inj (show [v]=_ from hp)).1];exact⟨(λ_ h=>nomatch h),(λ_ _ _ h=>nomatch h)⟩
   |nilp=>rw[(List.cons.inj (show [v]=_ from hp)).1];exact⟨(λ_ h=>nomatch h),(λ_ _ _ h=>nomatch h)⟩
   |cl=>obtain⟨cs,e1,_⟩:=hp;rw[(List.cons.inj e1).1];exact⟨(λ_ h=>nomatch h),(λ_ _ _ h=>nomatch h)⟩
   |yl=>obtain⟨q,_,e1⟩:=hp;rw[(List.cons.inj e1).1];exact⟨(λ_ h=>nomatch h),(λ_ _ _ h=>nomatch h)⟩
   |sp=>cases h
   |unk=>cases h
   |asl=>cases h
   |rat=>have e1:=eZ.len hp;cases e1
   |own j=>exact(h2 _ rfl).elim
   |ptr j off=>exact(h1 _ _ rfl).elim
   |op j w i off=>cases h
   |ep t w τ x off=>
    obtain⟨b,o,n,cap,H,kk,A,hk,hR,hv⟩:=hp
    have hv:=(List.cons.inj hv).1
    refine⟨λa ha=>?_,λa n c ha=>by rw[hv]at ha;cases ha⟩
    rw[hv]at ha;cases ha
    have:=G.see.kn.s _ _ _ _ A
    cases this with
    |nil c hv hl=>cases hv
    |block b' off' g c hv B k hcap hc=>cases hv;exact k
   |sl t w τ l=>
    obtain⟨a',cap,H,e1,A,_⟩:=hp
    have hv:=(List.cons.inj e1).1
    refine⟨λa ha=>(by rw[hv]at ha;cases ha),λa n c ha=>?_⟩
    rw[hv]at ha;cases ha
    have:=G.see.kn.s _ _ _ _ A
    cases this with
    |nil c hv hl=>cases hv
    |block b' off' g c hv B k hcap hc=>
     simp only[Value.slice.injEq,bH]at hv
     rw[hv.1];exact k
 .cases h
def fi(C:Cx)(ops:List Oper)(e:En)(fr:List Nat):Prop:=∀i o t x j w n off,i∈fr->zH ops i=some o->o.op=.load t x->e.ev C x=some (.one (.op j w n off))->∃t' w' τ,∃(l:List τ.T) (y:τ.T),e.obj C j=some (.list t' w' τ l)/\ae l n=some y
theorem fi.tail{C:Cx}{ops:List Oper}{e:En}{i:Nat}{fr:List Nat}(h:fi C ops e (i::fr)):fi C ops e fr:=λi o t x j w n off hi=>h i o t x j w n off (aP _ hi)
theorem YN{ops:List Oper}:∀{fr:List Nat} {k:Unit->Option ρ} {r:ρ},YO C ops e fr k=some r->k ()=some r/\fi C ops e fr
 | [],k,r,h=>⟨h,λi o t x j w n off hi=>by cases hi⟩
 |i::fr,k,r,h=>by
  have other:YO C ops e fr k=some r->(∀o t x j w n off,zH ops i=some o->o.op=.load t x->e.ev C x=some (.one (.op j w n off))->False)->k ()=some r/\fi C ops e (i::fr):=λh hn=>by
   obtain⟨h1,h2⟩:=YN h
   refine⟨h1,λz o t x j w n off hi ho g hx=>?_⟩
   rcases aJ.mp hi with rfl|hi
   .exact(hn o t x j w n off ho g hx).elim
   .exact h2 z o t x j w n off hi ho g hx
  simp only[YO]at h
  split at h
  .next o ho=>
   split at h
   .next t x g=>
    split at h
    .next j w n off hx=>
     split at h
     .next t' w' τ l v=>
      obtain⟨y,A,h⟩:=zT h
      obtain⟨h1,h2⟩:=YN h
      refine⟨h1,λz o' t2 x2 p u q d hi b a c=>?_⟩
      rcases aJ.mp hi with rfl|hi
      .rw[ho]at b;cases b
       rw[g]at a;cases a
       rw[hx]at c;cases c
       exact⟨_,_,_,_,_,v,A⟩
      .exact h2 z o' t2 x2 p u q d hi b a c
     .cases h
    .next f=>
     refine other h ?_
     intro o' t2 x2 p u q d b a c
     rw[ho]at b;cases b
     rw[g]at a;cases a
     exact f _ _ _ _ c
   .next f=>
    refine other h ?_
    intro o' t2 x2 p u q d b a c
    rw[ho]at b;cases b
    exact f _ _ a
  .next f=>
   refine other h ?_
   intro o' t2 x2 p u q d b a c
   rw[f]at b;cases b
theorem pV(G:GX QL W s0 s C stk e F m Q O L Φ){j w off:Nat}{n:Int}{v:Value}{t' w':Nat}{τ:Ty}{l:List τ.T}{y:τ.T}(hv:cL (W.x Φ) Q (.one (.op j w n off)) v)(i:e.obj C j=some (.list t' w' τ l))(hi:ae l n=some y) :
 ∃q o,Q[j]? = some q/\O[j]? = some (some o)/\v=.pointer (some ⟨q.2,n.toNat*w+off,none⟩):=by
 obtain⟨q,p,f⟩:=hv
 have f:=(List.cons.inj f).1
 obtain⟨q',o,g,ho,a,cap,hv',_,_,_,Y,_,d,_⟩:=G.at i
 rw[p]at g;cases g
 obtain⟨hi0,hi1,h⟩:=kz hi
 have hl:=(aM.mp h).1
 generalize r:wx q.2 o=D at d
 generalize k:(Value.slice a l.length cap)=sl at d
 generalize Y.flatten=c at d
 generalize hn:l.length=n' at d k
 cases d with
 |nil=>omega
 |block b cap' _ _ hl hcap=>
  cases o with
  |none=>cases r
  |some o=>exact⟨q,o,p,ho,f⟩
theorem zaM(G:GX QL W s0 s C stk e F m Q O L Φ){ops:List Oper}:∀{fr:List Nat},Vt C ops e fr=true->fi C ops e fr->∀p,p∈yi ops F fr->p<s.next
 | [],_,_,p,hp=>by cases hp
 |i::r,h,v,p,hp=>by
  simp only[Vt,aF]at h
  obtain⟨h1,h2⟩:=h
  have u:=zaM G (ops:=ops) h2 v.tail
  simp only[yi]at hp
  split at hp
  .next o ho=>
   simp only[ho]at h1
   split at hp
   .next b hb=>
    rcases aJ.mp hp with rfl|hp
    .unfold yA at hb
     split at hb
     .next t x c=>
      simp only[c,dA]at h1
      split at hb
      .next a ha=>
       cases hb
       rcases h1 with h1|h1
       .unfold Tw at h1
        split at h1
        .next j w n off hx=>
         obtain⟨t',w',τ,l,y,g,hi⟩:=v i o t x j w n off (aO ..) ho c hx
         obtain⟨q,oo,z,k,hv⟩:=pV G (G.ev hx) g hi
         rw[hv]at ha;cases ha
         exact G.lt z k
        .cases h1
       .exact(KM G (λy f=>G.ev f) h1).1 _ ha
      .cases hb
     .next t x lo hi c=>
      simp only[c]at h1
      split at hb
      .next a _ _ ha=>cases hb;exact(KM G (λy f=>G.ev f) h1).2 _ _ _ ha
      .next a ha=>cases hb;exact(KM G (λy f=>G.ev f) h1).1 _ ha
      .cases hb
     .next t c=>
      simp only[c]at h1
      split at hb
      .next d hd=>
       simp only[hd]at h1
       split at hb
       .next a ha=>cases hb;exact(KM G (λy f=>G.ev (x:=.tmp d) f) h1).1 _ ha
       .cases hb
      .cases hb
     .next t n ps c=>
      simp only[c]at h1
      split at hb
      .next d hd=>
       simp only[hd]at h1
       split at hb
       .next a _ _ ha=>cases hb;exact(KM G (λy f=>G.ev (x:=.tmp d) f) h1).2 _ _ _ ha
       .cases hb
      .cases hb
     .cases hb
    .exact u p hp
   .exact u p hp
  .exact u p hp
end
end Go.Proofs.YtocnbjjmmgolfaaGreat
