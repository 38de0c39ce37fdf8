/- The evaluator: operations one after another. -/
import Derived.Test.YtocnbjjmmgolfaaGreatA16
set_option linter.unusedSimpArgs false
set_option linter.unusedVariables false
set_option linter.unusedSectionVars false
namespace Go.Proofs.YtocnbjjmmgolfaaGreat
open Go Go.M Go.Proofs.C14
theorem zall_ok{τ:Option Ty}{c:List Value}{l:List Lf}{W:Wd}{D:Hp'}{Q:Qs}(h:zallK τ c=some l):LsR (W.x D) Q l c:=by
 unfold zallK at h
 split at h
 ·exact jO h
 ·unfold zfun at h
  split at h<;>cases h
  exact LsR.one rfl
section
variable{I:zU}{Γ:TypeId→Option Ty}{T:FuncId→Option Con}{ρ:Type}{inl:Inl ρ}{rc:Nat}{W:Wd}{s0 s:St}{C:Cx}{QL:Qs}{stk:List Fra}{e:En}{F:FF}{m:Nat}{Q:Qs}{O:List (Option MObj)}{L Φ:Hp'}
theorem new_ok(G:GX QL W s0 s C stk e F m Q O L Φ){d:Option Nat}{o:Op}{k:En→Option ρ}{r:ρ}(hn:newOp o=true)(u:s0.next+m<zw)(h:v5 Γ T inl rc C e d o k=some r) :
 ∃ob v,(∀s1:St,s1.next=s.next→zh Tryz.prog (zd F) o s1=.ok (.value v) (s1.new ob))∧((v=.pointer (some ⟨s.next,0,none⟩)∧bsOp o=false)∨(bsOp o=true∧∃n c,v=.slice (some ⟨s.next,0,none⟩) n c))∧∃g,k8 QL W s0 (s.new ob) C stk g (upd F d v) (m+1)∧k g=some r:=by
 unfold v5 at h
 split at h
 ·cases hn
 ·-- box
  next t x=>
  split at h
  ·next v hv=>
   split at h
   ·next l hl=>
    have q:=Ze (G.ev hv) hl
    obtain⟨g,A,h1⟩:=G.newK u (o:=.cells (yp (zd F x)) t) (v:=undef) (w:=.pointer (some ⟨s.next,0,none⟩)) (b:=.cells l) (l:=(.ptr · 0)) ⟨_,_,rfl,q.mono WLe.rfl QLe.app⟩ (fun h=>nomatch h) ⟨_,G.nth,rfl⟩ h
    refine⟨_,_,fun s1 f=>?_,.inl ⟨rfl,rfl⟩,g,A,h1⟩
    have a:s1.room=true:=by rw[St.room,f];exact G.H.room u
    simp only[zh,XH,a,f]
    rfl
   ·cases h
  ·cases h
 ·-- alloc
  next t=>
  split at h
  ·next c j=>
   split at h
   ·next l hl=>
    have q:=zall_ok (W:=W) (D:=Φ) (Q:=Q) hl
    obtain⟨g,A,h1⟩:=G.newK u (o:=.cells c t) (v:=undef) (w:=.pointer (some ⟨s.next,0,none⟩)) (b:=.cells l) (l:=(.ptr · 0)) ⟨_,_,rfl,q.mono WLe.rfl QLe.app⟩ (fun h=>nomatch h) ⟨_,G.nth,rfl⟩ h
    refine⟨_,_,fun s1 f=>?_,.inl ⟨rfl,rfl⟩,g,A,h1⟩
    have a:s1.room=true:=by rw[St.room,f];exact G.H.room u
    simp only[jn]at j
    split at j
    ·next i hb hi=>
     split at j
     ·next z U=>
      cases j
      simp only[zh,hb,wW,gM,hi,U,XH,a,f]
      rfl
     ·cases j
    ·cases j
   ·cases h
  ·cases h
 ·-- buildSlice
  next t n parts=>
  split at h
  ·next J sz τ z ps P hps=>
   obtain⟨by_,zc,hs,hby,hsz,V⟩:=Xu P
   split at h
   ·next e0 N=>
    obtain⟨O,Φ,G⟩:=G.frzP N
    split at h
    ·next c B hc=>
     split at h
     ·next xs R=>
      obtain⟨c',h1,h2⟩:=QQ (fun x p=>G.ev (x:=x) (p:=p)) (rep_ok (V W Φ Q) n) hc
      obtain⟨Y,e1,e2,E,X,Z⟩:=KB h2 R
      have M:n*sz=c'.length:=by rw[←e1,qU (fun y S=>by rw[X y S,hsz]),e2]
      have how:OwnL (W.x Φ) J sz τ [(s.next,.cells c' J)] (some ⟨s.next,0,none⟩) xs.length (2*n) xs:=by
       refine⟨rfl,hsz,Y,by rw[e2,E],?_,fun y S=>by rw[X y S,hsz],Z⟩
       rw[e1,E]
       exact .block s.next (2*n) c' n M Oz
      obtain⟨g,A,K⟩:=G.newK u (o:=.cells c' J) (v:=.slice (some ⟨s.next,0,none⟩) xs.length (2*n)) (w:=.slice (some ⟨s.next,0,none⟩) xs.length (2*n)) (b:=.list J sz τ xs) (l:=.own) ⟨_,_,rfl,(fun h=>by rw[E]at h;omega),how⟩ (fun h=>nomatch h) ⟨_,G.nth,rfl,_,_,_,rfl⟩ h
      obtain⟨hu,inf,z',hi,rfl,_,j,_,_⟩:=yY hs
      refine⟨_,_,fun s1 f=>?_,.inr ⟨rfl,_,_,rfl⟩,g,A,K⟩
      have a:s1.room=true:=by rw[St.room,f];exact G.H.room u
      simp only[zh,qL,hu,hi,j,B,h1,newK,a,E,f]
      rfl
     ·cases h
    ·cases h
   ·cases h
  ·cases h
 ·cases hn
 ·cases hn
 ·cases hn
 ·cases hn
 ·next h1 h2 K h4 h5 h6 h7 h8=>cases o<;>first|(cases hn;done)|exact(h2 _ _ rfl).elim|exact(K _ rfl).elim|exact(h4 _ _ _ rfl).elim
theorem bnd_ok(G:GX QL W s0 s C stk e F m Q O L Φ){i a:Int}{n:Nat}{o:Option Operand}(h:bndK C e i o=some a)(hi:i=n)(ha:0≤a):qm (o.map (zd F)) n=some a.toNat:=by
 unfold bndK at h
 split at h
 ·cases h;subst hi;rfl
 ·next x=>
  split at h
  ·next kd j hj=>
   cases h
   have:=(List.cons.inj (show [zd F x]=_ from G.ev hj)).1
   obtain⟨b,rfl⟩:=Int.eq_ofNat_of_zero_le ha
   rw[cP,this]
   rfl
  ·cases h
theorem QF(G:GX QL W s0 s C stk e F m Q O L Φ){d:Option Nat}{o:Op}{k:En→Option ρ}{r:ρ}(hn:zec o=true)(h:v5 Γ T inl rc C e d o k=some r) :
 ∃v,(∀s1:St,(∀t x lo hi,o=.slice t x lo hi none→∀a n c,zd F x=.slice (some a) n c→a.block<s.next→s1.get a.block=s.get a.block)→zh Tryz.prog (zd F) o s1=.ok (.value v) s1)∧∃N,k8 QL W s0 s C stk N (upd F d v) m∧k N=some r:=by
 unfold zec at hn
 split at hn
 ·next t x lo hi=>
  unfold v5 at h
  simp only at h
  split at h
  ·next p hp=>
   cases u:aslB p lo hi
   case true=>
    rw[u]at h
    simp only at h
    obtain⟨v,hv,h⟩:=yR h
    unfold aslK at hv
    split at hv
    ·next j n el hu=>
     split at hv
     ·next i=>
      cases hv
      obtain⟨inf,i⟩:=Option.isSome_iff_exists.mp i
      unfold aslB at u
      split at u
      ·obtain⟨q,hq,hx⟩:=G.ev hp
       have hx:=(List.cons.inj hx).1
       obtain⟨N,G2,h4⟩:=G.set (p:=.one (.asl j n)) (v:=.slice (some ⟨q.2,0,none⟩) n (2*n)) ⟨q,hq,rfl⟩ h
       refine⟨_,fun s1 Y=>?_,N,G2.good,h4⟩
       have B:(Addr.mk q.2 0 none).add (0*inf.size)=⟨q.2,0,none⟩:=by
        rw[eF]
        unfold Addr.add
        split
        ·rfl
        ·next h=>exact(h rfl).elim
       have h0l:Nat.ble 0 n=true:=aZ (cJ _)
       have hbl:Nat.ble n n=true:=aZ (aO _)
       simp only[zh,qk,hu,i,hx,xU,Option.map_none,qm,h0l,hbl,cP,B,Bool.true_or,Bool.true_and,Option.isSome_none,Bool.not_false,Bool.or_true,Nat.sub_zero,ite_self]
       rfl
      ·cases u
     ·cases hv
    ·cases hv
   rw[u]at h
   simp only at h
   split at h
   ·next e1 he1=>
    obtain⟨O1,Φ1,G1⟩:=G.frzP he1
    split at h
    ·next t' w τ l el hx hu=>
     split at h
     ·next a b inf hla hhb i=>
      split at h
      ·next M=>
       simp only[aG]at M
       have hw:=aJ M.1
       have ht:=aJ M.2
       subst hw ht
       obtain⟨y,hy,h⟩:=zP h
       unfold xK at hy
       split at hy
       ·next hc=>
        cases hy
        obtain⟨h0,h1,h2,h3⟩:=hc
        obtain⟨a',cap,Ls,e2,hS,U,hl⟩:=G1.ev hx
        have Z:=(List.cons.inj e2).1
        have hsl:=G1.see.kn.s _ _ _ _ hS
        cases hsl with
        |nil c hv hl0=>rw[hl0]at U;simp at U;omega
        |block K off cap2 c hv hg J hcap hcc=>
         have P:=J
         simp only[Value.slice.injEq]at hv
         obtain⟨rfl,hn3,rfl⟩:=hv
         obtain⟨f,rfl⟩:=Int.eq_ofNat_of_zero_le h0
         obtain⟨g,rfl⟩:=Int.eq_ofNat_of_zero_le (Int.le_trans h0 h1)
         simp only[Int.toNat_natCast]at h ⊢
         have E:=bnd_ok (n:=0) G1 hla rfl Oz
         have D:=bnd_ok (n:=l.length) G1 hhb rfl Oz
         simp only[Int.toNat_natCast]at E D
         have R:f≤g:=by omega
         have hhl:g≤l.length:=by omega
         have hlen:((l.drop f).take (g-f)).length=g-f:=by rw[bU,bZ];omega
         have V:∀off' cap',g-f≤cap' / 2→(off'=off+f*inf.size∨f=g)→Rep (W.x Φ1) (.sl t' inf.size τ) [.slice (some ⟨K,off',none⟩) (g-f) cap'] ((l.drop f).take (g-f)):=fun off' cap' g1 g2=>by
          refine⟨some ⟨K,off',none⟩,cap',(Ls.drop f).take (g-f),by rw[hlen],by rw[hlen];exact G1.see.kn.cut _ _ _ _ _ _ _ hS f g cap' off' R Oz g1 g2,by rw[hlen,bU,bZ];omega,fun k x hk=>?_⟩
          rw[List.getElem?_take]at hk
          split at hk
          ·next hk1=>
           rw[dX]at hk
           have:=hl _ _ hk
           simp only[aC,List.getElem?_take,dX,hk1,dP]at this ⊢
           exact this
          ·cases hk
         have H:(Nat.ble f g&&Nat.ble g (cap / 2)&&Nat.ble (cap / 2) (cap / 2)&&((hi.map (zd F)).isSome || !(none:Option Value).isSome))=true:=by
          simp only[aG]
          exact⟨⟨⟨aZ R,aZ Oz⟩,aZ (aO _)⟩,by simp⟩
         have J:qm (none:Option Value) (cap / 2)=some (cap / 2):=rfl
         have B:∀n,(Addr.mk K off none).add n=⟨K,off+n,none⟩:=fun n=>by
          unfold Addr.add
          split
          ·next h=>subst h;rfl
          ·rfl
         -- where the part begins,how much it may hold
         have key:∃off' cap',g-f≤cap' / 2∧(off'=off+f*inf.size∨f=g)∧∀s1:St,s1.get K=s.get K→zh Tryz.prog (zd F) (.slice t x lo hi none) s1=.ok (.value (.slice (some ⟨K,off',none⟩) (g-f) cap')) s1:=by
          have A:∀s1,zh Tryz.prog (zd F) (.slice t x lo hi none) s1=qk Tryz.prog t (.slice (some ⟨K,off,none⟩) l.length cap) (lo.map (zd F)) (hi.map (zd F)) none s1:=fun s1=>by
           rw[←Z];rfl
          by_cases z:cap % 2=0
          ·by_cases S:cap / 2=f
           ·refine⟨off,2*(cap / 2-f),by omega,.inr Oz,fun s1 hh=>?_⟩
            rw[A]
            have:Nat.beq (cap / 2) f=true:=by rw[S];exact eM _
            simp only[qk,hu,i,z,xU,E,D,J,H,Bool.true_or,this,dP]
            rfl
           ·refine⟨off+f*inf.size,2*(cap / 2-f),by omega,.inl rfl,fun s1 hh=>?_⟩
            rw[A]
            have:Nat.beq (cap / 2) f=false:=by
             rw[cL];exact fun h=>S (aJ h)
            simp only[qk,hu,i,z,xU,E,D,J,H,Bool.true_or,this,cP,B]
            rfl
          ·have z:cap % 2=1:=by omega
           refine⟨off+f*inf.size,2*(cap / 2-f)+1,by omega,.inl rfl,fun s1 hh=>?_⟩
           rw[A]
           have X:wg t' (some ⟨K,off,none⟩) cap s1=true:=by
            have hg1:s1.get K=some (.cells c t'):=by rw[hh];exact hg
            simp only[wg,z,hg1,eM]
           simp only[qk,hu,i,z,X,xU,E,D,J,H,cP,B]
           rfl
         obtain⟨off',cap',g1,g2,g3⟩:=key
         obtain⟨N,G2,h4⟩:=G1.set (p:=.one (.sl t' inf.size τ ((l.drop f).take (g-f)))) (V off' cap' g1 g2) h
         exact⟨_,fun s1 Y=>g3 s1 (Y t x lo hi rfl _ _ _ Z P),N,G2.good,h4⟩
       ·cases hy
      ·cases h
     ·cases h
    ·cases h
   ·cases h
  ·cases h
 ·cases hn
theorem mx_ok(G:GX QL W s0 s C stk e F m Q O L Φ){d:Option Nat}{t:TypeId}{x hi mx:Operand}{k:En→Option ρ}{r:ρ}(h:v5 Γ T inl rc C e d (.slice t x none (some hi) (some mx)) k=some r) :
 ∃v,zh Tryz.prog (zd F) (.slice t x none (some hi) (some mx)) s=.ok (.value v) s∧∃E,k8 QL W s0 s C stk E (upd F d v) m∧k E=some r:=by
 unfold v5 at h
 simp only at h
 split at h
 ·next t' w τ l a b el hx X Y hu=>
  split at h
  ·next inf i=>
   split at h
   ·next j=>
    simp only[aG]at j
    have hw:=aJ j.1
    have Z:=aJ j.2
    subst hw Z
    split at h
    ·next J=>
     subst J
     obtain⟨y,H,h⟩:=zP h
     unfold xK at H
     split at H
     ·next hc=>
      cases H
      obtain⟨_,h1,h2,h3⟩:=hc
      obtain⟨n,rfl⟩:=Int.eq_ofNat_of_zero_le h1
      have K:zd F hi=.int .i64 (n:Int):=(List.cons.inj (show [zd F hi]=_ from G.ev X)).1
      have P:zd F mx=.int .i64 (n:Int):=(List.cons.inj (show [zd F mx]=_ from G.ev Y)).1
      obtain⟨a',cap,Ls,e2,U,A,hl⟩:=G.ev hx
      have S:=(List.cons.inj e2).1
      have R:=G.see.kn.s _ _ _ _ U
      cases R with
      |nil c hv N=>rw[N]at A;simp at A;omega
      |block g off cap2 c hv hg hbn hcap hcc=>
       simp only[Value.slice.injEq]at hv
       obtain⟨rfl,hn3,rfl⟩:=hv
       have hnl:n≤l.length:=by omega
       have hlen:((l.drop 0).take (n-0)).length=n:=by rw[bU,bZ];omega
       have B:Rep (W.x Φ) (.sl t' inf.size τ) [.slice (some ⟨g,off,none⟩) n (2*n)] ((l.drop (0:Int).toNat).take ((n:Int).toNat-(0:Int).toNat)):=by
        have z:=G.see.kn.cut _ _ _ _ _ _ _ U 0 n (2*n) off (cJ _) Oz Oz (.inl Oz)
        refine⟨some ⟨g,off,none⟩,2*n,(Ls.drop 0).take (n-0),by simp only[Int.toNat_natCast,Int.toNat_zero];rw[hlen],by simp only[Int.toNat_natCast,Int.toNat_zero];rw[hlen];exact z,by simp only[Int.toNat_natCast,Int.toNat_zero,bU,bZ];omega,fun k x hk=>?_⟩
        simp only[Int.toNat_natCast,Int.toNat_zero,List.drop_zero,Nat.sub_zero]at hk ⊢
        rw[List.getElem?_take]at hk
        split at hk
        ·next M=>
         have:=hl _ _ hk
         simp only[aC,List.getElem?_take,M,dP]at this ⊢
         exact this
        ·cases hk
       have o:zh Tryz.prog (zd F) (.slice t x none (some hi) (some mx)) s=.ok (.value (.slice (some ⟨g,off,none⟩) n (2*n))) s:=by
        have e1:zh Tryz.prog (zd F) (.slice t x none (some hi) (some mx)) s=qk Tryz.prog t (.slice (some ⟨g,off,none⟩) l.length cap) none (some (.int .i64 (Int.ofNat n))) (some (.int .i64 (Int.ofNat n))) s:=by
         rw[←S]
         show qk Tryz.prog t (zd F x) none (some (zd F hi)) (some (zd F mx)) s=_
         rw[K,P]
         rfl
        rw[e1]
        have u:(Nat.ble 0 n&&Nat.ble n n&&Nat.ble n (cap / 2)&&(true || !true))=true:=by
         simp only[aG]
         exact⟨⟨⟨aZ (cJ _),aZ (aO _)⟩,aZ Oz⟩,rfl⟩
        have q:(Addr.mk g off none).add (0*inf.size)=⟨g,off,none⟩:=by
         rw[eF]
         unfold Addr.add
         split
         ·rfl
         ·next h=>exact(h rfl).elim
        have fin:∀kn,xU inf.size (some ⟨g,off,none⟩) l.length (cap / 2) kn none (some (.int .i64 (Int.ofNat n))) (some (.int .i64 (Int.ofNat n))) s=.ok (.value (.slice (some ⟨g,off,none⟩) n (2*n))) s:=fun kn=>by
         simp only[xU,qm,u,Option.isSome_some,Bool.or_true,cP,q,Nat.sub_zero,ite_self]
         rfl
        by_cases f:cap % 2=0
        ·simp only[qk,hu,i,f,fin]
        ·have f:cap % 2=1:=by omega
         have D:wg t' (some ⟨g,off,none⟩) cap s=true:=by simp only[wg,f,hg,eM]
         simp only[qk,hu,i,f,D,fin]
       obtain⟨E,G2,V⟩:=G.set (p:=.one (.sl t' inf.size τ ((l.drop (0:Int).toNat).take ((n:Int).toNat-(0:Int).toNat)))) B h
       exact⟨_,o,E,G2.good,V⟩
     ·cases H
    ·cases h
   ·cases h
  ·cases h
 ·cases h
theorem zcq{α:Type}:∀{l a a' b:List α},xO l a=some a'→xO l (a++b)=some (a'++b)
 | [],_,_,_,h=>by simp only[xO,bF]at h ⊢;rw[h]
 |_::_,[],_,_,h=>by simp[xO]at h
 |v::l,x::a,a',b,h=>by
  simp only[xO,bV]at h ⊢
  split at h
  ·next r c=>rw[zcq c];cases h;rfl
  ·cases h
theorem WX{α:Type}:∀{j:Nat} {l a a' b:List α},yO j l a=some a'→yO j l (a++b)=some (a'++b)
 |0,_,_,_,_,h=>zcq h
 |_+1,_,[],_,_,h=>by simp[yO]at h
 |j+1,l,x::a,a',b,h=>by
  simp only[yO,bV]at h ⊢
  split at h
  ·next r c=>rw[WX c];cases h;rfl
  ·cases h
theorem K8{α:Type}{k:Nat}{l b b':List α}(h:yO k l b=some b'):∀a:List α,yO (a.length+k) l (a++b)=some (a++b')
 | []=>by rw[List.length_nil,cA];exact h
 |x::a=>by
  rw[aW,show a.length+1+k=(a.length+k)+1 by omega]
  simp only[yO,bV,K8 h a]
theorem K9{sz j:Nat}{l b:List Value}:∀{es:List (List Value)} (_:∀x∈es,x.length=sz) {i:Nat} (_:i<es.length) (_:yO j l (es.getD i [])=some b),yO (i*sz+j) l es.flatten=some (es.set i b).flatten
 | [],_,_,hi,_=>by simp at hi
 |x::es,a,0,_,he=>by
  rw[eF,cA,cU,List.set_cons_zero,cU]
  exact WX he
 |x::es,a,i+1,hi,he=>by
  have h1:=K9 (es:=es) (fun y c=>a y (aN _ c)) (i:=i) (by simpa using hi) he
  rw[cU,List.set_cons_succ,cU,dM,dQ,show i*sz+sz+j=x.length+(i*sz+j)by rw[a x (aP ..)];omega]
  exact K8 h1 x
theorem yT{α:Type}:∀{l:List α} {n:Nat} {y:α},zE l n y=l.set n y
 | [],_,_=>rfl
 |_::_,0,_=>rfl
 |_::l,n+1,y=>by simp only[zE,List.set_cons_succ,yT]
theorem zbu(G:GX QL W s0 s C stk e F m Q O L Φ)(hr:s0.next+m≤zw){d:Option Nat}{t:TypeId}{x v:Operand}{k:En→Option ρ}{r:ρ}(h:v5 Γ T inl rc C e d (.store t x v) k=some r) :
 ∃j off q c E tt n,(∀j' off',e.ev C x=some (.one (.ptr j' off'))→j'=j)∧Q[j]? = some q∧(∃o,O[j]? = some (some o))∧C.lent≤j∧qZ Tryz.prog t=some n∧zd F x=.pointer (some ⟨q.2,off,none⟩)∧Nat.beq (yD (yp (zd F v)) 0) n=true∧(yp (zd F v)).all Go.M.plainCell=true ∧
  s.get q.2=some (.cells c tt)∧s.may q.2=true∧yO off (yp (zd F v)) c=some E∧∃e',k8 QL W s0 (s.put q.2 (some (.cells E tt))) C stk e' (upd F d undef) m∧k e'=some r:=by
 unfold v5 at h
 simp only at h
 split at h
 ·next j off pv hx hv=>
  split at h
  ·next c l A hl=>
   split at h
   ·next c' n Z hsz=>
    split at h
    ·next hb=>
     simp only[aG]at hb
     rw[zJ]at A
     have K:j<Q.length:=by rw[←G.len];exact(aM.mp A).1
     obtain⟨q,B⟩:∃q,Q[j]? = some q:=⟨_,aE K⟩
     obtain⟨oj,f⟩:∃o,O[j]? = some o:=⟨_,aE (by rw[G.oq];exact K)⟩
     obtain⟨cs,tt,rfl,hcs⟩:=G.obj j _ q oj A B f
     have u:=Ze (G.ev hv) hl
     obtain⟨E,h1,h2⟩:=hcs.put u Z
     have hxx:zd F x=.pointer (some ⟨q.2,off,none⟩):=by
      obtain⟨q',g1,g2⟩:=G.ev hx
      rw[B]at g1;cases g1
      exact(List.cons.inj g2).1
     have g:=aR hb.2
     have N:=(G.H.own _ (G.own j q _ B f g)).2.2.1
     have hlen:Nat.beq (yD (yp (zd F v)) 0) n=true:=by
      rw[yd,bK,u.len];exact hb.1
     obtain⟨L',G1⟩:=G.write hr (o':=.cells E tt) (b:=.cells c') B f g ⟨E,tt,rfl,h2⟩ (fun h=>nomatch h)
     obtain⟨e',G2,h3⟩:=G1.set (p:=.undef) (v:=undef) rfl h
     exact⟨j,off,q,cs,E,tt,n,(fun j' off' R=>by rw[hx]at R;cases R;rfl),B,⟨_,f⟩,g,hsz,hxx,hlen,u.plain,G.get B f,N,h1,e',G2.good,h3⟩
    ·cases h
   ·cases h
  ·cases h
 ·next j w i off pv hx hv=>
  split at h
  ·next t' w' τ ls l A hl=>
   split at h
   ·next n hsz X=>
    simp only[aG]at X
    obtain rfl:=aJ X.1
    have g:=aR X.2
    obtain⟨y0,hy0,h⟩:=zP h
    obtain⟨hi0,hi1,hi2⟩:=qF hy0
    split at h
    ·next c' Z hwn=>
     split at h
     ·next y hy=>
      rw[zJ]at A
      have K:j<Q.length:=by rw[←G.len];exact(aM.mp A).1
      obtain⟨q,B⟩:∃q,Q[j]? = some q:=⟨_,aE K⟩
      obtain⟨oj,f⟩:∃o,O[j]? = some o:=⟨_,aE (by rw[G.oq];exact K)⟩
      obtain⟨a,cap,hv',hc0,hn,hw,Y,hY1,J,S,hY4⟩:=G.obj j _ q oj A B f
      have u:=Ze (G.ev hv) hl
      have hrep:=hY4 _ _ hi2
      obtain⟨E,h1,h2⟩:=(vA (Q:=Q) hrep).put u Z
      have P:=kv h2 hy
      have hil:i.toNat<ls.length:=(aM.mp hi2).1
      have hxx:zd F x=.pointer (some ⟨q.2,i.toNat*w'+off,none⟩):=by
       obtain⟨q',g1,g2⟩:=G.ev hx
       rw[B]at g1;cases g1
       exact(List.cons.inj g2).1
      have hlen:Nat.beq (yD (yp (zd F v)) 0) n=true:=by
       rw[yd,bK,u.len];exact hwn
      have U:=K9 S (i:=i.toNat) Oz h1
      have hc2:E.length=w':=by rw[←hw];exact Rep.len P
      generalize hD:wl q.2 oj=D at J
      generalize hsl:(Value.slice a ls.length cap)=sl at J
      generalize hcc:Y.flatten=c at J U
      generalize hn':ls.length=n' at J
      cases J with
      |nil=>omega
      |block b' cap2 _ _ hl2 V=>
       cases hsl
       cases oj with
       |none=>cases hD
       |some o=>
        cases hD
        have N:=(G.H.own _ (G.own j q _ B f g)).2.2.1
        have hfl:(Y.set i.toNat E).flatten.length=c.length:=by
         rw[←hcc,qU S,qU (es:=Y.set i.toNat E) (sz:=w') (fun x hx=>(List.mem_or_eq_of_mem_set hx).elim (S x) fun e=>by rw[e];exact hc2),bP]
        obtain⟨L',G1⟩:=G.write hr (o':=.cells (Y.set i.toNat E).flatten t') (b:=.list t' w' τ (zE ls i.toNat y)) B f g
         ⟨_,cap,by rw[hv',yT,bP],(by rw[yT,bP];exact hc0),rfl,hw,Y.set i.toNat E,by rw[bP,yT,bP];exact hY1,by
          rw[yT,bP,hn']
          exact .block q.2 cap _ _ (by rw[hfl];exact hl2) V,fun x hx=>(List.mem_or_eq_of_mem_set hx).elim (S x) fun e=>by rw[e];exact hc2,fun k z hz=>by
          rw[yT,List.getElem?_set]at hz
          rw[aC,List.getElem?_set]
          by_cases hk:i.toNat=k
          ·subst hk
           rw[aF rfl,aF hil]at hz
           rw[aF rfl,aF Oz]
           cases hz;exact P
          ·rw[aD hk]at hz ⊢
           rw[←aC]
           exact hY4 k z hz⟩ (fun h=>nomatch h)
        obtain⟨e',G2,h3⟩:=G1.set (p:=.undef) (v:=undef) rfl h
        exact⟨j,i.toNat*w'+off,q,_,_,t',n,(fun j' off' R=>by rw[hx]at R;cases R),B,⟨_,f⟩,g,hsz,hxx,hlen,u.plain,G.get B f,N,U,e',G2.good,h3⟩
     ·cases h
    ·cases h
   ·cases h
  ·cases h
 ·cases h
theorem js_ok{W:Wd}{Q:Qs}:∀{js:List Nat} {cs:List Value},JsR Q js cs→LsR W Q (js.map (Lf.ptr · 0)) cs
 | [],_,h=>h
 |_::_,_,⟨q,c',h1,h2,a⟩=>⟨[_],c',h2,⟨q,h1,rfl⟩,js_ok a⟩
theorem js_w:∀js:List Nat,((js.map (Lf.ptr · 0)).all fun x=>Nat.beq x.w 1)=true
 | []=>rfl
 |_::js=>by simp only[List.map_cons,List.all_cons,js_w js,Bool.and_true];rfl
theorem Xg{c:List Value}:∀n,(List.replicate n c).flatten=kq c n
 |0=>rfl
 |n+1=>by rw[List.replicate_succ,cU,Xg n];rfl
theorem mk_ok(G:GX QL W s0 s C stk e F m Q O L Φ)(K:s0.next+m<zw){d:Option Nat}{t:TypeId}{l c:Operand}{k:En→Option ρ}{r:ρ}(h:v5 Γ T inl rc C e d (.makeSlice t l c) k=some r) :
 ∃s1 v,zh Tryz.prog (zd F) (.makeSlice t l c) s=.ok (.value v) s1∧∃j,k8 QL W s0 s1 C stk j (upd F d v) (m+1)∧k j=some r:=by
 unfold v5 at h
 simp only at h
 split at h
 ·next p sz τ z a b B hl hc=>
  obtain⟨by_,i,hs,u,hsz,J⟩:=Xu B
  have D:zd F l=.int .i64 a:=(List.cons.inj (show [zd F l]=_ from G.ev hl)).1
  have A:zd F c=.int .i64 b:=(List.cons.inj (show [zd F c]=_ from G.ev hc)).1
  split at h
  ·next y P=>
   split at h
   ·next q=>
    obtain⟨h0,rfl,h1⟩:=q
    obtain⟨n,rfl⟩:=Int.eq_ofNat_of_zero_le h0
    simp only[Int.toNat_natCast]at h
    have g:=kv (J W Φ Q) P
    have E:i.length=sz:=by rw[←hsz];exact Rep.len g
    have f:∀x∈List.replicate n i,x.length=sz:=fun x hx=>by rw[(List.mem_replicate.mp hx).2];exact E
    have how:OwnL (W.x Φ) p sz τ [(s.next,.cells (kq i n) p)] (some ⟨s.next,0,none⟩) (List.replicate n y).length (2*n) (List.replicate n y):=by
     refine⟨rfl,hsz,List.replicate n i,by simp,?_,f,fun k x hx=>?_⟩
     ·rw[Xg,dB]
      exact .block s.next (2*n) _ n (by rw[←Xg,qU f,dB]) Oz
     ·rw[List.getElem?_replicate]at hx
      split at hx
      ·next hk=>
       cases hx
       rw[aC,List.getElem?_replicate,aF hk]
       exact g
      ·cases hx
    obtain⟨j,M,N⟩:=G.newK K (o:=.cells (kq i n) p) (v:=.slice (some ⟨s.next,0,none⟩) (List.replicate n y).length (2*n)) (w:=.slice (some ⟨s.next,0,none⟩) n (2*n)) (b:=.list p sz τ (List.replicate n y)) (l:=.own)
     ⟨_,_,rfl,(fun h=>by rw[dB]at h;omega),how⟩ (fun h=>nomatch h) ⟨_,G.nth,by rw[dB],_,_,_,rfl⟩ h
    obtain⟨hu,inf,z',hi,rfl,rfl,R,_,_⟩:=yY hs
    refine⟨_,_,?_,j,M,N⟩
    have hb1:(Nat.ble n n&&Nat.ble (n*(inf.bytes+1)) 1073741824)=true:=by
     rw[aG]
     exact⟨aZ (aO _),aZ (bH (eE (show n≤65536 by omega) (Nat.succ_le_succ u)) Uz)⟩
    show qN Tryz.prog t (zd F l) (zd F c) s=_
    rw[D,A]
    show qN Tryz.prog t (.int .i64 (.ofNat n)) (.int .i64 (.ofNat n)) s=_
    simp only[qN,hu,hi,R,hb1,newK,G.H.room K]
    rfl
   ·cases h
  ·cases h
 ·cases h
theorem lput_same{α:Type}{l c:List α}(h:l.length=c.length):yO 0 l c=some l:=by
 have key:∀(l c:List α),l.length=c.length→xO l c=some l:=by
  intro l
  induction l with
  |nil=>intro c h;cases c with
   |nil=>rfl
   |cons _ _=>cases h
  |cons x l a=>intro c h;cases c with
   |nil=>cases h
   |cons y c=>simp only[xO,a c (by simpa using h)]
 exact key l c h
theorem copy_ok(G:GX QL W s0 s C stk e F m Q O L Φ)(hr:s0.next+m≤zw){d:Option Nat}{ag:Array Operand}{ts:Array TypeId}{k:En→Option ρ}{r:ρ}(h:v5 Γ T inl rc C e d (.call ⟨.builtin .copy,ag,ts⟩) k=some r) :
 ∃v s',zh Tryz.prog (zd F) (.call ⟨.builtin .copy,ag,ts⟩) s=.ok (.value v) s'∧∃e',k8 QL W s0 s' C stk e' (upd F d v) m∧k e'=some r:=by
 unfold v5 at h
 simp only at h
 split at h
 ·next t tr x y hts hag=>
  split at h
  ·next j t' w τ l2 el hx hy hu=>
   split at h
   ·next t2 w2 τ2 l inf K B P=>
    split at h
    ·next he=>
     obtain⟨rfl,rfl,rfl,hw⟩:=he
     split at h
     ·next S=>
      obtain⟨u,hpos⟩:=S
      simp only[aG]at B
      have n:=aR B.1
      have hw1:=aR B.2
      rw[zJ]at K
      have R:j<Q.length:=by rw[←G.len];exact(aM.mp K).1
      obtain⟨q,X⟩:∃q,Q[j]? = some q:=⟨_,aE R⟩
      obtain⟨oj,f⟩:∃o,O[j]? = some o:=⟨_,aE (by rw[G.oq];exact R)⟩
      obtain⟨a,cap,Z,hc0,hn,hw0,Y,hY1,g,hY3,hY4⟩:=G.obj j _ q oj K X f
      obtain⟨a2,cap2,Ls,e2,hS,J,hl⟩:=G.ev hy
      have hyv:=(List.cons.inj e2).1
      have hz:∀z∈Ls,z.length=w2:=fun z hz=>by
       obtain⟨i,hi,rfl⟩:=List.getElem_of_mem hz
       have:=hl i _ (aE (show i<l2.length by omega))
       rw[aC,aE hi,bL]at this
       rw[Rep.len this,hw0]
      have hel:=(G.see.kn.s _ _ _ _ hS).elems hz hw1
      have E:Ls.flatten.length=Y.flatten.length:=by rw[qU hz,qU hY3,hY1,J,u]
      generalize hD:wl q.2 oj=D at g
      generalize hsl:(Value.slice a l.length cap)=sl at g
      generalize hcc:Y.flatten=c at g E
      generalize hn':l.length=n' at g
      cases g with
      |nil=>omega
      |block b' cap3 _ _ hl3 A=>
       cases hsl
       cases oj with
       |none=>cases hD
       |some o=>
        cases hD
        have U:=(G.H.own _ (G.own j q _ X f n)).2.2.1
        have N:=G.get X f
        obtain⟨L',G1⟩:=G.write hr (o':=.cells Ls.flatten t2) (b:=.list t2 w2 τ2 l2) X f n
         ⟨_,cap,by rw[Z,u],(by rw[←u];exact hc0),rfl,hw0,Ls,J,by
          rw[←u,hn']
          exact .block q.2 cap _ _ (by rw[E];exact hl3) A,hz,hl⟩ (fun h=>nomatch h)
        obtain⟨e',G2,h3⟩:=G1.set (p:=.one (.int .i64 l2.length)) (v:=.int .i64 l2.length) rfl h
        refine⟨_,_,?_,e',G2.good,h3⟩
        have hxx:zd F x=.slice (some ⟨q.2,0,none⟩) l.length cap:=by
         obtain⟨q',g1,g2⟩:=G.ev hx
         rw[X]at g1;cases g1
         rw[(List.cons.inj g2.1).1,Z]
        have hpl:Ls.flatten.all Go.M.plainCell=true:=by
         rw[List.all_flatten,List.all_eq_true]
         intro z hz'
         obtain⟨i,hi,rfl⟩:=List.getElem_of_mem hz'
         have:=hl i _ (aE (show i<l2.length by omega))
         rw[aC,aE hi,bL]at this
         exact Rep.plain this
        have hst:xy q.2 0 Ls.flatten s=.ok .skip (s.put q.2 (some (.cells Ls.flatten t2))):=by
         simp only[xy,N,hpl,U,lput_same E]
         rfl
        have V:Nat.min l2.length l.length=l2.length:=by rw[u];exact Nat.min_self _
        have hf:xQ inf.size l2.length (zd F y) s=some Ls.flatten:=by rw[hw,←J,hyv];exact hel.2
        have hlv:zct (zd F y)=some l2.length:=by rw[hyv];rfl
        simp only[zh,xp,hts,hag,qB,Qf,hxx,hu,P,hlv,V,hf,hst]
        rfl
     ·cases h
    ·cases h
   ·cases h
  ·cases h
 ·cases h
theorem zeV(hI:zH I)(hT:Qz I T)(E:Qi I W s0 inl rc)(G:GX QL W s0 s C stk e F m Q O L Φ){d:Option Nat}{o:Op}{k:En→Option ρ}{r:ρ}{P:FF→St→Prop}{ty:TypeId}{pos:String}{af:Array Edge}{g:Option (Nat×Bool)}
 (h:v5 Γ T inl rc C e d o k=some r) (S:s0.next+(m+qQ T rc o)≤zw) (hk:∀u F' s' m',m'≤m+qQ T rc o→k8 QL W s0 s' C stk u F' m'→k u=some r→P F' s'):OpW Tryz.prog I ⟨d,o,ty,pos,af,g⟩ F s P:=by
 have D:∀{o':Op},o'=o→KF Γ C e o' (fun v=>e.set C d v k)=some r→OpW Tryz.prog I ⟨d,o,ty,pos,af,g⟩ F s P:=fun{o'} ho hp=>by
  subst ho
  obtain⟨p,v,h1,h2,M⟩:=J0 G.see (s':=s) (fun _ _ _ _ _ _=>rfl) hp
  obtain⟨u,G1,h4⟩:=G.set h2 M
  exact zA h1 (hk u _ s m Oz G1.good h4)
 cases hn:newOp o with
 |true=>
  have hroom:qQ T rc o=1:=by cases o<;>first|rfl|cases hn
  obtain⟨ob,v,hs,_,u,G1,h1⟩:=new_ok G hn Oz h
  exact zA (hs s rfl) (hk u _ _ (m+1) Oz G1 h1)
 |false=>
 cases hs:zec o with
 |true=>
  obtain⟨v,g1,u,G1,h1⟩:=QF G hs h
  exact zA (g1 s fun _ _ _ _ _ _ _ _ _ _=>rfl) (hk u _ _ m Oz G1 h1)
 |false=>
 by_cases V:∃t l c,o=.makeSlice t l c
 ·obtain⟨t,l,c,rfl⟩:=V
  obtain⟨s1,v,h1,u,G1,h2⟩:=mk_ok G (bJ (Nat.lt_succ_self (s0.next+m)) S) h
  exact zA h1 (hk u _ s1 (m+1) (aO (m+1)) G1 h2)
 by_cases U:∃ag ts,o=.call ⟨.builtin .copy,ag,ts⟩
 ·obtain⟨ag,ts,rfl⟩:=U
  obtain⟨v,s',h1,u,G1,h2⟩:=copy_ok G Oz h
  exact zA h1 (hk u _ s' m Oz G1 h2)
 by_cases X:∃t x hi mx,o=.slice t x none (some hi) (some mx)
 ·obtain⟨t,x,hi,mx,rfl⟩:=X
  obtain⟨v,h1,u,G1,h2⟩:=mx_ok G h
  exact zA h1 (hk u _ s m Oz G1 h2)
 unfold v5 at h
 split at h
 ·next t x v=>
  obtain⟨j,off,q,c,c2,tt,n,hx,hq,ho,hj,hsz,hxx,hlen,hp,hg,hm,hc,u,G2,M⟩:=zbu (Γ:=Γ) (T:=T) (inl:=inl) (rc:=rc) (d:=d) (t:=t) (x:=x) (v:=v) G Oz (by unfold v5;exact h)
  exact wT (kg hsz hxx rfl hlen hp hg hm hc) (hk u _ _ m Oz G2 M)
 ·cases hn
 ·cases hn
 ·cases hn
 ·next t l c=>exact(V ⟨t,l,c,rfl⟩).elim
 ·cases hs
 ·next t x hi mx=>exact(X ⟨t,x,hi,mx,rfl⟩).elim
 ·-- call
  next c=>
  obtain⟨callee,ag,ts⟩:=c
  simp only at h
  split at h
  ·next f=>
   split at h
   ·next K hf=>
    split at h
    ·next hb=>
     simp only[aG,bC]at hb
     have i:zd F f=.func (.func K) #[] #[]:=(List.cons.inj (show [zd F f]=_ from G.ev hf)).1
     refine ym (args:=⟨qB (zd F) ag.toList++[]⟩) i hb.1 rfl ?_ hb.2
     refine VH (caps:=[]) (cs:=[]) (R:=qQ T rc (.call ⟨.value f,ag,ts⟩)) hI hT E G hb.2 rfl rfl h ?_ ?_ S hk
     ·intro con A w
      cases f with
      |func g2=>
       have:g2=K:=by
        have:zd F (.func g2)=.func (.func g2) #[] #[]:=rfl
        rw[this]at i;cases i;rfl
       subst this
       simp only[qQ,A,aO]
      |_=>cases w
     ·intro hor
      cases f with
      |func g2=>
       have:g2=K:=by
        have:zd F (.func g2)=.func (.func g2) #[] #[]:=rfl
        rw[this]at i;cases i;rfl
       subst this
       rcases hor with hn|w
       ·simp only[qQ,hn,aO]
       ·cases w
      |_=>exact aO _
    ·cases h
   ·next K caps hf=>
    split at h
    ·next hb=>
     simp only[aG,bC]at hb
     obtain⟨cs,i,H⟩:=G.ev hf
     have B:∀g2,f≠.func g2:=fun g2 e=>by
      subst e;simp only[En.ev,bF]at hf;cases hf
     refine ym i hb.1.1 (by rfl) ?_ hb.1.2
     refine VH (R:=qQ T rc (.call ⟨.value f,ag,ts⟩)) hI hT E G hb.1.2 H hb.2 h ?_ ?_ S hk
     ·intro con A w;cases w
     ·intro _
      cases f with
      |func g2=>exact(B g2 rfl).elim
      |_=>exact aO _
    ·cases h
   ·next K js hf=>
    split at h
    ·next hb=>
     simp only[aG,bC]at hb
     obtain⟨cs,i,H⟩:=G.ev hf
     have i:=(List.cons.inj i).1
     have B:∀g2,f≠.func g2:=fun g2 e=>by
      subst e;simp only[En.ev,bF]at hf;cases hf
     refine ym i hb.1 (by rfl) ?_ hb.2
     refine VH (R:=qQ T rc (.call ⟨.value f,ag,ts⟩)) hI hT E G hb.2 (js_ok H) (js_w js) h ?_ ?_ S hk
     ·intro con A w;cases w
     ·intro _
      cases f with
      |func g2=>exact(B g2 rfl).elim
      |_=>exact aO _
    ·cases h
   ·next j hf=>
    split at h
    ·next ps N sl pars x y Y hob=>
     split at h
     ·next hlen=>
      obtain⟨q,hq,i⟩:=G.ev hf
      have i:=(List.cons.inj i).1
      have B:∀g2,f≠.func g2:=fun g2 e=>by
       subst e;simp only[En.ev,bF]at hf;cases hf
      have hrc:rc≤qQ T rc (.call ⟨.value f,ag,ts⟩):=by
       cases f with
       |func g2=>exact(B g2 rfl).elim
       |_=>exact aO _
      obtain⟨q',o,Z,ho,hcode,fr,F0,rfl,ha,hs'⟩:=G.at hob
      rw[hq]at Z;cases Z
      have hpl:=(G.evs Y).len
      refine op_yield i (G.get hq ho) rfl (by rw[yd,bK,hpl,←bK ps.length,←yd];exact hlen) ?_
      rw[←zbJ hq]
      refine E h (G.enter F) rfl (G.evs Y) Oz ?_
      intro p v o' s' m' Q' O' L' Φ' hm' G' hp J
      split at J
      ·next hc=>
       have G2:=G.exit (F'':=F) G' hc
       obtain⟨u,G3,M⟩:=G2.set hp J
       exact hk u _ s' m' Oz G3.good M
      ·cases J
     ·cases h
    ·cases h
   ·cases h
  ·split at h
   ·next t t2 tr x y hts z=>
    split at h
    ·next el2 px py hu2 hx hy=>
     exact appK_ok G hts z hu2 hx hy h (by simpa only[qQ]using S) (by simpa only[qQ]using hk)
    ·cases h
   ·cases h
  ·exact(U ⟨_,_,rfl⟩).elim
  ·split at h
   ·next x y z=>
    split at h
    ·next a b hx hy=>
     obtain⟨u,G1,h1⟩:=G.set (p:=.one (.int .i64 (min a b))) (v:=.int .i64 (min a b)) rfl h
     exact op_min z (List.cons.inj (show [zd F x]=_ from G.ev hx)).1 (List.cons.inj (show [zd F y]=_ from G.ev hy)).1 (hk u _ s m Oz G1.good h1)
    ·cases h
   ·cases h
  ·split at h
   ·next x y z=>
    split at h
    ·next a b hx hy=>
     obtain⟨u,G1,h1⟩:=G.set (p:=.one (.int .i64 (max a b))) (v:=.int .i64 (max a b)) rfl h
     exact op_max z (List.cons.inj (show [zd F x]=_ from G.ev hx)).1 (List.cons.inj (show [zd F y]=_ from G.ev hy)).1 (hk u _ s m Oz G1.good h1)
    ·cases h
   ·cases h
  ·exact D rfl h
 ·exact D rfl h
end
section
variable{I:zU}{Γ:TypeId→Option Ty}{T:FuncId→Option Con}{ρ:Type}{inl:Inl ρ}{rc:Nat}{W:Wd}{s0 s:St}{C:Cx}{QL:Qs}{stk:List Fra}{e:En}{F:FF}{m:Nat}{Q:Qs}{O:List (Option MObj)}{L Φ:Hp'}
theorem zfP(G:GX QL W s0 s C stk e F m Q O L Φ){ops:List Oper}{o:Oper}{run skip:En→Option ρ}{r:ρ}(h:zfQ C ops e o run skip=some r) :
 ∃c,GX QL W s0 s C stk c F m Q O L Φ∧((yi ops F o=true∧run c=some r)∨(yi ops F o=false∧skip c=some r)):=by
 unfold zfQ at h
 unfold yi
 split at h
 ·next hg=>rw[hg];exact⟨e,G,.inl ⟨rfl,h⟩⟩
 ·next j w hg=>
  rw[hg]
  simp only
  split at h
  ·next q i=>
   rw[i]
   simp only
   split at h
   ·next d hd=>
    rw[hd]
    simp only
    split at h
    ·next b hb=>
     have hv:F d=.bool b:=by
      have:=G.ev (x:=.tmp d) hb
      exact(List.cons.inj (show [F d]=[Value.bool b]from this)).1
     rw[hv]
     simp only
     split at h
     ·next g=>
      subst g
      have a:=G.mark (x:=.tmp d) hb
      cases w with
      |true=>exact⟨_,a,.inl ⟨rfl,h⟩⟩
      |false=>exact⟨_,a,.inr ⟨rfl,h⟩⟩
     ·next f=>
      obtain rfl:b=false:=by simpa using f
      have a:=G.mark (x:=.tmp d) hb
      cases w with
      |true=>exact⟨_,a,.inr ⟨rfl,h⟩⟩
      |false=>exact⟨_,a,.inl ⟨rfl,h⟩⟩
    ·next hb=>
     have hv:F d=undef:=G.ev (x:=.tmp d) hb
     rw[hv]
     exact⟨e,G,.inr ⟨rfl,h⟩⟩
    ·cases h
   ·next hd=>rw[hd];exact⟨e,G,.inr ⟨rfl,h⟩⟩
  ·next i=>rw[i];exact⟨e,G,.inr ⟨rfl,h⟩⟩
theorem zem(q:zH I)(t:Qz I T)(b:Qi I W s0 inl rc){ops:List Oper}{k:En→Option ρ}{r:ρ}{P:FF→St→Prop}:∀{l:List Oper} {s:St} {e:En} {F:FF} {m:Nat},k8 QL W s0 s C stk e F m→opsK Γ T inl rc C ops l e k=some r→s0.next+(m+zbI T rc l)≤zw →
 (∀j g s' w,w≤m+zbI T rc l→k8 QL W s0 s' C stk j g w→k j=some r→P g s')→OpsW Tryz.prog I ops l F s P
 | [],s,e,F,m,G,h,x,hk=>hk e F s m (Nat.le_add_right ..) G h
 |o::l,s,e,F,m,⟨Q,O,L,Φ,G⟩,h,x,hk=>by
  simp only[zbI]at x hk
  unfold opsK at h
  obtain⟨e1,G1,y⟩:=zfP G h
  rcases y with⟨u,h⟩|⟨u,h⟩
  ·refine zZ u (zeV (o:=o.op) q t b G1 h Oz ?_)
   intro j g s' w hm G2 h2
   exact zem q t b G2 h2 Oz fun a F'' d c f i n=>hk a F'' d c Oz i n
  ·refine xE u ?_
   obtain⟨e2,G2,h2⟩:=G1.set (p:=.undef) (v:=undef) rfl h
   exact zem q t b G2.good h2 Oz fun a F'' d c f i n=>hk a F'' d c Oz i n
theorem KG(G:GX QL W s0 s C stk e F m Q O L Φ){p:Option Pv}{v:Value}(hp:∀x,p=some x→PvR (W.x Φ) Q x v)(h:KH C e p=true):(∀a,v=.pointer (some a)→a.block<s.next)∧∀a n c,v=.slice (some a) n c→a.block<s.next:=by
 unfold KH at h
 split at h
 ·next j off=>
  obtain⟨q,u,hv⟩:=hp _ rfl
  have hv:=(List.cons.inj hv).1
  split at h
  ·next l ho=>
   obtain⟨H,o,f,k,c,t,rfl,_⟩:=G.at ho
   rw[u]at f;cases f
   refine⟨fun a ha=>?_,fun a n c ha=>?_⟩
   ·rw[hv]at ha;cases ha;exact G.lt u k
   ·rw[hv]at ha;cases ha
  ·cases h
 ·next j=>
  obtain⟨q,u,hv,_⟩:=hp _ rfl
  have hv:=(List.cons.inj hv).1
  split at h
  ·next t w τ l ho=>
   obtain⟨H,o,f,k,a,cap,y,_,_,_,Y,_,d,_⟩:=G.at ho
   rw[u]at f;cases f
   refine⟨fun a ha=>?_,fun a n c ha=>?_⟩
   ·rw[hv,y]at ha;cases ha
   ·rw[hv,y]at ha
    cases ha
    generalize B:wl q.2 o=D at d
    generalize r:(Value.slice (some a) l.length cap)=sl at d
    generalize Y.flatten=c at d
    generalize l.length=n at d r
    cases d with
    |nil=>cases r
    |block b cap' _ _ hl hcap=>
     cases r
     cases o with
     |none=>cases B
     |some o=>cases B;exact G.lt u k
  ·cases h
 ·next pv h1 h2=>
  have hp:=hp _ rfl
  cases pv with
  |undef=>rw[show v=undef from hp];exact⟨(fun _ h=>nomatch h),(fun _ _ _ h=>nomatch h)⟩
  |any=>cases h
  |agg=>obtain⟨c,rfl,_⟩:=hp;exact⟨(fun _ h=>nomatch h),(fun _ _ _ h=>nomatch h)⟩
  |tup=>obtain⟨c,rfl,_⟩:=hp;exact⟨(fun _ h=>nomatch h),(fun _ _ _ h=>nomatch h)⟩
  |clo=>obtain⟨c,rfl,_⟩:=hp;exact⟨(fun _ h=>nomatch h),(fun _ _ _ h=>nomatch h)⟩
  |one x=>
   cases x with
   |int=>rw[(List.cons.inj (show [v]=_ from hp)).1];exact⟨(fun _ h=>nomatch h),(fun _ _ _ h=>nomatch h)⟩
   |bool=>rw[(List.cons.inj (show [v]=_ from hp)).1];exact⟨(fun _ h=>nomatch h),(fun _ _ _ h=>nomatch h)⟩
   |nil=>rw[(List.cons.inj (show [v]=_ from hp)).1];exact⟨(fun _ h=>nomatch h),(fun _ _ _ h=>nomatch h)⟩
   |nilf=>rw[(List.cons.inj (show [v]=_ from hp)).1];exact⟨(fun _ h=>nomatch h),(fun _ _ _ h=>nomatch h)⟩
   |fn=>rw[(List.cons.inj (show [v]=_ from hp)).1];exact⟨(fun _ h=>nomatch h),(fun _ _ _ h=>nomatch h)⟩
   |nilp=>rw[(List.cons.inj (show [v]=_ from hp)).1];exact⟨(fun _ h=>nomatch h),(fun _ _ _ h=>nomatch h)⟩
   |cl=>obtain⟨cs,e1,_⟩:=hp;rw[(List.cons.inj e1).1];exact⟨(fun _ h=>nomatch h),(fun _ _ _ h=>nomatch h)⟩
   |yl=>obtain⟨q,_,e1⟩:=hp;rw[(List.cons.inj e1).1];exact⟨(fun _ h=>nomatch h),(fun _ _ _ h=>nomatch h)⟩
   |sp=>cases h
   |unk=>cases h
   |asl=>cases h
   |rat=>have e1:=RatC.len hp;cases e1
   |own j=>exact(h2 _ rfl).elim
   |ptr j off=>exact(h1 _ _ rfl).elim
   |op j w i off=>cases h
   |ep t w τ x off=>
    obtain⟨b,o,n,cap,E,kk,z,hk,hR,hv⟩:=hp
    have hv:=(List.cons.inj hv).1
    refine⟨fun a ha=>?_,fun a n c ha=>by rw[hv]at ha;cases ha⟩
    rw[hv]at ha;cases ha
    have:=G.see.kn.s _ _ _ _ z
    cases this with
    |nil c hv hl=>cases hv
    |block b' off' cap' c hv A g hcap hc=>cases hv;exact g
   |sl t w τ l=>
    obtain⟨a',cap,E,e1,z,_⟩:=hp
    have hv:=(List.cons.inj e1).1
    refine⟨fun a ha=>(by rw[hv]at ha;cases ha),fun a n c ha=>?_⟩
    rw[hv]at ha;cases ha
    have:=G.see.kn.s _ _ _ _ z
    cases this with
    |nil c hv hl=>cases hv
    |block b' off' cap' c hv A g hcap hc=>
     simp only[Value.slice.injEq,bF]at hv
     rw[hv.1];exact g
 ·cases h
def FreeI(C:Cx)(ops:List Oper)(e:En)(fr:List Nat):Prop:=∀i o t x j w n off,i∈fr→zF ops i=some o→o.op=.load t x→e.ev C x=some (.one (.op j w n off))→∃t' w' τ,∃(l:List τ.T) (y:τ.T),e.obj C j=some (.list t' w' τ l)∧idx l n=some y
theorem FreeI.tail{C:Cx}{ops:List Oper}{e:En}{i:Nat}{fr:List Nat}(h:FreeI C ops e (i::fr)):FreeI C ops e fr:=fun i o t x j w n off hi=>h i o t x j w n off (aN _ hi)
theorem YJ{ops:List Oper}:∀{fr:List Nat} {k:Unit→Option ρ} {r:ρ},YK C ops e fr k=some r→k ()=some r∧FreeI C ops e fr
 | [],k,r,h=>⟨h,fun i o t x j w n off hi=>by cases hi⟩
 |i::fr,k,r,h=>by
  have other:YK C ops e fr k=some r→(∀o t x j w n off,zF ops i=some o→o.op=.load t x→e.ev C x=some (.one (.op j w n off))→False)→k ()=some r∧FreeI C ops e (i::fr):=fun h hn=>by
   obtain⟨h1,h2⟩:=YJ h
   refine⟨h1,fun v o t x j w n off hi ho f hx=>?_⟩
   rcases aL.mp hi with rfl|hi
   ·exact(hn o t x j w n off ho f hx).elim
   ·exact h2 v o t x j w n off hi ho f hx
  simp only[YK]at h
  split at h
  ·next o ho=>
   split at h
   ·next t x f=>
    split at h
    ·next j w n off hx=>
     split at h
     ·next t' w' τ l u=>
      obtain⟨y,z,h⟩:=zP h
      obtain⟨h1,h2⟩:=YJ h
      refine⟨h1,fun v o' t2 x2 g q p off2 hi b a c=>?_⟩
      rcases aL.mp hi with rfl|hi
      ·rw[ho]at b;cases b
       rw[f]at a;cases a
       rw[hx]at c;cases c
       exact⟨_,_,_,_,_,u,z⟩
      ·exact h2 v o' t2 x2 g q p off2 hi b a c
     ·cases h
    ·next d=>
     refine other h ?_
     intro o' t2 x2 g q p off2 b a c
     rw[ho]at b;cases b
     rw[f]at a;cases a
     exact d _ _ _ _ c
   ·next d=>
    refine other h ?_
    intro o' t2 x2 g q p off2 b a c
    rw[ho]at b;cases b
    exact d _ _ a
  ·next d=>
   refine other h ?_
   intro o' t2 x2 g q p off2 b a c
   rw[d]at b;cases b
theorem op_blk(G:GX QL W s0 s C stk e F m Q O L Φ){j w off:Nat}{n:Int}{v:Value}{t' w':Nat}{τ:Ty}{l:List τ.T}{y:τ.T}(hv:PvR (W.x Φ) Q (.one (.op j w n off)) v)(i:e.obj C j=some (.list t' w' τ l))(hi:idx l n=some y) :
 ∃q o,Q[j]? = some q∧O[j]? = some (some o)∧v=.pointer (some ⟨q.2,n.toNat*w+off,none⟩):=by
 obtain⟨q,p,f⟩:=hv
 have f:=(List.cons.inj f).1
 obtain⟨q',o,g,ho,a,cap,hv',_,_,_,Y,_,d,_⟩:=G.at i
 rw[p]at g;cases g
 obtain⟨hi0,hi1,h⟩:=qF hi
 have hl:=(aM.mp h).1
 generalize r:wl q.2 o=D at d
 generalize k:(Value.slice a l.length cap)=sl at d
 generalize Y.flatten=c at d
 generalize hn:l.length=n' at d k
 cases d with
 |nil=>omega
 |block b cap' _ _ hl hcap=>
  cases o with
  |none=>cases r
  |some o=>exact⟨q,o,p,ho,f⟩
theorem zaw(G:GX QL W s0 s C stk e F m Q O L Φ){ops:List Oper}:∀{fr:List Nat},Vk C ops e fr=true→FreeI C ops e fr→∀p,p∈yf ops F fr→p<s.next
 | [],_,_,p,hp=>by cases hp
 |i::r,h,v,p,hp=>by
  simp only[Vk,aG]at h
  obtain⟨h1,h2⟩:=h
  have u:=zaw G (ops:=ops) h2 v.tail
  simp only[yf]at hp
  split at hp
  ·next o ho=>
   simp only[ho]at h1
   split at hp
   ·next b hb=>
    rcases aL.mp hp with rfl|hp
    ·unfold yx at hb
     split at hb
     ·next t x c=>
      simp only[c,dA]at h1
      split at hb
      ·next a ha=>
       cases hb
       rcases h1 with h1|h1
       ·unfold opB at h1
        split at h1
        ·next j w n off hx=>
         obtain⟨t',w',τ,l,y,g,hi⟩:=v i o t x j w n off (aP ..) ho c hx
         obtain⟨q,oo,z,k,hv⟩:=op_blk G (G.ev hx) g hi
         rw[hv]at ha;cases ha
         exact G.lt z k
        ·cases h1
       ·exact(KG G (fun y f=>G.ev f) h1).1 _ ha
      ·cases hb
     ·next t x lo hi c=>
      simp only[c]at h1
      split at hb
      ·next a _ _ ha=>cases hb;exact(KG G (fun y f=>G.ev f) h1).2 _ _ _ ha
      ·next a ha=>cases hb;exact(KG G (fun y f=>G.ev f) h1).1 _ ha
      ·cases hb
     ·next t c=>
      simp only[c]at h1
      split at hb
      ·next d hd=>
       simp only[hd]at h1
       split at hb
       ·next a ha=>cases hb;exact(KG G (fun y f=>G.ev (x:=.tmp d) f) h1).1 _ ha
       ·cases hb
      ·cases hb
     ·next t n ps c=>
      simp only[c]at h1
      split at hb
      ·next d hd=>
       simp only[hd]at h1
       split at hb
       ·next a _ _ ha=>cases hb;exact(KG G (fun y f=>G.ev (x:=.tmp d) f) h1).2 _ _ _ ha
       ·cases hb
      ·cases hb
     ·cases hb
    ·exact u p hp
   ·exact u p hp
  ·exact u p hp
end
end Go.Proofs.YtocnbjjmmgolfaaGreat
