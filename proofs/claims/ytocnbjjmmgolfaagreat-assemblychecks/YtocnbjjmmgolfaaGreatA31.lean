/- The evaluator: operations one after another. -/
/- The evaluator: regions. -/
import Derived.Test.YtocnbjjmmgolfaaGreatA30
namespace Go.Proofs.YtocnbjjmmgolfaaGreat
open Go Go.M Go.Proofs.C14
theorem zall_ok{τ:Option Ty}{c:List Value}{l:List Lf}{W:Wd}{D:Hp'}{Q:Qs}(h:zallK τ c=some l):LsR (W.x D) Q l c:=by
  unfold zallK at h
  split at h
  · exact zleaves_ok h
  · unfold zfun at h
    split at h<;>cases h
    exact LsR.one rfl
section
variable{I:zT}{Γ:TypeId→Option Ty}{T:FuncId→Option Con}{ρ:Type}{inl:Inl ρ}{rc:Nat}{W:Wd}{s0 s:St}{C:Cx}{QL:Qs}{stk:List Fra}{e:En}{F:FF}{m:Nat}{Q:Qs}{O:List (Option MObj)}{L Φ:Hp'}
theorem new_ok(G:GX QL W s0 s C stk e F m Q O L Φ){d:Option Nat}{o:Op}{k:En→Option ρ}{r:ρ}(hn:newOp o=true)(hr:s0.next+m<z3)(h:effK Γ T inl rc C e d o k=some r) :
    ∃ob v,(∀s1:St,s1.next=s.next→zh Tryz.prog (ze F) o s1=.ok (.value v) (s1.new ob))∧((v=.pointer (some ⟨s.next,0,none⟩)∧bsOp o=false)∨(bsOp o=true∧∃n c,v=.slice (some ⟨s.next,0,none⟩) n c))∧∃e',qb QL W s0 (s.new ob) C stk e' (upd F d v) (m+1)∧k e'=some r:=by
  unfold effK at h
  split at h
  · cases hn
  · -- box
    next t x=>
    split at h
    · next v hv=>
      split at h
      · next l hl=>
        have hls:=leaves_ok (G.ev hv) hl
        obtain⟨e',G1,h1⟩:=G.newK hr (o:=.cells (yk (ze F x)) t) (v:=undef) (w:=.pointer (some ⟨s.next,0,none⟩)) (b:=.cells l) (l:=(.ptr · 0)) ⟨_,_,rfl,hls.mono WLe.rfl QLe.app⟩ (fun h=>nomatch h) ⟨_,G.nth,rfl⟩ h
        refine⟨_,_,fun s1 hs1=>?_,.inl ⟨rfl,rfl⟩,e',G1,h1⟩
        have hroom:s1.room=true:=by rw[St.room,hs1];exact G.H.room hr
        simp only[zh,boxM,hroom,hs1]
        rfl
      · cases h
    · cases h
  · -- alloc
    next t=>
    split at h
    · next c hz=>
      split at h
      · next l hl=>
        have hls:=zall_ok (W:=W) (D:=Φ) (Q:=Q) hl
        obtain⟨e',G1,h1⟩:=G.newK hr (o:=.cells c t) (v:=undef) (w:=.pointer (some ⟨s.next,0,none⟩)) (b:=.cells l) (l:=(.ptr · 0)) ⟨_,_,rfl,hls.mono WLe.rfl QLe.app⟩ (fun h=>nomatch h) ⟨_,G.nth,rfl⟩ h
        refine⟨_,_,fun s1 hs1=>?_,.inl ⟨rfl,rfl⟩,e',G1,h1⟩
        have hroom:s1.room=true:=by rw[St.room,hs1];exact G.H.room hr
        simp only[zeroF]at hz
        split at hz
        · next i hb hi=>
          split at hz
          · next z hz2=>
            cases hz
            simp only[zh,hb,guarded,allocM,hi,hz2,boxM,hroom,hs1]
            rfl
          · cases hz
        · cases hz
      · cases h
    · cases h
  · -- buildSlice
    next t n parts=>
    split at h
    · next el sz τ z ps hel hps=>
      obtain⟨by_,zc,hs,hby,hsz,hzl⟩:=elK_ok hel
      split at h
      · next e0 he0=>
       obtain⟨O,Φ,G⟩:=G.frzP he0
       split at h
       · next c hble hc=>
         split at h
         · next xs hxs=>
           obtain⟨c',h1,h2⟩:=fill_ok (fun x p=>G.ev (x:=x) (p:=p)) (rep_ok (hzl W Φ Q) n) hc
           obtain⟨Y,e1,e2,e3,e4,e5⟩:=readN_ok h2 hxs
           have hcl:n*sz=c'.length:=by rw[←e1,xy (fun y hy=>by rw[e4 y hy,hsz]),e2]
           have how:OwnL (W.x Φ) el sz τ [(s.next,.cells c' el)] (some ⟨s.next,0,none⟩) xs.length (2*n) xs:=by
             refine⟨rfl,hsz,Y,by rw[e2,e3],?_,fun y hy=>by rw[e4 y hy,hsz],e5⟩
             rw[e1,e3]
             exact .block s.next (2*n) c' n hcl Oz
           obtain⟨e',G1,h3⟩:=G.newK hr (o:=.cells c' el) (v:=.slice (some ⟨s.next,0,none⟩) xs.length (2*n)) (w:=.slice (some ⟨s.next,0,none⟩) xs.length (2*n)) (b:=.list el sz τ xs) (l:=.own) ⟨_,_,rfl,(fun h=>by rw[e3]at h;omega),how⟩ (fun h=>nomatch h) ⟨_,G.nth,rfl,_,_,_,rfl⟩ h
           obtain⟨hu,inf,z',hi,rfl,_,hz,_,_⟩:=yL hs
           refine⟨_,_,fun s1 hs1=>?_,.inr ⟨rfl,_,_,rfl⟩,e',G1,h3⟩
           have hroom:s1.room=true:=by rw[St.room,hs1];exact G.H.room hr
           simp only[zh,xE,hu,hi,hz,hble,h1,newK,hroom,e3,hs1]
           rfl
         · cases h
       · cases h
      · cases h
    · cases h
  · cases hn
  · cases hn
  · cases hn
  · cases hn
  · next h1 h2 h3 h4 h5 h6 h7 h8=>cases o<;>first|(cases hn;done)|exact(h2 _ _ rfl).elim|exact(h3 _ rfl).elim|exact(h4 _ _ _ rfl).elim
theorem bnd_ok(G:GX QL W s0 s C stk e F m Q O L Φ){i a:Int}{n:Nat}{o:Option Operand}(h:bndK C e i o=some a)(hi:i=n)(ha:0≤a):yR (o.map (ze F)) n=some a.toNat:=by
  unfold bndK at h
  split at h
  · cases h;subst hi;rfl
  · next x=>
    split at h
    · next kd j hj=>
      cases h
      have:=(List.cons.inj (show [ze F x]=_ from G.ev hj)).1
      obtain⟨b,rfl⟩:=Int.eq_ofNat_of_zero_le ha
      rw[Option.map_some,this]
      rfl
    · cases h
theorem stay_ok(G:GX QL W s0 s C stk e F m Q O L Φ){d:Option Nat}{o:Op}{k:En→Option ρ}{r:ρ}(hn:slOp o=true)(h:effK Γ T inl rc C e d o k=some r) :
    ∃v,(∀s1:St,(∀t x lo hi,o=.slice t x lo hi none→∀a n c,ze F x=.slice (some a) n c→a.block<s.next→s1.get a.block=s.get a.block)→zh Tryz.prog (ze F) o s1=.ok (.value v) s1)∧∃e',qb QL W s0 s C stk e' (upd F d v) m∧k e'=some r:=by
  unfold slOp at hn
  split at hn
  · next t x lo hi=>
    unfold effK at h
    simp only at h
    split at h
    · next p hp=>
      cases hasl:aslB p lo hi
      case true=>
        rw[hasl]at h
        simp only at h
        obtain⟨v,hv,h⟩:=yc h
        unfold aslK at hv
        split at hv
        · next j n el hu=>
          split at hv
          · next hinf=>
            cases hv
            obtain⟨inf,hinf⟩:=Option.isSome_iff_exists.mp hinf
            unfold aslB at hasl
            split at hasl
            · obtain⟨q,hq,hx⟩:=G.ev hp
              have hx:=(List.cons.inj hx).1
              obtain⟨e',G2,h4⟩:=G.set (p:=.one (.asl j n)) (v:=.slice (some ⟨q.2,0,none⟩) n (2*n)) ⟨q,hq,rfl⟩ h
              refine⟨_,fun s1 hs1=>?_,e',G2.good,h4⟩
              have hadd:(Addr.mk q.2 0 none).add (0*inf.size)=⟨q.2,0,none⟩:=by
                rw[Nat.zero_mul]
                unfold Addr.add
                split
                · rfl
                · next h=>exact(h rfl).elim
              have h0l:Nat.ble 0 n=true:=Nat.ble_eq_true_of_le (Nat.zero_le _)
              have hbl:Nat.ble n n=true:=Nat.ble_eq_true_of_le (Nat.le_refl _)
              simp only[zh,xa,hu,hinf,hx,y9,Option.map_none,yR,h0l,hbl,Option.map_some,hadd,Bool.true_or,Bool.true_and,Option.isSome_none,Bool.not_false,Bool.or_true,Nat.sub_zero,ite_self]
              rfl
            · cases hasl
          · cases hv
        · cases hv
      rw[hasl]at h
      simp only at h
      split at h
      · next e1 he1=>
        obtain⟨O1,Φ1,G1⟩:=G.frzP he1
        split at h
        · next t' w τ l el hx hu=>
          split at h
          · next a b inf hla hhb hinf=>
            split at h
            · next hck=>
              simp only[Bool.and_eq_true]at hck
              have hw:=Nat.eq_of_beq_eq_true hck.1
              have ht:=Nat.eq_of_beq_eq_true hck.2
              subst hw ht
              obtain⟨y,hy,h⟩:=zA h
              unfold xq at hy
              split at hy
              · next hc=>
                cases hy
                obtain⟨h0,h1,h2,h3⟩:=hc
                obtain⟨a',cap,Ls,e2,hS,hn2,hl⟩:=G1.ev hx
                have hxv:=(List.cons.inj e2).1
                have hsl:=G1.see.kn.s _ _ _ _ hS
                cases hsl with
                |nil c hv hl0=>rw[hl0]at hn2;simp at hn2;omega
                |block bl off cap2 c hv hg hbn hcap hcc=>
                  have hbnx:=hbn
                  simp only[Value.slice.injEq]at hv
                  obtain⟨rfl,hn3,rfl⟩:=hv
                  obtain⟨lo',rfl⟩:=Int.eq_ofNat_of_zero_le h0
                  obtain⟨hi',rfl⟩:=Int.eq_ofNat_of_zero_le (Int.le_trans h0 h1)
                  simp only[Int.toNat_natCast]at h ⊢
                  have hblo:=bnd_ok (n:=0) G1 hla rfl Oz
                  have hbhi:=bnd_ok (n:=l.length) G1 hhb rfl Oz
                  simp only[Int.toNat_natCast]at hblo hbhi
                  have hlh:lo'≤hi':=by omega
                  have hhl:hi'≤l.length:=by omega
                  have hlen:((l.drop lo').take (hi'-lo')).length=hi'-lo':=by rw[List.length_take,List.length_drop];omega
                  have hrep:∀off' cap',hi'-lo'≤cap' / 2→(off'=off+lo'*inf.size∨lo'=hi')→Rep (W.x Φ1) (.sl t' inf.size τ) [.slice (some ⟨bl,off',none⟩) (hi'-lo') cap'] ((l.drop lo').take (hi'-lo')):=fun off' cap' g1 g2=>by
                    refine⟨some ⟨bl,off',none⟩,cap',(Ls.drop lo').take (hi'-lo'),by rw[hlen],by rw[hlen];exact G1.see.kn.cut _ _ _ _ _ _ _ hS lo' hi' cap' off' hlh Oz g1 g2,by rw[hlen,List.length_take,List.length_drop];omega,fun k x hk=>?_⟩
                    rw[List.getElem?_take]at hk
                    split at hk
                    · next hk1=>
                      rw[List.getElem?_drop]at hk
                      have:=hl _ _ hk
                      simp only[List.getD_eq_getElem?_getD,List.getElem?_take,List.getElem?_drop,hk1,if_true]at this ⊢
                      exact this
                    · cases hk
                  have hble:(Nat.ble lo' hi'&&Nat.ble hi' (cap / 2)&&Nat.ble (cap / 2) (cap / 2)&&((hi.map (ze F)).isSome || !(none:Option Value).isSome))=true:=by
                    simp only[Bool.and_eq_true]
                    exact⟨⟨⟨Nat.ble_eq_true_of_le hlh,Nat.ble_eq_true_of_le Oz⟩,Nat.ble_eq_true_of_le (Nat.le_refl _)⟩,by simp⟩
                  have hbn:yR (none:Option Value) (cap / 2)=some (cap / 2):=rfl
                  have hadd:∀n,(Addr.mk bl off none).add n=⟨bl,off+n,none⟩:=fun n=>by
                    unfold Addr.add
                    split
                    · next h=>subst h;rfl
                    · rfl
                  -- where the part begins,how much it may hold
                  have key:∃off' cap',hi'-lo'≤cap' / 2∧(off'=off+lo'*inf.size∨lo'=hi')∧∀s1:St,s1.get bl=s.get bl→zh Tryz.prog (ze F) (.slice t x lo hi none) s1=.ok (.value (.slice (some ⟨bl,off',none⟩) (hi'-lo') cap')) s1:=by
                    have hstep:∀s1,zh Tryz.prog (ze F) (.slice t x lo hi none) s1=xa Tryz.prog t (.slice (some ⟨bl,off,none⟩) l.length cap) (lo.map (ze F)) (hi.map (ze F)) none s1:=fun s1=>by
                      rw[←hxv];rfl
                    by_cases hpar:cap % 2=0
                    · by_cases hml:cap / 2=lo'
                      · refine⟨off,2*(cap / 2-lo'),by omega,.inr Oz,fun s1 hh=>?_⟩
                        rw[hstep]
                        have:Nat.beq (cap / 2) lo'=true:=by rw[hml];exact Nat.beq_refl _
                        simp only[xa,hu,hinf,hpar,y9,hblo,hbhi,hbn,hble,Bool.true_or,this,if_true]
                        rfl
                      · refine⟨off+lo'*inf.size,2*(cap / 2-lo'),by omega,.inl rfl,fun s1 hh=>?_⟩
                        rw[hstep]
                        have:Nat.beq (cap / 2) lo'=false:=by
                          rw[Bool.eq_false_iff];exact fun h=>hml (Nat.eq_of_beq_eq_true h)
                        simp only[xa,hu,hinf,hpar,y9,hblo,hbhi,hbn,hble,Bool.true_or,this,Option.map_some,hadd]
                        rfl
                    · have hpar:cap % 2=1:=by omega
                      refine⟨off+lo'*inf.size,2*(cap / 2-lo')+1,by omega,.inl rfl,fun s1 hh=>?_⟩
                      rw[hstep]
                      have hrow:rowB t' (some ⟨bl,off,none⟩) cap s1=true:=by
                        have hg1:s1.get bl=some (.cells c t'):=by rw[hh];exact hg
                        simp only[rowB,hpar,hg1,Nat.beq_refl]
                      simp only[xa,hu,hinf,hpar,hrow,y9,hblo,hbhi,hbn,hble,Option.map_some,hadd]
                      rfl
                  obtain⟨off',cap',g1,g2,g3⟩:=key
                  obtain⟨e',G2,h4⟩:=G1.set (p:=.one (.sl t' inf.size τ ((l.drop lo').take (hi'-lo')))) (hrep off' cap' g1 g2) h
                  exact⟨_,fun s1 hs1=>g3 s1 (hs1 t x lo hi rfl _ _ _ hxv hbnx),e',G2.good,h4⟩
              · cases hy
            · cases h
          · cases h
        · cases h
      · cases h
    · cases h
  · cases hn
theorem mx_ok(G:GX QL W s0 s C stk e F m Q O L Φ){d:Option Nat}{t:TypeId}{x hi mx:Operand}{k:En→Option ρ}{r:ρ}(h:effK Γ T inl rc C e d (.slice t x none (some hi) (some mx)) k=some r) :
    ∃v,zh Tryz.prog (ze F) (.slice t x none (some hi) (some mx)) s=.ok (.value v) s∧∃e',qb QL W s0 s C stk e' (upd F d v) m∧k e'=some r:=by
  unfold effK at h
  simp only at h
  split at h
  · next t' w τ l a b el hx hh hm hu=>
    split at h
    · next inf hinf=>
      split at h
      · next hck=>
        simp only[Bool.and_eq_true]at hck
        have hw:=Nat.eq_of_beq_eq_true hck.1
        have ht:=Nat.eq_of_beq_eq_true hck.2
        subst hw ht
        split at h
        · next hab=>
          subst hab
          obtain⟨y,hy,h⟩:=zA h
          unfold xq at hy
          split at hy
          · next hc=>
            cases hy
            obtain⟨_,h1,h2,h3⟩:=hc
            obtain⟨n,rfl⟩:=Int.eq_ofNat_of_zero_le h1
            have hhv:ze F hi=.int .i64 (n:Int):=(List.cons.inj (show [ze F hi]=_ from G.ev hh)).1
            have hmv:ze F mx=.int .i64 (n:Int):=(List.cons.inj (show [ze F mx]=_ from G.ev hm)).1
            obtain⟨a',cap,Ls,e2,hS,hn2,hl⟩:=G.ev hx
            have hxv:=(List.cons.inj e2).1
            have hsl:=G.see.kn.s _ _ _ _ hS
            cases hsl with
            |nil c hv hl0=>rw[hl0]at hn2;simp at hn2;omega
            |block bl off cap2 c hv hg hbn hcap hcc=>
              simp only[Value.slice.injEq]at hv
              obtain⟨rfl,hn3,rfl⟩:=hv
              have hnl:n≤l.length:=by omega
              have hlen:((l.drop 0).take (n-0)).length=n:=by rw[List.length_take,List.length_drop];omega
              have hrep:Rep (W.x Φ) (.sl t' inf.size τ) [.slice (some ⟨bl,off,none⟩) n (2*n)] ((l.drop (0:Int).toNat).take ((n:Int).toNat-(0:Int).toNat)):=by
                have hcut:=G.see.kn.cut _ _ _ _ _ _ _ hS 0 n (2*n) off (Nat.zero_le _) Oz Oz (.inl Oz)
                refine⟨some ⟨bl,off,none⟩,2*n,(Ls.drop 0).take (n-0),by simp only[Int.toNat_natCast,Int.toNat_zero];rw[hlen],by simp only[Int.toNat_natCast,Int.toNat_zero];rw[hlen];exact hcut,by simp only[Int.toNat_natCast,Int.toNat_zero,List.length_take,List.length_drop];omega,fun k x hk=>?_⟩
                simp only[Int.toNat_natCast,Int.toNat_zero,List.drop_zero,Nat.sub_zero]at hk ⊢
                rw[List.getElem?_take]at hk
                split at hk
                · next hk1=>
                  have:=hl _ _ hk
                  simp only[List.getD_eq_getElem?_getD,List.getElem?_take,hk1,if_true]at this ⊢
                  exact this
                · cases hk
              have hstep:zh Tryz.prog (ze F) (.slice t x none (some hi) (some mx)) s=.ok (.value (.slice (some ⟨bl,off,none⟩) n (2*n))) s:=by
                have e1:zh Tryz.prog (ze F) (.slice t x none (some hi) (some mx)) s=xa Tryz.prog t (.slice (some ⟨bl,off,none⟩) l.length cap) none (some (.int .i64 (Int.ofNat n))) (some (.int .i64 (Int.ofNat n))) s:=by
                  rw[←hxv]
                  show xa Tryz.prog t (ze F x) none (some (ze F hi)) (some (ze F mx)) s=_
                  rw[hhv,hmv]
                  rfl
                rw[e1]
                have hble:(Nat.ble 0 n&&Nat.ble n n&&Nat.ble n (cap / 2)&&(true || !true))=true:=by
                  simp only[Bool.and_eq_true]
                  exact⟨⟨⟨Nat.ble_eq_true_of_le (Nat.zero_le _),Nat.ble_eq_true_of_le (Nat.le_refl _)⟩,Nat.ble_eq_true_of_le Oz⟩,rfl⟩
                have hadd:(Addr.mk bl off none).add (0*inf.size)=⟨bl,off,none⟩:=by
                  rw[Nat.zero_mul]
                  unfold Addr.add
                  split
                  · rfl
                  · next h=>exact(h rfl).elim
                have fin:∀kn,y9 inf.size (some ⟨bl,off,none⟩) l.length (cap / 2) kn none (some (.int .i64 (Int.ofNat n))) (some (.int .i64 (Int.ofNat n))) s=.ok (.value (.slice (some ⟨bl,off,none⟩) n (2*n))) s:=fun kn=>by
                  simp only[y9,yR,hble,Option.isSome_some,Bool.or_true,Option.map_some,hadd,Nat.sub_zero,ite_self]
                  rfl
                by_cases hpar:cap % 2=0
                · simp only[xa,hu,hinf,hpar,fin]
                · have hpar:cap % 2=1:=by omega
                  have hrow:rowB t' (some ⟨bl,off,none⟩) cap s=true:=by simp only[rowB,hpar,hg,Nat.beq_refl]
                  simp only[xa,hu,hinf,hpar,hrow,fin]
              obtain⟨e',G2,h4⟩:=G.set (p:=.one (.sl t' inf.size τ ((l.drop (0:Int).toNat).take ((n:Int).toNat-(0:Int).toNat)))) hrep h
              exact⟨_,hstep,e',G2.good,h4⟩
          · cases hy
        · cases h
      · cases h
    · cases h
  · cases h
theorem lovD_app{α:Type}:∀{l a a' b:List α},xO l a=some a'→xO l (a++b)=some (a'++b)
  | [],_,_,_,h=>by simp only[xO,Option.some.injEq]at h ⊢;rw[h]
  |_::_,[],_,_,h=>by simp[xO]at h
  |v::l,x::a,a',b,h=>by
    simp only[xO,List.cons_append]at h ⊢
    split at h
    · next r hr=>rw[lovD_app hr];cases h;rfl
    · cases h
theorem lputD_apx{α:Type}:∀{j:Nat} {l a a' b:List α},xh j l a=some a'→xh j l (a++b)=some (a'++b)
  |0,_,_,_,_,h=>lovD_app h
  |_+1,_,[],_,_,h=>by simp[xh]at h
  |j+1,l,x::a,a',b,h=>by
    simp only[xh,List.cons_append]at h ⊢
    split at h
    · next r hr=>rw[lputD_apx hr];cases h;rfl
    · cases h
theorem lputD_skip{α:Type}{k:Nat}{l b b':List α}(h:xh k l b=some b'):∀a:List α,xh (a.length+k) l (a++b)=some (a++b')
  | []=>by rw[List.length_nil,Nat.zero_add];exact h
  |x::a=>by
    rw[List.length_cons,show a.length+1+k=(a.length+k)+1 by omega]
    simp only[xh,List.cons_append,lputD_skip h a]
theorem lputD_flat{sz j:Nat}{l e':List Value}:∀{es:List (List Value)} (_:∀x∈es,x.length=sz) {i:Nat} (_:i<es.length) (_:xh j l (es.getD i [])=some e'),xh (i*sz+j) l es.flatten=some (es.set i e').flatten
  | [],_,_,hi,_=>by simp at hi
  |x::es,hz,0,_,he=>by
    rw[Nat.zero_mul,Nat.zero_add,List.flatten_cons,List.set_cons_zero,List.flatten_cons]
    exact lputD_apx he
  |x::es,hz,i+1,hi,he=>by
    have h1:=lputD_flat (es:=es) (fun y hy=>hz y (List.mem_cons_of_mem _ hy)) (i:=i) (by simpa using hi) he
    rw[List.flatten_cons,List.set_cons_succ,List.flatten_cons,Nat.add_mul,Nat.one_mul,show i*sz+sz+j=x.length+(i*sz+j)by rw[hz x (List.mem_cons_self ..)];omega]
    exact lputD_skip h1 x
theorem yE{α:Type}:∀{l:List α} {n:Nat} {y:α},zt l n y=l.set n y
  | [],_,_=>rfl
  |_::_,0,_=>rfl
  |_::l,n+1,y=>by simp only[zt,List.set_cons_succ,yE]
theorem store_ok(G:GX QL W s0 s C stk e F m Q O L Φ)(hr:s0.next+m≤z3){d:Option Nat}{t:TypeId}{x v:Operand}{k:En→Option ρ}{r:ρ}(h:effK Γ T inl rc C e d (.store t x v) k=some r) :
    ∃j off q c c2 tt n,(∀j' off',e.ev C x=some (.one (.ptr j' off'))→j'=j)∧Q[j]? = some q∧(∃o,O[j]? = some (some o))∧C.lent≤j∧sizeF Tryz.prog t=some n∧ze F x=.pointer (some ⟨q.2,off,none⟩)∧Nat.beq (zY (yk (ze F v)) 0) n=true∧(yk (ze F v)).all Go.M.plainCell=true ∧
      s.get q.2=some (.cells c tt)∧s.may q.2=true∧xh off (yk (ze F v)) c=some c2∧∃e',qb QL W s0 (s.put q.2 (some (.cells c2 tt))) C stk e' (upd F d undef) m∧k e'=some r:=by
  unfold effK at h
  simp only at h
  split at h
  · next j off pv hx hv=>
    split at h
    · next c l hoj hl=>
      split at h
      · next c' n hpu hsz=>
        split at h
        · next hb=>
          simp only[Bool.and_eq_true]at hb
          rw[zC]at hoj
          have hjq:j<Q.length:=by rw[←G.len];exact(List.getElem?_eq_some_iff.mp hoj).1
          obtain⟨q,hq⟩:∃q,Q[j]? = some q:=⟨_,List.getElem?_eq_getElem hjq⟩
          obtain⟨oj,hoj2⟩:∃o,O[j]? = some o:=⟨_,List.getElem?_eq_getElem (by rw[G.oq];exact hjq)⟩
          obtain⟨cs,tt,rfl,hcs⟩:=G.obj j _ q oj hoj hq hoj2
          have hls:=leaves_ok (G.ev hv) hl
          obtain⟨c2,h1,h2⟩:=hcs.put hls hpu
          have hxx:ze F x=.pointer (some ⟨q.2,off,none⟩):=by
            obtain⟨q',g1,g2⟩:=G.ev hx
            rw[hq]at g1;cases g1
            exact(List.cons.inj g2).1
          have hlent:=Nat.le_of_ble_eq_true hb.2
          have hmay:=(G.H.own _ (G.own j q _ hq hoj2 hlent)).2.2.1
          have hlen:Nat.beq (zY (yk (ze F v)) 0) n=true:=by
            rw[zH,Nat.add_zero,hls.len];exact hb.1
          obtain⟨L',G1⟩:=G.write hr (o':=.cells c2 tt) (b:=.cells c') hq hoj2 hlent ⟨c2,tt,rfl,h2⟩ (fun h=>nomatch h)
          obtain⟨e',G2,h3⟩:=G1.set (p:=.undef) (v:=undef) rfl h
          exact⟨j,off,q,cs,c2,tt,n,(fun j' off' hx'=>by rw[hx]at hx';cases hx';rfl),hq,⟨_,hoj2⟩,hlent,hsz,hxx,hlen,hls.plain,G.get hq hoj2,hmay,h1,e',G2.good,h3⟩
        · cases h
      · cases h
    · cases h
  · next j w i off pv hx hv=>
    split at h
    · next t' w' τ ls l hoj hl=>
      split at h
      · next n hsz hck=>
        simp only[Bool.and_eq_true]at hck
        obtain rfl:=Nat.eq_of_beq_eq_true hck.1
        have hlent:=Nat.le_of_ble_eq_true hck.2
        obtain⟨y0,hy0,h⟩:=zA h
        obtain⟨hi0,hi1,hi2⟩:=idx_some hy0
        split at h
        · next c' hpu hwn=>
          split at h
          · next y hy=>
            rw[zC]at hoj
            have hjq:j<Q.length:=by rw[←G.len];exact(List.getElem?_eq_some_iff.mp hoj).1
            obtain⟨q,hq⟩:∃q,Q[j]? = some q:=⟨_,List.getElem?_eq_getElem hjq⟩
            obtain⟨oj,hoj2⟩:∃o,O[j]? = some o:=⟨_,List.getElem?_eq_getElem (by rw[G.oq];exact hjq)⟩
            obtain⟨a,cap,hv',hc0,hn,hw,Y,hY1,hY2,hY3,hY4⟩:=G.obj j _ q oj hoj hq hoj2
            have hls:=leaves_ok (G.ev hv) hl
            have hrep:=hY4 _ _ hi2
            obtain⟨c2,h1,h2⟩:=(qD (Q:=Q) hrep).put hls hpu
            have hrep2:=xr h2 hy
            have hil:i.toNat<ls.length:=(List.getElem?_eq_some_iff.mp hi2).1
            have hxx:ze F x=.pointer (some ⟨q.2,i.toNat*w'+off,none⟩):=by
              obtain⟨q',g1,g2⟩:=G.ev hx
              rw[hq]at g1;cases g1
              exact(List.cons.inj g2).1
            have hlen:Nat.beq (zY (yk (ze F v)) 0) n=true:=by
              rw[zH,Nat.add_zero,hls.len];exact hwn
            have hput:=lputD_flat hY3 (i:=i.toNat) Oz h1
            have hc2:c2.length=w':=by rw[←hw];exact Rep.len hrep2
            generalize hD:blkD q.2 oj=D at hY2
            generalize hsl:(Value.slice a ls.length cap)=sl at hY2
            generalize hcc:Y.flatten=c at hY2 hput
            generalize hn':ls.length=n' at hY2
            cases hY2 with
            |nil=>omega
            |block b' cap2 _ _ hl2 hcap2=>
              cases hsl
              cases oj with
              |none=>cases hD
              |some o=>
                cases hD
                have hmay:=(G.H.own _ (G.own j q _ hq hoj2 hlent)).2.2.1
                have hfl:(Y.set i.toNat c2).flatten.length=c.length:=by
                  rw[←hcc,xy hY3,xy (es:=Y.set i.toNat c2) (sz:=w') (fun x hx=>(List.mem_or_eq_of_mem_set hx).elim (hY3 x) fun e=>by rw[e];exact hc2),List.length_set]
                obtain⟨L',G1⟩:=G.write hr (o':=.cells (Y.set i.toNat c2).flatten t') (b:=.list t' w' τ (zt ls i.toNat y)) hq hoj2 hlent
                  ⟨_,cap,by rw[hv',yE,List.length_set],(by rw[yE,List.length_set];exact hc0),rfl,hw,Y.set i.toNat c2,by rw[List.length_set,yE,List.length_set];exact hY1,by
                    rw[yE,List.length_set,hn']
                    exact .block q.2 cap _ _ (by rw[hfl];exact hl2) hcap2,fun x hx=>(List.mem_or_eq_of_mem_set hx).elim (hY3 x) fun e=>by rw[e];exact hc2,fun k z hz=>by
                    rw[yE,List.getElem?_set]at hz
                    rw[List.getD_eq_getElem?_getD,List.getElem?_set]
                    by_cases hk:i.toNat=k
                    · subst hk
                      rw[if_pos rfl,if_pos hil]at hz
                      rw[if_pos rfl,if_pos Oz]
                      cases hz;exact hrep2
                    · rw[if_neg hk]at hz ⊢
                      rw[←List.getD_eq_getElem?_getD]
                      exact hY4 k z hz⟩ (fun h=>nomatch h)
                obtain⟨e',G2,h3⟩:=G1.set (p:=.undef) (v:=undef) rfl h
                exact⟨j,i.toNat*w'+off,q,_,_,t',n,(fun j' off' hx'=>by rw[hx]at hx';cases hx'),hq,⟨_,hoj2⟩,hlent,hsz,hxx,hlen,hls.plain,G.get hq hoj2,hmay,hput,e',G2.good,h3⟩
          · cases h
        · cases h
      · cases h
    · cases h
  · cases h
theorem js_ok{W:Wd}{Q:Qs}:∀{js:List Nat} {cs:List Value},JsR Q js cs→LsR W Q (js.map (Lf.ptr · 0)) cs
  | [],_,h=>h
  |_::_,_,⟨q,c',h1,h2,h3⟩=>⟨[_],c',h2,⟨q,h1,rfl⟩,js_ok h3⟩
theorem js_w:∀js:List Nat,((js.map (Lf.ptr · 0)).all fun x=>Nat.beq x.w 1)=true
  | []=>rfl
  |_::js=>by simp only[List.map_cons,List.all_cons,js_w js,Bool.and_true];rfl
theorem repL_flat{c:List Value}:∀n,(List.replicate n c).flatten=repL c n
  |0=>rfl
  |n+1=>by rw[List.replicate_succ,List.flatten_cons,repL_flat n];rfl
theorem mk_ok(G:GX QL W s0 s C stk e F m Q O L Φ)(hr:s0.next+m<z3){d:Option Nat}{t:TypeId}{l c:Operand}{k:En→Option ρ}{r:ρ}(h:effK Γ T inl rc C e d (.makeSlice t l c) k=some r) :
    ∃s1 v,zh Tryz.prog (ze F) (.makeSlice t l c) s=.ok (.value v) s1∧∃e',qb QL W s0 s1 C stk e' (upd F d v) (m+1)∧k e'=some r:=by
  unfold effK at h
  simp only at h
  split at h
  · next el sz τ z a b hel hl hc=>
    obtain⟨by_,zc,hs,hby,hsz,hzl⟩:=elK_ok hel
    have hle:ze F l=.int .i64 a:=(List.cons.inj (show [ze F l]=_ from G.ev hl)).1
    have hce:ze F c=.int .i64 b:=(List.cons.inj (show [ze F c]=_ from G.ev hc)).1
    split at h
    · next y hy=>
      split at h
      · next hab=>
        obtain⟨h0,rfl,h1⟩:=hab
        obtain⟨n,rfl⟩:=Int.eq_ofNat_of_zero_le h0
        simp only[Int.toNat_natCast]at h
        have hrep:=xr (hzl W Φ Q) hy
        have hzc:zc.length=sz:=by rw[←hsz];exact Rep.len hrep
        have hall:∀x∈List.replicate n zc,x.length=sz:=fun x hx=>by rw[(List.mem_replicate.mp hx).2];exact hzc
        have how:OwnL (W.x Φ) el sz τ [(s.next,.cells (repL zc n) el)] (some ⟨s.next,0,none⟩) (List.replicate n y).length (2*n) (List.replicate n y):=by
          refine⟨rfl,hsz,List.replicate n zc,by simp,?_,hall,fun k x hx=>?_⟩
          · rw[repL_flat,List.length_replicate]
            exact .block s.next (2*n) _ n (by rw[←repL_flat,xy hall,List.length_replicate]) Oz
          · rw[List.getElem?_replicate]at hx
            split at hx
            · next hk=>
              cases hx
              rw[List.getD_eq_getElem?_getD,List.getElem?_replicate,if_pos hk]
              exact hrep
            · cases hx
        obtain⟨e',G1,h3⟩:=G.newK hr (o:=.cells (repL zc n) el) (v:=.slice (some ⟨s.next,0,none⟩) (List.replicate n y).length (2*n)) (w:=.slice (some ⟨s.next,0,none⟩) n (2*n)) (b:=.list el sz τ (List.replicate n y)) (l:=.own)
          ⟨_,_,rfl,(fun h=>by rw[List.length_replicate]at h;omega),how⟩ (fun h=>nomatch h) ⟨_,G.nth,by rw[List.length_replicate],_,_,_,rfl⟩ h
        obtain⟨hu,inf,z',hi,rfl,rfl,hz,_,_⟩:=yL hs
        refine⟨_,_,?_,e',G1,h3⟩
        have hb1:(Nat.ble n n&&Nat.ble (n*(inf.bytes+1)) 1073741824)=true:=by
          rw[Bool.and_eq_true]
          exact⟨Nat.ble_eq_true_of_le (Nat.le_refl _),Nat.ble_eq_true_of_le (Nat.le_trans (Nat.mul_le_mul (show n≤65536 by omega) (Nat.succ_le_succ hby)) Uz)⟩
        show xw Tryz.prog t (ze F l) (ze F c) s=_
        rw[hle,hce]
        show xw Tryz.prog t (.int .i64 (.ofNat n)) (.int .i64 (.ofNat n)) s=_
        simp only[xw,hu,hi,hz,hb1,newK,G.H.room hr]
        rfl
      · cases h
    · cases h
  · cases h
theorem lput_same{α:Type}{l c:List α}(h:l.length=c.length):xh 0 l c=some l:=by
  have key:∀(l c:List α),l.length=c.length→xO l c=some l:=by
    intro l
    induction l with
    |nil=>intro c h;cases c with
      |nil=>rfl
      |cons _ _=>cases h
    |cons x l ih=>intro c h;cases c with
      |nil=>cases h
      |cons y c=>simp only[xO,ih c (by simpa using h)]
  exact key l c h
theorem copy_ok(G:GX QL W s0 s C stk e F m Q O L Φ)(hr:s0.next+m≤z3){d:Option Nat}{ag:Array Operand}{ts:Array TypeId}{k:En→Option ρ}{r:ρ}(h:effK Γ T inl rc C e d (.call ⟨.builtin .copy,ag,ts⟩) k=some r) :
    ∃v s',zh Tryz.prog (ze F) (.call ⟨.builtin .copy,ag,ts⟩) s=.ok (.value v) s'∧∃e',qb QL W s0 s' C stk e' (upd F d v) m∧k e'=some r:=by
  unfold effK at h
  simp only at h
  split at h
  · next t tr x y hts hag=>
    split at h
    · next j t' w τ l2 el hx hy hu=>
      split at h
      · next t2 w2 τ2 l inf hoj hck hinf=>
        split at h
        · next he=>
          obtain⟨rfl,rfl,rfl,hw⟩:=he
          split at h
          · next hll0=>
            obtain⟨hll,hpos⟩:=hll0
            simp only[Bool.and_eq_true]at hck
            have hlent:=Nat.le_of_ble_eq_true hck.1
            have hw1:=Nat.le_of_ble_eq_true hck.2
            rw[zC]at hoj
            have hjq:j<Q.length:=by rw[←G.len];exact(List.getElem?_eq_some_iff.mp hoj).1
            obtain⟨q,hq⟩:∃q,Q[j]? = some q:=⟨_,List.getElem?_eq_getElem hjq⟩
            obtain⟨oj,hoj2⟩:∃o,O[j]? = some o:=⟨_,List.getElem?_eq_getElem (by rw[G.oq];exact hjq)⟩
            obtain⟨a,cap,hv',hc0,hn,hw0,Y,hY1,hY2,hY3,hY4⟩:=G.obj j _ q oj hoj hq hoj2
            obtain⟨a2,cap2,Ls,e2,hS,hn2,hl⟩:=G.ev hy
            have hyv:=(List.cons.inj e2).1
            have hz:∀z∈Ls,z.length=w2:=fun z hz=>by
              obtain⟨i,hi,rfl⟩:=List.getElem_of_mem hz
              have:=hl i _ (List.getElem?_eq_getElem (show i<l2.length by omega))
              rw[List.getD_eq_getElem?_getD,List.getElem?_eq_getElem hi,Option.getD_some]at this
              rw[Rep.len this,hw0]
            have hel:=(G.see.kn.s _ _ _ _ hS).elems hz hw1
            have hfl:Ls.flatten.length=Y.flatten.length:=by rw[xy hz,xy hY3,hY1,hn2,hll]
            generalize hD:blkD q.2 oj=D at hY2
            generalize hsl:(Value.slice a l.length cap)=sl at hY2
            generalize hcc:Y.flatten=c at hY2 hfl
            generalize hn':l.length=n' at hY2
            cases hY2 with
            |nil=>omega
            |block b' cap3 _ _ hl3 hcap3=>
              cases hsl
              cases oj with
              |none=>cases hD
              |some o=>
                cases hD
                have hmay:=(G.H.own _ (G.own j q _ hq hoj2 hlent)).2.2.1
                have hget:=G.get hq hoj2
                obtain⟨L',G1⟩:=G.write hr (o':=.cells Ls.flatten t2) (b:=.list t2 w2 τ2 l2) hq hoj2 hlent
                  ⟨_,cap,by rw[hv',hll],(by rw[←hll];exact hc0),rfl,hw0,Ls,hn2,by
                    rw[←hll,hn']
                    exact .block q.2 cap _ _ (by rw[hfl];exact hl3) hcap3,hz,hl⟩ (fun h=>nomatch h)
                obtain⟨e',G2,h3⟩:=G1.set (p:=.one (.int .i64 l2.length)) (v:=.int .i64 l2.length) rfl h
                refine⟨_,_,?_,e',G2.good,h3⟩
                have hxx:ze F x=.slice (some ⟨q.2,0,none⟩) l.length cap:=by
                  obtain⟨q',g1,g2⟩:=G.ev hx
                  rw[hq]at g1;cases g1
                  rw[(List.cons.inj g2.1).1,hv']
                have hpl:Ls.flatten.all Go.M.plainCell=true:=by
                  rw[List.all_flatten,List.all_eq_true]
                  intro z hz'
                  obtain⟨i,hi,rfl⟩:=List.getElem_of_mem hz'
                  have:=hl i _ (List.getElem?_eq_getElem (show i<l2.length by omega))
                  rw[List.getD_eq_getElem?_getD,List.getElem?_eq_getElem hi,Option.getD_some]at this
                  exact Rep.plain this
                have hst:yB q.2 0 Ls.flatten s=.ok .skip (s.put q.2 (some (.cells Ls.flatten t2))):=by
                  simp only[yB,hget,hpl,hmay,lput_same hfl]
                  rfl
                have hmin:Nat.min l2.length l.length=l2.length:=by rw[hll];exact Nat.min_self _
                have hf:yD inf.size l2.length (ze F y) s=some Ls.flatten:=by rw[hw,←hn2,hyv];exact hel.2
                have hlv:lenV (ze F y)=some l2.length:=by rw[hyv];rfl
                simp only[zh,yy,hts,hag,yw,copyM,hxx,hu,hinf,hlv,hmin,hf,hst]
                rfl
          · cases h
        · cases h
      · cases h
    · cases h
  · cases h
theorem eff_ok(hI:zQ I)(hT:ConI I T)(hin:InlOK I W s0 inl rc)(G:GX QL W s0 s C stk e F m Q O L Φ){d:Option Nat}{o:Op}{k:En→Option ρ}{r:ρ}{P:FF→St→Prop}{ty:TypeId}{pos:String}{af:Array Edge}{g:Option (Nat×Bool)}
    (h:effK Γ T inl rc C e d o k=some r) (hB:s0.next+(m+xk T rc o)≤z3) (hk:∀e' F' s' m',m'≤m+xk T rc o→qb QL W s0 s' C stk e' F' m'→k e'=some r→P F' s'):OpW Tryz.prog I ⟨d,o,ty,pos,af,g⟩ F s P:=by
  have hpure:∀{o':Op},o'=o→pureK Γ C e o' (fun v=>e.set C d v k)=some r→OpW Tryz.prog I ⟨d,o,ty,pos,af,g⟩ F s P:=fun{o'} ho hp=>by
    subst ho
    obtain⟨p,v,h1,h2,h3⟩:=pure_ok G.see (s':=s) (fun _ _ _ _ _ _=>rfl) hp
    obtain⟨e',G1,h4⟩:=G.set h2 h3
    exact zU h1 (hk e' _ s m Oz G1.good h4)
  cases hn:newOp o with
  |true=>
    have hroom:xk T rc o=1:=by cases o<;>first|rfl|cases hn
    obtain⟨ob,v,hs,_,e',G1,h1⟩:=new_ok G hn Oz h
    exact zU (hs s rfl) (hk e' _ _ (m+1) Oz G1 h1)
  |false=>
  cases hs:slOp o with
  |true=>
    obtain⟨v,g1,e',G1,h1⟩:=stay_ok G hs h
    exact zU (g1 s fun _ _ _ _ _ _ _ _ _ _=>rfl) (hk e' _ _ m Oz G1 h1)
  |false=>
  by_cases hmk:∃t l c,o=.makeSlice t l c
  · obtain⟨t,l,c,rfl⟩:=hmk
    obtain⟨s1,v,h1,e',G1,h2⟩:=mk_ok G (Nat.lt_of_lt_of_le (Nat.lt_succ_self (s0.next+m)) hB) h
    exact zU h1 (hk e' _ s1 (m+1) (Nat.le_refl (m+1)) G1 h2)
  by_cases hcp:∃ag ts,o=.call ⟨.builtin .copy,ag,ts⟩
  · obtain⟨ag,ts,rfl⟩:=hcp
    obtain⟨v,s',h1,e',G1,h2⟩:=copy_ok G Oz h
    exact zU h1 (hk e' _ s' m Oz G1 h2)
  by_cases hmx:∃t x hi mx,o=.slice t x none (some hi) (some mx)
  · obtain⟨t,x,hi,mx,rfl⟩:=hmx
    obtain⟨v,h1,e',G1,h2⟩:=mx_ok G h
    exact zU h1 (hk e' _ s m Oz G1 h2)
  unfold effK at h
  split at h
  · next t x v=>
    obtain⟨j,off,q,c,c2,tt,n,hx,hq,ho,hj,hsz,hxx,hlen,hp,hg,hm,hc,e',G2,h3⟩:=store_ok (Γ:=Γ) (T:=T) (inl:=inl) (rc:=rc) (d:=d) (t:=t) (x:=x) (v:=v) G Oz (by unfold effK;exact h)
    exact op_none (store_step hsz hxx rfl hlen hp hg hm hc) (hk e' _ _ m Oz G2 h3)
  · cases hn
  · cases hn
  · cases hn
  · next t l c=>exact(hmk ⟨t,l,c,rfl⟩).elim
  · cases hs
  · next t x hi mx=>exact(hmx ⟨t,x,hi,mx,rfl⟩).elim
  · -- call
    next c=>
    obtain⟨callee,ag,ts⟩:=c
    simp only at h
    split at h
    · next f=>
      split at h
      · next g' hf=>
        split at h
        · next hb=>
          simp only[Bool.and_eq_true,Bool.not_eq_true']at hb
          have hff:ze F f=.func (.func g') #[] #[]:=(List.cons.inj (show [ze F f]=_ from G.ev hf)).1
          refine op_call (args:=⟨yw (ze F) ag.toList++[]⟩) hff hb.1 rfl ?_ hb.2
          refine callK_ok (caps:=[]) (cs:=[]) (R:=xk T rc (.call ⟨.value f,ag,ts⟩)) hI hT hin G hb.2 rfl rfl h ?_ ?_ hB hk
          · intro con hcon hst
            cases f with
            |func g2=>
              have:g2=g':=by
                have:ze F (.func g2)=.func (.func g2) #[] #[]:=rfl
                rw[this]at hff;cases hff;rfl
              subst this
              simp only[xk,hcon,Nat.le_refl]
            |_=>cases hst
          · intro hor
            cases f with
            |func g2=>
              have:g2=g':=by
                have:ze F (.func g2)=.func (.func g2) #[] #[]:=rfl
                rw[this]at hff;cases hff;rfl
              subst this
              rcases hor with hn|hst
              · simp only[xk,hn,Nat.le_refl]
              · cases hst
            |_=>exact Nat.le_refl _
        · cases h
      · next g' caps hf=>
        split at h
        · next hb=>
          simp only[Bool.and_eq_true,Bool.not_eq_true']at hb
          obtain⟨cs,hff,hcs⟩:=G.ev hf
          have hnf:∀g2,f≠.func g2:=fun g2 e=>by
            subst e;simp only[En.ev,Option.some.injEq]at hf;cases hf
          refine op_call hff hb.1.1 (by rfl) ?_ hb.1.2
          refine callK_ok (R:=xk T rc (.call ⟨.value f,ag,ts⟩)) hI hT hin G hb.1.2 hcs hb.2 h ?_ ?_ hB hk
          · intro con hcon hst;cases hst
          · intro _
            cases f with
            |func g2=>exact(hnf g2 rfl).elim
            |_=>exact Nat.le_refl _
        · cases h
      · next g' js hf=>
        split at h
        · next hb=>
          simp only[Bool.and_eq_true,Bool.not_eq_true']at hb
          obtain⟨cs,hff,hcs⟩:=G.ev hf
          have hff:=(List.cons.inj hff).1
          have hnf:∀g2,f≠.func g2:=fun g2 e=>by
            subst e;simp only[En.ev,Option.some.injEq]at hf;cases hf
          refine op_call hff hb.1 (by rfl) ?_ hb.2
          refine callK_ok (R:=xk T rc (.call ⟨.value f,ag,ts⟩)) hI hT hin G hb.2 (js_ok hcs) (js_w js) h ?_ ?_ hB hk
          · intro con hcon hst;cases hst
          · intro _
            cases f with
            |func g2=>exact(hnf g2 rfl).elim
            |_=>exact Nat.le_refl _
        · cases h
      · next j hf=>
        split at h
        · next ps N sl pars x y hps hob=>
          split at h
          · next hlen=>
            obtain⟨q,hq,hff⟩:=G.ev hf
            have hff:=(List.cons.inj hff).1
            have hnf:∀g2,f≠.func g2:=fun g2 e=>by
              subst e;simp only[En.ev,Option.some.injEq]at hf;cases hf
            have hrc:rc≤xk T rc (.call ⟨.value f,ag,ts⟩):=by
              cases f with
              |func g2=>exact(hnf g2 rfl).elim
              |_=>exact Nat.le_refl _
            obtain⟨q',o,hq',ho,hcode,fr,F0,rfl,ha,hs'⟩:=G.at hob
            rw[hq]at hq';cases hq'
            have hpl:=(G.evs hps).len
            refine op_yield hff (G.get hq ho) rfl (by rw[zH,Nat.add_zero,hpl,←Nat.add_zero ps.length,←zH];exact hlen) ?_
            rw[←rnum_rnd hq]
            refine hin h (G.enter F) rfl (G.evs hps) Oz ?_
            intro p v o' s' m' Q' O' L' Φ' hm' G' hp hk'
            split at hk'
            · next hc=>
              have G2:=G.exit (F'':=F) G' hc
              obtain⟨e',G3,h3⟩:=G2.set hp hk'
              exact hk e' _ s' m' Oz G3.good h3
            · cases hk'
          · cases h
        · cases h
      · cases h
    · split at h
      · next t t2 tr x y hts has=>
        split at h
        · next el2 px py hu2 hx hy=>
          exact appK_ok G hts has hu2 hx hy h (by simpa only[xk]using hB) (by simpa only[xk]using hk)
        · cases h
      · cases h
    · exact(hcp ⟨_,_,rfl⟩).elim
    · split at h
      · next x y has=>
        split at h
        · next a b hx hy=>
          obtain⟨e',G1,h1⟩:=G.set (p:=.one (.int .i64 (min a b))) (v:=.int .i64 (min a b)) rfl h
          exact op_min has (List.cons.inj (show [ze F x]=_ from G.ev hx)).1 (List.cons.inj (show [ze F y]=_ from G.ev hy)).1 (hk e' _ s m Oz G1.good h1)
        · cases h
      · cases h
    · split at h
      · next x y has=>
        split at h
        · next a b hx hy=>
          obtain⟨e',G1,h1⟩:=G.set (p:=.one (.int .i64 (max a b))) (v:=.int .i64 (max a b)) rfl h
          exact op_max has (List.cons.inj (show [ze F x]=_ from G.ev hx)).1 (List.cons.inj (show [ze F y]=_ from G.ev hy)).1 (hk e' _ s m Oz G1.good h1)
        · cases h
      · cases h
    · exact hpure rfl h
  · exact hpure rfl h
end
end Go.Proofs.YtocnbjjmmgolfaaGreat
namespace Go.Proofs.YtocnbjjmmgolfaaGreat
open Go Go.M Go.Proofs.C14
section
variable{I:zT}{Γ:TypeId→Option Ty}{T:FuncId→Option Con}{ρ:Type}{inl:Inl ρ}{rc:Nat}{W:Wd}{s0 s:St}{C:Cx}{QL:Qs}{stk:List Fra}{e:En}{F:FF}{m:Nat}{Q:Qs}{O:List (Option MObj)}{L Φ:Hp'}
theorem want_ok(G:GX QL W s0 s C stk e F m Q O L Φ){ops:List Oper}{o:Oper}{run skip:En→Option ρ}{r:ρ}(h:wantK C ops e o run skip=some r) :
  ∃e',GX QL W s0 s C stk e' F m Q O L Φ∧((yq ops F o=true∧run e'=some r)∨(yq ops F o=false∧skip e'=some r)):=by
 unfold wantK at h
 unfold yq
 split at h
 ·next hg=>rw[hg];exact⟨e,G,.inl ⟨rfl,h⟩⟩
 ·next j w hg=>
  rw[hg]
  simp only
  split at h
  ·next q hq=>
   rw[hq]
   simp only
   split at h
   ·next d hd=>
    rw[hd]
    simp only
    split at h
    ·next b hb=>
     have hv:F d=.bool b:=by
      have:=G.ev (x:=.tmp d) hb
      exact(List.cons.inj (show [F d]=[Value.bool b]from this)).1
     rw[hv]
     simp only
     split at h
     ·next hbt=>
      subst hbt
      have G1:=G.mark (x:=.tmp d) hb
      cases w with
      |true=>exact⟨_,G1,.inl ⟨rfl,h⟩⟩
      |false=>exact⟨_,G1,.inr ⟨rfl,h⟩⟩
     ·next hbf=>
      obtain rfl:b=false:=by simpa using hbf
      have G1:=G.mark (x:=.tmp d) hb
      cases w with
      |true=>exact⟨_,G1,.inr ⟨rfl,h⟩⟩
      |false=>exact⟨_,G1,.inl ⟨rfl,h⟩⟩
    ·next hb=>
     have hv:F d=undef:=G.ev (x:=.tmp d) hb
     rw[hv]
     exact⟨e,G,.inr ⟨rfl,h⟩⟩
    ·cases h
   ·next hd=>rw[hd];exact⟨e,G,.inr ⟨rfl,h⟩⟩
  ·next hq=>rw[hq];exact⟨e,G,.inr ⟨rfl,h⟩⟩
theorem ops_ok(hI:zQ I)(hT:ConI I T)(hin:InlOK I W s0 inl rc){ops:List Oper}{k:En→Option ρ}{r:ρ}{P:FF→St→Prop}:∀{l:List Oper} {s:St} {e:En} {F:FF} {m:Nat},qb QL W s0 s C stk e F m→opsK Γ T inl rc C ops l e k=some r→s0.next+(m+roomS T rc l)≤z3 →
  (∀e' F' s' m',m'≤m+roomS T rc l→qb QL W s0 s' C stk e' F' m'→k e'=some r→P F' s')→OpsW Tryz.prog I ops l F s P
 | [],s,e,F,m,G,h,hB,hk=>hk e F s m (Nat.le_add_right ..) G h
 |o::l,s,e,F,m,⟨Q,O,L,Φ,G⟩,h,hB,hk=>by
  simp only[roomS]at hB hk
  unfold opsK at h
  obtain⟨e1,G1,hh⟩:=want_ok G h
  rcases hh with⟨hw,h⟩|⟨hw,h⟩
  ·refine zJ hw (eff_ok (o:=o.op) hI hT hin G1 h Oz ?_)
   intro e' F' s' m' hm G2 h2
   exact ops_ok hI hT hin G2 h2 Oz fun e'' F'' s'' m'' hm'' G3 h3=>hk e'' F'' s'' m'' Oz G3 h3
  ·refine ops_off hw ?_
   obtain⟨e2,G2,h2⟩:=G1.set (p:=.undef) (v:=undef) rfl h
   exact ops_ok hI hT hin G2.good h2 Oz fun e'' F'' s'' m'' hm'' G3 h3=>hk e'' F'' s'' m'' Oz G3 h3
theorem ptr_ok(G:GX QL W s0 s C stk e F m Q O L Φ){p:Option Pv}{v:Value}(hp:∀x,p=some x→PvR (W.x Φ) Q x v)(h:ptrOK C e p=true):(∀a,v=.pointer (some a)→a.block<s.next)∧∀a n c,v=.slice (some a) n c→a.block<s.next:=by
 unfold ptrOK at h
 split at h
 ·next j off=>
  obtain⟨q,hq,hv⟩:=hp _ rfl
  have hv:=(List.cons.inj hv).1
  split at h
  ·next l ho=>
   obtain⟨q',o,hq',ho',c,t,rfl,_⟩:=G.at ho
   rw[hq]at hq';cases hq'
   refine⟨fun a ha=>?_,fun a n c ha=>?_⟩
   ·rw[hv]at ha;cases ha;exact G.lt hq ho'
   ·rw[hv]at ha;cases ha
  ·cases h
 ·next j=>
  obtain⟨q,hq,hv,_⟩:=hp _ rfl
  have hv:=(List.cons.inj hv).1
  split at h
  ·next t w τ l ho=>
   obtain⟨q',o,hq',ho',a,cap,hv',_,_,_,Y,_,hown,_⟩:=G.at ho
   rw[hq]at hq';cases hq'
   refine⟨fun a ha=>?_,fun a n c ha=>?_⟩
   ·rw[hv,hv']at ha;cases ha
   ·rw[hv,hv']at ha
    cases ha
    generalize hD:blkD q.2 o=D at hown
    generalize hsl:(Value.slice (some a) l.length cap)=sl at hown
    generalize Y.flatten=c at hown
    generalize l.length=n at hown hsl
    cases hown with
    |nil=>cases hsl
    |block b cap' _ _ hl hcap=>
     cases hsl
     cases o with
     |none=>cases hD
     |some o=>cases hD;exact G.lt hq ho'
  ·cases h
 ·next pv h1 h2=>
  have hp:=hp _ rfl
  cases pv with
  |undef=>rw[show v=undef from hp];exact⟨(fun _ h=>nomatch h),(fun _ _ _ h=>nomatch h)⟩
  |any=>cases h
  |agg=>obtain⟨c,rfl,_⟩:=hp;exact⟨(fun _ h=>nomatch h),(fun _ _ _ h=>nomatch h)⟩
  |tup=>obtain⟨c,rfl,_⟩:=hp;exact⟨(fun _ h=>nomatch h),(fun _ _ _ h=>nomatch h)⟩
  |clo=>obtain⟨c,rfl,_⟩:=hp;exact⟨(fun _ h=>nomatch h),(fun _ _ _ h=>nomatch h)⟩
  |one x=>
   cases x with
   |int=>rw[(List.cons.inj (show [v]=_ from hp)).1];exact⟨(fun _ h=>nomatch h),(fun _ _ _ h=>nomatch h)⟩
   |bool=>rw[(List.cons.inj (show [v]=_ from hp)).1];exact⟨(fun _ h=>nomatch h),(fun _ _ _ h=>nomatch h)⟩
   |nil=>rw[(List.cons.inj (show [v]=_ from hp)).1];exact⟨(fun _ h=>nomatch h),(fun _ _ _ h=>nomatch h)⟩
   |nilf=>rw[(List.cons.inj (show [v]=_ from hp)).1];exact⟨(fun _ h=>nomatch h),(fun _ _ _ h=>nomatch h)⟩
   |fn=>rw[(List.cons.inj (show [v]=_ from hp)).1];exact⟨(fun _ h=>nomatch h),(fun _ _ _ h=>nomatch h)⟩
   |nilp=>rw[(List.cons.inj (show [v]=_ from hp)).1];exact⟨(fun _ h=>nomatch h),(fun _ _ _ h=>nomatch h)⟩
   |cl=>obtain⟨cs,e1,_⟩:=hp;rw[(List.cons.inj e1).1];exact⟨(fun _ h=>nomatch h),(fun _ _ _ h=>nomatch h)⟩
   |yl=>obtain⟨q,_,e1⟩:=hp;rw[(List.cons.inj e1).1];exact⟨(fun _ h=>nomatch h),(fun _ _ _ h=>nomatch h)⟩
   |sp=>cases h
   |unk=>cases h
   |asl=>cases h
   |rat=>have e1:=RatC.len hp;cases e1
   |own j=>exact(h2 _ rfl).elim
   |ptr j off=>exact(h1 _ _ rfl).elim
   |op j w i off=>cases h
   |ep t w τ x off=>
    obtain⟨b,o,n,cap,L',kk,hS,hk,hR,hv⟩:=hp
    have hv:=(List.cons.inj hv).1
    refine⟨fun a ha=>?_,fun a n c ha=>by rw[hv]at ha;cases ha⟩
    rw[hv]at ha;cases ha
    have:=G.see.kn.s _ _ _ _ hS
    cases this with
    |nil c hv hl=>cases hv
    |block b' off' cap' c hv hgc hbn hcap hc=>cases hv;exact hbn
   |sl t w τ l=>
    obtain⟨a',cap,L',e1,hS,_⟩:=hp
    have hv:=(List.cons.inj e1).1
    refine⟨fun a ha=>(by rw[hv]at ha;cases ha),fun a n c ha=>?_⟩
    rw[hv]at ha;cases ha
    have:=G.see.kn.s _ _ _ _ hS
    cases this with
    |nil c hv hl=>cases hv
    |block b' off' cap' c hv hgc hbn hcap hc=>
     simp only[Value.slice.injEq,Option.some.injEq]at hv
     rw[hv.1];exact hbn
 ·cases h
def FreeI(C:Cx)(ops:List Oper)(e:En)(fr:List Nat):Prop:=∀i o t x j w n off,i∈fr→zM ops i=some o→o.op=.load t x→e.ev C x=some (.one (.op j w n off))→∃t' w' τ,∃(l:List τ.T) (y:τ.T),e.obj C j=some (.list t' w' τ l)∧idx l n=some y
theorem FreeI.tail{C:Cx}{ops:List Oper}{e:En}{i:Nat}{fr:List Nat}(h:FreeI C ops e (i::fr)):FreeI C ops e fr:=fun i o t x j w n off hi=>h i o t x j w n off (List.mem_cons_of_mem _ hi)
theorem freeI_ok{ops:List Oper}:∀{fr:List Nat} {k:Unit→Option ρ} {r:ρ},freeI C ops e fr k=some r→k ()=some r∧FreeI C ops e fr
 | [],k,r,h=>⟨h,fun i o t x j w n off hi=>by cases hi⟩
 |i::fr,k,r,h=>by
  have other:freeI C ops e fr k=some r→(∀o t x j w n off,zM ops i=some o→o.op=.load t x→e.ev C x=some (.one (.op j w n off))→False)→k ()=some r∧FreeI C ops e (i::fr):=fun h hn=>by
   obtain⟨h1,h2⟩:=freeI_ok h
   refine⟨h1,fun i' o t x j w n off hi ho hop hx=>?_⟩
   rcases List.mem_cons.mp hi with rfl|hi
   ·exact(hn o t x j w n off ho hop hx).elim
   ·exact h2 i' o t x j w n off hi ho hop hx
  simp only[freeI]at h
  split at h
  ·next o ho=>
   split at h
   ·next t x hop=>
    split at h
    ·next j w n off hx=>
     split at h
     ·next t' w' τ l hob=>
      obtain⟨y,hy,h⟩:=zA h
      obtain⟨h1,h2⟩:=freeI_ok h
      refine⟨h1,fun i' o' t2 x2 j2 w2 n2 off2 hi ho2 hop2 hx2=>?_⟩
      rcases List.mem_cons.mp hi with rfl|hi
      ·rw[ho]at ho2;cases ho2
       rw[hop]at hop2;cases hop2
       rw[hx]at hx2;cases hx2
       exact⟨_,_,_,_,_,hob,hy⟩
      ·exact h2 i' o' t2 x2 j2 w2 n2 off2 hi ho2 hop2 hx2
     ·cases h
    ·next hne=>
     refine other h ?_
     intro o' t2 x2 j2 w2 n2 off2 ho2 hop2 hx2
     rw[ho]at ho2;cases ho2
     rw[hop]at hop2;cases hop2
     exact hne _ _ _ _ hx2
   ·next hne=>
    refine other h ?_
    intro o' t2 x2 j2 w2 n2 off2 ho2 hop2 hx2
    rw[ho]at ho2;cases ho2
    exact hne _ _ hop2
  ·next hne=>
   refine other h ?_
   intro o' t2 x2 j2 w2 n2 off2 ho2 hop2 hx2
   rw[hne]at ho2;cases ho2
theorem op_blk(G:GX QL W s0 s C stk e F m Q O L Φ){j w off:Nat}{n:Int}{v:Value}{t' w':Nat}{τ:Ty}{l:List τ.T}{y:τ.T}(hv:PvR (W.x Φ) Q (.one (.op j w n off)) v)(hob:e.obj C j=some (.list t' w' τ l))(hi:idx l n=some y) :
  ∃q o,Q[j]? = some q∧O[j]? = some (some o)∧v=.pointer (some ⟨q.2,n.toNat*w+off,none⟩):=by
 obtain⟨q,hq,hvv⟩:=hv
 have hvv:=(List.cons.inj hvv).1
 obtain⟨q',o,hq',ho,a,cap,hv',_,_,_,Y,_,hown,_⟩:=G.at hob
 rw[hq]at hq';cases hq'
 obtain⟨hi0,hi1,hi2⟩:=idx_some hi
 have hl:=(List.getElem?_eq_some_iff.mp hi2).1
 generalize hD:blkD q.2 o=D at hown
 generalize hsl:(Value.slice a l.length cap)=sl at hown
 generalize Y.flatten=c at hown
 generalize hn:l.length=n' at hown hsl
 cases hown with
 |nil=>omega
 |block b cap' _ _ hl hcap=>
  cases o with
  |none=>cases hD
  |some o=>exact⟨q,o,hq,ho,hvv⟩
theorem free_ok(G:GX QL W s0 s C stk e F m Q O L Φ){ops:List Oper}:∀{fr:List Nat},freeK C ops e fr=true→FreeI C ops e fr→∀p,p∈yo ops F fr→p<s.next
 | [],_,_,p,hp=>by cases hp
 |i::r,h,hI,p,hp=>by
  simp only[freeK,Bool.and_eq_true]at h
  obtain⟨h1,h2⟩:=h
  have ih:=free_ok G (ops:=ops) h2 hI.tail
  simp only[yo]at hp
  split at hp
  ·next o ho=>
   simp only[ho]at h1
   split at hp
   ·next b hb=>
    rcases List.mem_cons.mp hp with rfl|hp
    ·unfold yp at hb
     split at hb
     ·next t x hop=>
      simp only[hop,Bool.or_eq_true]at h1
      split at hb
      ·next a ha=>
       cases hb
       rcases h1 with h1|h1
       ·unfold opB at h1
        split at h1
        ·next j w n off hx=>
         obtain⟨t',w',τ,l,y,hob,hi⟩:=hI i o t x j w n off (List.mem_cons_self ..) ho hop hx
         obtain⟨q,oo,hq,hoo,hv⟩:=op_blk G (G.ev hx) hob hi
         rw[hv]at ha;cases ha
         exact G.lt hq hoo
        ·cases h1
       ·exact(ptr_ok G (fun y hy=>G.ev hy) h1).1 _ ha
      ·cases hb
     ·next t x lo hi hop=>
      simp only[hop]at h1
      split at hb
      ·next a _ _ ha=>cases hb;exact(ptr_ok G (fun y hy=>G.ev hy) h1).2 _ _ _ ha
      ·next a ha=>cases hb;exact(ptr_ok G (fun y hy=>G.ev hy) h1).1 _ ha
      ·cases hb
     ·next t hop=>
      simp only[hop]at h1
      split at hb
      ·next d hd=>
       simp only[hd]at h1
       split at hb
       ·next a ha=>cases hb;exact(ptr_ok G (fun y hy=>G.ev (x:=.tmp d) hy) h1).1 _ ha
       ·cases hb
      ·cases hb
     ·next t n ps hop=>
      simp only[hop]at h1
      split at hb
      ·next d hd=>
       simp only[hd]at h1
       split at hb
       ·next a _ _ ha=>cases hb;exact(ptr_ok G (fun y hy=>G.ev (x:=.tmp d) hy) h1).2 _ _ _ ha
       ·cases hb
      ·cases hb
     ·cases hb
    ·exact ih p hp
   ·exact ih p hp
  ·exact ih p hp
end
end Go.Proofs.YtocnbjjmmgolfaaGreat
