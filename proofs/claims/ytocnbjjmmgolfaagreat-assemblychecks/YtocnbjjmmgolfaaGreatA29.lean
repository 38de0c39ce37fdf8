/- The evaluator: operations that write nothing. -/
/- The evaluator: operations that write nothing, joined. -/
/- The evaluator: its objects and the heap. -/
/- The evaluator: writing, freezing, calls. -/
/- The evaluator: calls with known outcomes; single operations. -/
import Derived.Test.YtocnbjjmmgolfaaGreatA28
namespace Go.Proofs.YtocnbjjmmgolfaaGreat
open Go Go.M Go.Proofs.C14
theorem yc{α ρ:Type}{o:Option α}{k:α→Option ρ}{r:ρ}(h:kO o k=some r):∃x,o=some x∧k x=some r:=by
 cases o with
 |none=>cases h
 |some x=>exact⟨x,rfl,h⟩
theorem zA{α ρ:Type}{o:Option α}{k:α→Option ρ}{r:ρ}(h:o.bind k=some r):∃x,o=some x∧k x=some r:=by
 cases o with
 |none=>cases h
 |some x=>exact⟨x,rfl,h⟩
structure See(W:Wd)(Q:Qs)(C:Cx)(e:En)(F:FF)(s:St):Prop where
 ev:∀x p,e.ev C x=some p→PvR W Q p (ze F x)
 cel:∀j l,e.obj C j=some (.cells l)→∃q c t,Q[j]? = some q∧q.2<s.next∧s.get q.2=some (.cells c t)∧LsR W Q l c
 lst:∀j t w τ l,e.obj C j=some (.list t w τ l)→∃q a cap,Q[j]? = some q∧q.1=.slice a l.length cap∧∀(k:Nat) (x:τ.T),l[k]? = some x→∃c tt L,a=some ⟨q.2,0,none⟩∧q.2<s.next∧s.get q.2=some (.cells c tt)∧xd w (xx (k*w) c)=some L∧Rep W τ L x
 kn:Knw s W
section
variable{W:Wd}{D:Hp'}{Q:Qs}{C:Cx}{e:En}{F:FF}{s s':St}{ρ:Type}{r:ρ}{k:Pv→Option ρ}
theorem cmp_ok{o:BinOp}{a b:Int}{c:Bool}(h:cmpZ o a b=some c):yI o a b=some (.bool c):=by
 unfold cmpZ at h
 split at h<;>cases h
 ·simp only[yI,ile_iff];congr 2;rw[←decide_not];exact decide_eq_decide.mpr Oz
 ·simp only[yI,ile_iff]
 ·simp only[yI,ile_iff];congr 2;rw[←decide_not];exact decide_eq_decide.mpr Oz
 ·simp only[yI,ile_iff]
 ·simp only[yI,ieq_iff]
 ·simp only[yI,ieq_iff];congr 2;rw[←decide_not]
theorem uZ_some{x z:Int}(h:uZ x=some z):z=x∧InU x:=by
 unfold uZ at h
 split at h
 ·next hx=>cases h;exact⟨rfl,by unfold InU;omega⟩
 ·cases h
theorem bin_ok{sk:St}(hkn:Knw sk W){o:BinOp}{t:TypeId}{x y:Pv}{v w:Value}(hx:PvR W Q x v)(hy:PvR W Q y w)(h:binK o t x y k=some r)(s:St) :
  ∃p u,qt Tryz.prog o t v w s=.ok (.value u) s∧PvR W Q p u∧k p=some r:=by
 unfold binK at h
 split at h
 ·next a b=>
  cases hx;cases hy
  split at h
  ·next c hc=>exact⟨.one (.bool c),.bool c,by simp only[qt,intM,cmp_ok hc];rfl,rfl,h⟩
  ·split at h
   ·obtain⟨z,hz,h⟩:=zA h
    obtain⟨rfl,hz'⟩:=i64_some hz
    exact⟨.one (.int .i64 (a+b)),.int .i64 (a+b),by simp only[qt,intM,yI,fits_in hz'];rfl,rfl,h⟩
   ·obtain⟨z,hz,h⟩:=zA h
    obtain⟨rfl,hz'⟩:=i64_some hz
    exact⟨.one (.int .i64 (a-b)),.int .i64 (a-b),by simp only[qt,intM,yI,fits_in hz'];rfl,rfl,h⟩
   ·obtain⟨z,hz,h⟩:=zA h
    obtain⟨rfl,hz'⟩:=i64_some hz
    exact⟨.one (.int .i64 (a*b)),.int .i64 (a*b),by simp only[qt,intM,yI,fits_in hz'];rfl,rfl,h⟩
   ·split at h
    ·cases h
    ·next hb=>exact⟨.one (.int .i64 (a.tmod b)),.int .i64 (a.tmod b),by simp only[qt,intM,yI,Go.binOp,Op.intDiv,if_neg hb];rfl,rfl,h⟩
   ·split at h
    ·cases h
    ·next hb=>
     obtain⟨z,hz,h⟩:=zA h
     obtain⟨rfl,hz'⟩:=i64_some hz
     exact⟨.one (.int .i64 (a.tdiv b)),.int .i64 (a.tdiv b),by simp only[qt,intM,yI,Go.binOp,Op.intDiv,if_neg hb,wrap_in hz'];rfl,rfl,h⟩
   ·split at h
    ·next hb=>
     obtain⟨z,hz,h⟩:=zA h
     obtain⟨rfl,hz'⟩:=i64_some hz
     have hm:min b.toNat 64=b.toNat:=by omega
     exact⟨.one (.int .i64 (a*2 ^ b.toNat)),.int .i64 (a*2 ^ b.toNat),by simp only[qt,intM,yI,Go.binOp,Op.shift,if_neg (show ¬b<0 by omega),show IntKind.i64.bits=64 from rfl,hm,wrap_in hz'];rfl,rfl,h⟩
    ·cases h
   ·split at h
    ·next hb=>exact⟨.one (.int .i64 (a.fdiv (2 ^ min b.toNat 64))),.int .i64 (a.fdiv (2 ^ min b.toNat 64)),by simp only[qt,intM,yI,Go.binOp,Op.shift,if_neg (show ¬b<0 by omega),show IntKind.i64.bits=64 from rfl];rfl,rfl,h⟩
    ·cases h
   ·exact⟨.one (.int .i64 (andI a b)),.int .i64 (andI a b),by simp only[qt,intM,yI,Go.binOp,Op.intBits];rfl,rfl,h⟩
   ·exact⟨.one (.int .i64 (orI a b)),.int .i64 (orI a b),by simp only[qt,intM,yI,Go.binOp,Op.intBits];rfl,rfl,h⟩
   ·cases h
 ·next a b=>
  cases hx;cases hy
  split at h
  ·exact⟨.one (.bool (decide (a<b))),.bool (decide (a<b)),by simp only[qt,intM,Go.binOp,Op.intCmp];rfl,rfl,h⟩
  ·refine⟨.one (.bool (decide (a=b))),.bool (decide (a=b)),?_,rfl,h⟩
   simp only[qt,intM,Go.binOp,Op.intCmp]
   by_cases e:a=b
   ·have:(a==b)=true:=by simpa using e
    simp[e];rfl
   ·have:(a==b)=false:=by simpa using e
    simp[this,e];rfl
  ·obtain⟨z,hz,h⟩:=zA h
   obtain⟨rfl,hz'⟩:=uZ_some hz
   refine⟨.one (.int .u64 (a*b)),.int .u64 (a*b),?_,rfl,h⟩
   simp only[qt,intM,Go.binOp,Op.intArith]
   rw[if_neg Uz,wrapU_in hz']
   rfl
  ·split at h
   ·cases h
   ·next hb=>exact⟨.one (.int .u64 (a.tmod b)),.int .u64 (a.tmod b),by simp only[qt,intM,Go.binOp,Op.intDiv,if_neg hb];rfl,rfl,h⟩
  ·split at h
   ·cases h
   ·next hb=>
    obtain⟨z,hz,h⟩:=zA h
    obtain⟨rfl,hz'⟩:=uZ_some hz
    exact⟨.one (.int .u64 (a.tdiv b)),.int .u64 (a.tdiv b),by simp only[qt,intM,Go.binOp,Op.intDiv,if_neg hb,wrapU_in hz'];rfl,rfl,h⟩
  ·cases h
 ·next a b=>
  cases hx;cases hy
  split at h
  ·next hu=>
   split at h
   ·exact⟨.one (.bool (a==b)),.bool (a==b),by simp only[qt,eqM,hu,eqV];rfl,rfl,h⟩
   ·exact⟨.one (.bool (!(a==b))),.bool (!(a==b)),by simp only[qt,eqM,hu,eqV];rfl,rfl,h⟩
   ·cases h
  ·cases h
 ·next t' w' τ' l=>
  split at h
  ·next el hu=>
   split at h
   ·next hl=>
    obtain⟨a,cap,L,e1,hS,hLn,_⟩:=(show Rep W (.sl t' w' τ') [v] l from hx)
    obtain⟨b,off,c,rfl,_⟩:=(hkn.s _ _ _ _ hS).at (i:=0) (k:=0) rfl Oz
    refine⟨.one (.bool false),.bool false,?_,rfl,h⟩
    rw[(List.cons.inj e1).1,(List.cons.inj (show [w]=[.slice none 0 0]from hy)).1]
    simp only[qt,eqM,hu,eqV]
    rfl
   ·cases h
  ·cases h
 ·cases h
theorem ptrs_ok:∀{l:List Lf} {js:List Nat} {c:List Value},LsR W Q l c→ptrsK l=some js→JsR Q js c
 | [],js,c,h,hj=>by cases hj;exact h
 | .ptr j 0::r,js,c,⟨c1,c2,e,⟨q,h1,h2⟩,h3⟩,hj=>by
  simp only[ptrsK]at hj
  split at hj
  ·next l hl=>cases hj;subst h2;exact⟨q,c2,h1,e,ptrs_ok h3 hl⟩
  ·cases hj
theorem leaves_ok{x:Pv}{l:List Lf}{v:Value}(hx:PvR W Q x v)(hl:leavesOf x=some l):LsR W Q l (yk v):=by
 unfold leavesOf at hl
 split at hl
 ·next y=>
  cases hl
  have hc:yk v=[v]:=by
   have hp:=LfR.plain (c:=[v]) hx
   cases v<;>first|rfl|(simp[Go.M.plainCell]at hp)
  rw[hc]
  exact LsR.one hx
 ·cases hl;obtain⟨c,rfl,hx⟩:=hx;exact hx
 ·next f l=>
  split at hl
  ·next js hjs=>
   cases hl
   obtain⟨cs,rfl,hx⟩:=hx
   exact LsR.one ⟨cs,rfl,ptrs_ok hx hjs⟩
  ·cases hl
 ·cases hl
theorem zleaf_ok{W:Wd}{D:Hp'}{Q:Qs}(τ:Ty):∀{c:List Value} {l:List Lf} {r:List Value},zleaf τ c=some (l,r)→∃c1,c=c1++r∧LsR (W.x D) Q l c1:=by
 induction τ with
 |int k=>
  intro c l r h
  simp only[zleaf]at h
  unfold zI at h
  split at h
  ·split at h
   ·next hk=>cases h;subst hk;exact⟨[_],rfl,LsR.one rfl⟩
   ·cases h
  ·cases h
 |bool=>
  intro c l r h
  simp only[zleaf]at h
  unfold zB at h
  split at h<;>cases h
  exact⟨[_],rfl,LsR.one rfl⟩
 |rat=>
  intro c l r h
  simp only[zleaf]at h
  unfold zR at h
  split at h<;>cases h
  exact⟨[_,_,_,_],rfl,LsR.one (x:=.rat 0) rat0⟩
 |sl t w τ ih=>
  intro c l r h
  simp only[zleaf]at h
  unfold zS at h
  split at h<;>cases h
  exact⟨[_],rfl,LsR.one rfl⟩
 |one a ih=>intro c l r h;simp only[zleaf]at h;exact ih h
 |pair a b iha ihb=>
  intro c l r h
  simp only[zleaf]at h
  split at h
  ·next x r1 hx=>
   obtain⟨c1,rfl,h1⟩:=iha hx
   split at h
   ·next y r2 hy=>
    cases h
    obtain⟨c2,rfl,h2⟩:=ihb hy
    exact⟨c1++c2,(List.append_assoc ..).symm,h1.append h2⟩
   ·cases h
  ·cases h
 |tup a b=>intro c l r h;simp only[zleaf]at h;cases h
 |tup3 a b c=>intro c l r h;simp only[zleaf]at h;cases h
theorem zleaves_ok{τ:Ty}{c:List Value}{l:List Lf}(h:zleaves τ c=some l):LsR (W.x D) Q l c:=by
 unfold zleaves at h
 split at h
 ·next l' hl=>
  cases h
  obtain⟨c1,rfl,h1⟩:=zleaf_ok (D:=D) (W:=W) (Q:=Q) τ hl
  rw[List.append_nil];exact h1
 ·cases h
theorem readN_ok{τ:Ty}:∀{n:Nat} {l:List Lf} {c:List Value} {xs:List τ.T},LsR (W.x D) Q l c→readN τ n l=some xs→∃Y:List (List Value),Y.flatten=c∧Y.length=n∧xs.length=n∧(∀y∈Y,y.length=τ.sz)∧∀(k:Nat) x,xs[k]? = some x→Rep (W.x D) τ (Y.getD k []) x
 |0,[],c,xs,h,hr=>by cases hr;exact⟨[],(show c=[]from h).symm,rfl,rfl,(fun _ h=>nomatch h),fun k x h=>by simp at h⟩
 |0,_::_,c,xs,h,hr=>by simp only[readN]at hr;cases hr
 |n+1,l,c,xs,h,hr=>by
  simp only[readN]at hr
  split at hr
  ·next x l' hx=>
   split at hr
   ·next ys hys=>
    cases hr
    obtain⟨c1,c2,rfl,h1,h2⟩:=read_ok τ h hx
    obtain⟨Y,e1,e2,e3,e4,e5⟩:=readN_ok h2 hys
    refine⟨c1::Y,by rw[List.flatten_cons,e1],by rw[List.length_cons,e2],by rw[List.length_cons,e3],fun y hy=>?_,fun k z hz=>?_⟩
    ·rcases List.mem_cons.mp hy with rfl|hy
     ·exact Rep.len h1
     ·exact e4 y hy
    ·cases k with
     |zero=>simp only[List.getElem?_cons_zero,Option.some.injEq]at hz;subst hz;exact h1
     |succ k=>simp only[List.getElem?_cons_succ]at hz;exact e5 k z hz
   ·cases hr
  ·cases hr
theorem fill_ok{place:Nat→Option (Nat×Nat)}(hev:∀x p,e.ev C x=some p→PvR W Q p (ze F x)):∀{parts:List (Nat×Operand)} {l r:List Lf} {c:List Value},LsR W Q l c→fillK C e place parts l=some r→∃c',xZ place (ze F) parts c=some c'∧LsR W Q r c'
 | [],l,r,c,h,hf=>by cases hf;exact⟨c,rfl,h⟩
 |(i,x)::ps,l,r,c,h,hf=>by
  unfold fillK at hf
  split at hf
  ·next off size v hp hv=>
   split at hf
   ·next l' hl'=>
    have hls:=leaves_ok (hev _ _ hv) hl'
    split at hf
    ·next c1 hw hpu=>
     obtain⟨c2,h1,h2⟩:=h.put hls hpu
     obtain⟨c3,h3,h4⟩:=fill_ok hev h2 hf
     refine⟨c3,?_,h4⟩
     simp only[xZ,hp,zH,Nat.add_zero,hls.len,hw,h1]
     exact h3
    ·cases hf
   ·cases hf
  ·cases hf
theorem caps_ok(hev:∀x p,e.ev C x=some p→PvR W Q p (ze F x)):∀{l:List Operand} {ls:List Lf},capsK C e l=some ls→LsR W Q ls (yw (ze F) l)
 | [],ls,h=>by cases h;rfl
 |x::r,ls,h=>by
  unfold capsK at h
  split at h
  ·next y l hy hl=>
   cases h
   exact⟨[ze F x],yw (ze F) r,rfl,hev _ _ hy,caps_ok hev hl⟩
  ·cases h
theorem ltake_two{a b o:Nat}{l x y:List Value}(h:xd a (xx o l)=some x)(g:xd b (xx (o+a) l)=some y):xd (a+b) (xx o l)=some (x++y):=by
 rw[y5,y6]at h g ⊢
 split at h
 ·next h1=>
  cases h
  split at g
  ·next h2=>
   cases g
   rw[List.length_drop]at h1 h2
   rw[if_pos (by rw[List.length_drop];omega),List.take_add,List.drop_drop]
  ·cases g
 ·cases h
theorem load_ok{t:TypeId}{x:Operand}{a:Pv}(hs:See (W.x D) Q C e F s)(hb:∀p,ze F x=.pointer (some p)→p.block<s.next→s'.get p.block=s.get p.block)(ha:PvR (W.x D) Q a (ze F x))(h:loadK C e t a k=some r) :
  ∃p v,loadM Tryz.prog t (ze F x) s'=.ok (.value v) s'∧PvR (W.x D) Q p v∧k p=some r:=by
 unfold loadK at h
 split at h
 ·next j off=>
  obtain⟨q,hq,hx⟩:=ha
  simp only[List.cons.injEq,and_true]at hx
  split at h
  ·next l ho=>
   obtain⟨p,hp,h⟩:=yc h
   obtain⟨q',c,tt,hq',hlt,hc,hl⟩:=hs.cel _ _ ho
   rw[hq]at hq';cases hq'
   have hg:=hb _ hx hlt
   obtain⟨v,h1,h2⟩:=cut_ok hl hp
   refine⟨p,v,?_,h2,h⟩
   simp only[loadM,loadV,hx,hg,hc,h1];rfl
  ·cases h
 ·next t' w τ y off=>
  obtain⟨b,o,n,cap,L,kk,hS,hk,hR,hx⟩:=ha
  simp only[List.cons.injEq,and_true]at hx
  obtain⟨p,hp,h⟩:=yc h
  have hsl:=hs.kn.s _ _ _ _ hS
  cases hsl with
  |nil c hv hl=>cases hv
  |block b' off' cap' c hv hgc hbn hcap hc=>
   cases hv
   obtain⟨v,h1,h2⟩:=cut_ok (qD (Q:=Q) hR) hp
   refine⟨p,v,?_,h2,h⟩
   have hcc:=hc kk hk
   have hg:=hb _ hx hbn
   have key:cutL (yH Tryz.prog t) (o+kk*w+off) c=some v:=by
    unfold cutL at h1 ⊢
    split at h1
    ·exact part1 hcc h1
    ·next n'=>
     split at h1
     ·next l' hl'=>
      cases h1
      rw[part_of hcc hl']
     ·cases h1
    ·cases h1
   simp only[loadM,loadV,hx,hg,hgc,key];rfl
 ·next j w i off=>
  obtain⟨q,hq,hx⟩:=ha
  simp only[List.cons.injEq,and_true]at hx
  split at h
  ·next t' w' τ l ho=>
   split at h
   ·next hw=>
    obtain rfl:=Nat.eq_of_beq_eq_true hw
    obtain⟨y,hy,h⟩:=zA h
    obtain⟨p,hp,h⟩:=yc h
    obtain⟨q',a,cap,hq',hv,hl⟩:=hs.lst _ _ _ _ _ ho
    rw[hq]at hq';cases hq'
    obtain⟨hi0,hi1,hi2⟩:=idx_some hy
    obtain⟨c,tt,L,ea,hlt,hgc,hcc,hR⟩:=hl _ _ hi2
    have hg:=hb _ hx hlt
    obtain⟨v,h1,h2⟩:=cut_ok (qD (Q:=Q) hR) hp
    refine⟨p,v,?_,h2,h⟩
    have key:cutL (yH Tryz.prog t) (i.toNat*w'+off) c=some v:=by
     unfold cutL at h1 ⊢
     split at h1
     ·exact part1 hcc h1
     ·next n'=>
      split at h1
      ·next l' hl'=>
       cases h1
       rw[part_of hcc hl']
      ·cases h1
     ·cases h1
    simp only[loadM,loadV,hx,hg,hgc,key];rfl
   ·cases h
  ·cases h
 ·next t' w τ l=>
  obtain⟨b,o,n,cap,L,hx,hS,hn,hR⟩:=ha
  simp only[List.cons.injEq,and_true]at hx
  split at h
  ·next m hsh=>
   split at h
   ·next hck=>
    simp only[Bool.and_eq_true]at hck
    have hm:=Nat.eq_of_beq_eq_true hck.1
    have hw:=Nat.eq_of_beq_eq_true hck.2
    have hsl:=hs.kn.s _ _ _ _ hS
    cases hsl with
    |nil c hv hl=>cases hv
    |block b' off' cap' c hv hgc hbn hcap hc=>
     cases hv
     have hg:=hb _ hx hbn
     have key:∀(n i:Nat) (r:ρ) (k:List Lf→Option ρ),firstK l n i k=some r→∃ls cs,xd (n*w) (xx (o+i*w) c)=some cs∧LsR (W.x D) Q ls cs∧k ls=some r:=by
      intro n
      induction n with
      |zero=>intro i r k h;exact⟨[],[],by rw[Nat.zero_mul];rfl,rfl,h⟩
      |succ n ih=>
       intro i r k h
       simp only[firstK]at h
       obtain⟨y,hy,h⟩:=zA h
       obtain⟨hi0,hi1,hi2⟩:=idx_some hy
       simp only[Int.toNat_natCast]at hi2
       obtain⟨ls,cs,g1,g2,g3⟩:=ih _ _ _ h
       have hil:i<l.length:=(List.getElem?_eq_some_iff.mp hi2).1
       have hcc:=hc i Oz
       have hrep:=hR _ _ hi2
       refine⟨flat τ y++ls,_,?_,(qD hrep).append g2,g3⟩
       rw[Nat.add_mul,Nat.one_mul,Nat.add_comm (n*w) w]
       refine ltake_two hcc ?_
       rw[show o+i*w+w=o+(i+1)*w by rw[Nat.add_mul,Nat.one_mul,Nat.add_assoc]]
       exact g1
     obtain⟨ls,cs,g1,g2,g3⟩:=key _ _ _ _ h
     rw[hm,Nat.zero_mul,Nat.add_zero]at g1
     refine⟨.agg ls,.agg ⟨cs⟩,?_,⟨cs,rfl,g2⟩,g3⟩
     simp only[loadM,loadV,hx,hg,hgc,hsh,cutL,g1];rfl
   ·cases h
  ·cases h
 ·cases h
theorem fieldAddr_ok{t:TypeId}{f:Nat}{a p:Pv}{v:Value}(ha:PvR W Q a v)(h:fieldAddrK t f a=some p)(s:St):∃u,fieldM Tryz.prog t v f s=.ok (.value u) s∧PvR W Q p u:=by
 unfold fieldAddrK at h
 split at h
 ·next j off n ho=>
  cases h
  obtain⟨q,hq,hx⟩:=ha
  simp only[List.cons.injEq,and_true]at hx
  subst hx
  exact⟨_,by simp only[fieldM,ho];rfl,q,hq,by simp only[Nat.add_assoc]⟩
 ·next t' w τ x off n ho=>
  cases h
  obtain⟨b,o,n',cap,L,kk,hS,hk,hR,hx⟩:=ha
  simp only[List.cons.injEq,and_true]at hx
  subst hx
  exact⟨_,by simp only[fieldM,ho];rfl,b,o,n',cap,L,kk,hS,hk,hR,by simp only[Nat.add_assoc]⟩
 ·next j w i off n ho=>
  cases h
  obtain⟨q,hq,hx⟩:=ha
  simp only[List.cons.injEq,and_true]at hx
  subst hx
  exact⟨_,by simp only[fieldM,ho];rfl,q,hq,by simp only[Nat.add_assoc]⟩
 ·cases h
end
end Go.Proofs.YtocnbjjmmgolfaaGreat
namespace Go.Proofs.YtocnbjjmmgolfaaGreat
open Go Go.M Go.Proofs.C14
section
variable{W:Wd}{D:Hp'}{Q:Qs}{C:Cx}{e:En}{F:FF}{s s':St}{ρ:Type}{r:ρ}{k:Pv→Option ρ}
theorem indexM_S{t:TypeId}{b off len cap n sz j:Nat}{kd:IntKind}(he:elemF Tryz.prog t=some (true,n,sz)):qB Tryz.prog t (.slice (some ⟨b,off,none⟩) len cap) (.int kd (j:Int)) s'=yP j len b off sz s':=by
 show qB Tryz.prog t _ (.int kd (.ofNat j)) s'=_
 simp only[qB,he]
theorem indexAddr_ok{t:TypeId}{a i:Pv}{v u:Value}(hs:See W Q C e F s)(ha:PvR W Q a v)(hi:PvR W Q i u)(h:indexAddrK C e t a i k=some r)(s':St) :
  ∃p w,qB Tryz.prog t v u s'=.ok (.value w) s'∧PvR W Q p w∧k p=some r:=by
 unfold indexAddrK at h
 split at h
 ·next kd i n sz t' w τ l he=>
  cases hi
  split at h
  ·next hw=>
   obtain rfl:=Nat.eq_of_beq_eq_true hw
   obtain⟨x,hx,hh⟩:=zA h
   obtain⟨h0,h1,h2⟩:=idx_some hx
   obtain⟨a',cap,L,e1,hS,hn,hl⟩:=ha
   simp only[List.cons.injEq,and_true]at e1
   subst e1
   obtain⟨j,rfl⟩:=Int.eq_ofNat_of_zero_le h0
   obtain⟨b,off,c,rfl,hg,hb,hc⟩:=(hs.kn.s _ _ _ _ hS).at (i:=(j:Int)) (k:=j) Oz Oz
   have hlt:Nat.blt j l.length=true:=blt_true Oz
   refine⟨.one (.ep t' w τ x 0),.pointer (some ⟨b,off+j*w,none⟩),?_,⟨b,off,l.length,cap,L,j,hS,by omega,hl _ _ h2,by simp only[Nat.add_zero]⟩,hh⟩
   rw[indexM_S he];simp only[yP,hlt];rfl
  ·cases h
 ·next kd i n sz j he=>
  cases hi
  split at h
  ·next t' w τ l ho=>
   split at h
   ·next hw=>
    obtain rfl:=Nat.eq_of_beq_eq_true hw
    obtain⟨x,hx,hh⟩:=zA h
    obtain⟨h0,h1,h2⟩:=idx_some hx
    obtain⟨q,a,cap,hq,hv,hl⟩:=hs.lst _ _ _ _ _ ho
    obtain⟨q',hq',e1,_⟩:=ha
    rw[hq]at hq';cases hq'
    simp only[List.cons.injEq,and_true]at e1
    obtain⟨c,tt,L,ea,_,hgc,hcc,hR⟩:=hl _ _ h2
    rw[hv,ea]at e1
    subst e1
    obtain⟨j',rfl⟩:=Int.eq_ofNat_of_zero_le h0
    have hlt:Nat.blt j' l.length=true:=blt_true Oz
    refine⟨.one (.op j w (j':Int) 0),.pointer (some ⟨q.2,0+j'*w,none⟩),?_,⟨q,hq,by simp only[Nat.add_zero,Nat.zero_add,Int.toNat_natCast]⟩,hh⟩
    rw[indexM_S he];simp only[yP,hlt];rfl
   ·cases h
  ·cases h
 ·next kd i n sz j m he=>
  cases hi
  split at h
  ·next hlt=>
   obtain⟨q,hq,hx⟩:=ha
   simp only[List.cons.injEq,and_true]at hx
   subst hx
   refine⟨.one (.ptr j (0+i*sz)),.pointer (some ⟨q.2,0+i*sz,none⟩),?_,⟨q,hq,rfl⟩,h⟩
   show qB Tryz.prog t _ (.int kd (.ofNat i)) s'=_
   simp only[qB,he,yP,hlt];rfl
  ·cases h
 ·next kd i n sz j off he=>
  cases hi
  split at h
  ·next hlt=>
   obtain⟨q,hq,hx⟩:=ha
   simp only[List.cons.injEq,and_true]at hx
   subst hx
   refine⟨.one (.ptr j (off+i*sz)),.pointer (some ⟨q.2,off+i*sz,none⟩),?_,⟨q,hq,rfl⟩,h⟩
   simp only[qB,he,yP,hlt];rfl
  ·cases h
 ·next kd i n sz t' w τ x off he=>
  cases hi
  split at h
  ·next hlt=>
   obtain⟨b,o,n',cap,L,kk,hS,hk,hR,hx⟩:=ha
   simp only[List.cons.injEq,and_true]at hx
   subst hx
   refine⟨.one (.ep t' w τ x (off+i*sz)),.pointer (some ⟨b,o+kk*w+off+i*sz,none⟩),?_,⟨b,o,n',cap,L,kk,hS,hk,hR,by simp only[Nat.add_assoc]⟩,h⟩
   simp only[qB,he,yP,hlt];rfl
  ·cases h
 ·next kd i n sz j w x off he=>
  cases hi
  split at h
  ·next hlt=>
   obtain⟨q,hq,hx⟩:=ha
   simp only[List.cons.injEq,and_true]at hx
   subst hx
   refine⟨.one (.op j w x (off+i*sz)),.pointer (some ⟨q.2,x.toNat*w+off+i*sz,none⟩),?_,⟨q,hq,by simp only[Nat.add_assoc]⟩,h⟩
   simp only[qB,he,yP,hlt];rfl
  ·cases h
 ·cases h
theorem field_ok{t:TypeId}{a p:Pv}{f:Nat}{v:Value}(ha:PvR W Q a v)(h:fieldK t a f=some p)(s':St):∃w,fieldV Tryz.prog t v f s'=.ok (.value w) s'∧PvR W Q p w:=by
 unfold fieldK at h
 split at h
 ·next l fs hu=>
  obtain⟨c,rfl,ha⟩:=ha
  split at h
  ·next fd hf=>
   obtain⟨w,h1,h2⟩:=cut_ok ha h
   exact⟨w,by simp only[fieldV,hu,hf,h1];rfl,h2⟩
  ·cases h
 ·cases h
theorem index_ok{Γ:TypeId→Option Ty}{t:TypeId}{a i:Pv}{v u:Value}(ha:PvR (W.x D) Q a v)(hi:PvR (W.x D) Q i u)(h:indexK Γ t a i k=some r)(s':St):∃p w,indexV Tryz.prog t v u s'=.ok (.value w) s'∧PvR (W.x D) Q p w∧k p=some r:=by
 unfold indexK at h
 split at h
 ·next kd i l len el hu=>
  cases hi
  obtain⟨c,rfl,ha⟩:=ha
  split at h
  ·next τ inf hΓ hin=>
   split at h
   ·next xs hck hxs=>
    simp only[Bool.and_eq_true]at hck
    obtain⟨x,hx,hh⟩:=zA h
    obtain⟨h0,h1,h2⟩:=idx_some hx
    obtain⟨Y,e1,e2,e3,e4,e5⟩:=readN_ok ha hxs
    obtain⟨n,rfl⟩:=Int.eq_ofNat_of_zero_le h0
    have hlt:Nat.blt n len=true:=blt_true Oz
    have hsz:=Nat.eq_of_beq_eq_true hck.2
    have hrep:=e5 _ _ h2
    simp only[Int.toNat_natCast]at hrep
    have hcut:=flat_get e4 (k:=n) Oz
    rw[Nat.zero_add,e1]at hcut
    have key:∃w,cutL (yH Tryz.prog el) (n*inf.size) c=some w∧PvR (W.x D) Q (pvQ (τ.isAgg,flat τ x)) w:=by
     rw[←hsz]
     have hlk:=hck.1
     unfold likeK at hlk
     split at hlk
     ·next hsh=>
      rw[hsh]
      simp only[Bool.and_eq_true,Bool.not_eq_true']at hlk
      have h1':=Nat.eq_of_beq_eq_true hlk.2
      have hl:=Rep.len hrep
      rw[h1']at hl
      obtain⟨w,hw⟩:=List.length_eq_one_iff.mp hl
      rw[hw,h1']at hcut
      refine⟨w,?_,?_⟩
      ·rw[h1'];exact part1 (o:=0) hcut rfl
      ·rw[hlk.1]
       rw[hw]at hrep
       cases τ with
       |int k=>exact(show LfR (W.x D) Q (.int k x) [w]from hrep)
       |bool=>exact(show LfR (W.x D) Q (.bool x) [w]from hrep)
       |sl t w' e=>exact(show LfR (W.x D) Q (.sl t w' e x) [w]from hrep)
       |tup=>exact hrep.elim
       |tup3=>exact hrep.elim
       |_=>cases hlk.1
     ·next m hsh=>
      rw[hsh]
      simp only[Bool.and_eq_true]at hlk
      have h1':=Nat.eq_of_beq_eq_true hlk.2
      subst h1'
      refine⟨_,by simp only[cutL,hcut];rfl,?_⟩
      rw[hlk.1]
      exact⟨_,rfl,qD hrep⟩
     ·cases hlk
    obtain⟨w,g1,g2⟩:=key
    refine⟨_,w,?_,g2,hh⟩
    show indexV Tryz.prog t _ (.int kd (.ofNat n)) s'=_
    simp only[indexV,hu,hlt,hin,g1];rfl
   ·cases h
  ·cases h
 ·cases h
theorem len_ok{t:TypeId}{a p:Pv}{v:Value}(hs:See W Q C e F s)(ha:PvR W Q a v)(h:lenK C e t a=some p)(ts:List TypeId)(s':St):∃w,lenM Tryz.prog (t::ts) [v] s'=.ok (.value w) s'∧PvR W Q p w:=by
 unfold lenK at h
 split at h
 ·next el hu=>cases h;cases ha;exact⟨_,by simp only[lenM,hu];rfl,rfl⟩
 ·next el t' w τ l hu=>
  cases h
  obtain⟨a',cap,L,e1,_⟩:=ha
  simp only[List.cons.injEq,and_true]at e1
  subst e1
  exact⟨.int .i64 (l.length:Int),by simp only[lenM,hu];rfl,rfl⟩
 ·next el j n hu=>
  cases h
  obtain⟨q,hq,hx⟩:=ha
  simp only[List.cons.injEq,and_true]at hx
  subst hx
  exact⟨.int .i64 (n:Int),by simp only[lenM,hu];rfl,rfl⟩
 ·next el j hu=>
  split at h
  ·next t' w τ l ho=>
   cases h
   obtain⟨q,a,cap,hq,hv,hl⟩:=hs.lst _ _ _ _ _ ho
   obtain⟨q',hq',e1,_⟩:=ha
   rw[hq]at hq';cases hq'
   simp only[List.cons.injEq,and_true]at e1
   rw[hv]at e1
   subst e1
   exact⟨.int .i64 (l.length:Int),by simp only[lenM,hu];rfl,rfl⟩
  ·cases h
 ·cases h
theorem ts_get:∀{l:List (Bool×List Lf)} {vs:List Value} {i:Nat} {p:Bool×List Lf},TsR W Q l vs→zM l i=some p→∃v,zM vs i=some v∧QR W Q p v
 |x::l,vs,0,p,⟨v,r,e,h1,h2⟩,h=>by cases h;subst e;exact⟨v,rfl,h1⟩
 |x::l,vs,i+1,p,⟨v,r,e,h1,h2⟩,h=>by subst e;exact ts_get (l:=l) (vs:=r) (i:=i) h2 h
theorem extract_ok{a p:Pv}{i:Nat}{v:Value}(ha:PvR W Q a v)(h:extractK a i=some p)(s':St):∃w,extractM v i s'=.ok (.value w) s'∧PvR W Q p w:=by
 unfold extractK at h
 split at h
 ·next l=>
  obtain⟨vs,rfl,ha⟩:=ha
  split at h
  ·next l' hl=>
   cases h
   obtain⟨w,h1,h2⟩:=ts_get ha hl
   exact⟨w,by simp only[extractM,h1];rfl,h2⟩
  ·next x hl=>
   cases h
   obtain⟨w,h1,x',h2,h3⟩:=ts_get ha hl
   simp only[List.cons.injEq,and_true]at h2
   subst h2
   exact⟨w,by simp only[extractM,h1];rfl,h3⟩
  ·cases h
 ·cases h
theorem build_ok{Γ:TypeId→Option Ty}{t:TypeId}{parts:List (Nat×Operand)}{p:Pv}(hev:∀x p,e.ev C x=some p→PvR (W.x D) Q p (ze F x))(h:buildK Γ C e t parts=some p)(s':St):∃w,buildM Tryz.prog t parts (ze F) s'=.ok (.value w) s'∧PvR (W.x D) Q p w:=by
 unfold buildK at h
 split at h
 ·next z fs τ hz hu hΓ=>
  split at h
  ·next l hl hall=>
   split at h
   ·next c hc=>
    cases h
    obtain⟨c',h1,h2⟩:=fill_ok hev (zleaves_ok (W:=W) (D:=D) (Q:=Q) hl) hc
    exact⟨_,by simp only[buildM,hz,hu,hall,h1];rfl,c',rfl,h2⟩
   ·cases h
  ·cases h
 ·next z el τ hz hu hΓ=>
  split at h
  ·next l inf hl hin=>
   split at h
   ·next c hc=>
    cases h
    obtain⟨c',h1,h2⟩:=fill_ok hev (zleaves_ok (W:=W) (D:=D) (Q:=Q) hl) hc
    exact⟨_,by simp only[buildM,hz,hu,hin,h1];rfl,c',rfl,h2⟩
   ·cases h
  ·cases h
 ·cases h
theorem pure_ok{Γ:TypeId→Option Ty}{o:Op}(hs:See (W.x D) Q C e F s)(hb:∀t x,o=.load t x→∀p,ze F x=.pointer (some p)→p.block<s.next→s'.get p.block=s.get p.block)(h:pureK Γ C e o k=some r) :
  ∃p v,zh Tryz.prog (ze F) o s'=.ok (.value v) s'∧PvR (W.x D) Q p v∧k p=some r:=by
 unfold pureK at h
 split at h
 ·obtain⟨p,hp,h⟩:=yc h
  exact⟨p,_,rfl,hs.ev _ _ hp,h⟩
 ·obtain⟨p,hp,h⟩:=yc h
  exact⟨p,_,rfl,hs.ev _ _ hp,h⟩
 ·next c a b=>
  split at h
  ·next cb hc=>
   have hc:=hs.ev _ _ hc
   have hc:ze F c=.bool cb:=by have:[ze F c]=[Value.bool cb]:=hc;simpa using this
   split at h
   ·next hcb=>
    subst hcb
    obtain⟨p,hp,h⟩:=yc h
    exact⟨p,_,by simp only[zh,pickM,hc];rfl,hs.ev _ _ hp,h⟩
   ·next hcb=>
    obtain rfl:cb=false:=by simpa using hcb
    obtain⟨p,hp,h⟩:=yc h
    exact⟨p,_,by simp only[zh,pickM,hc];rfl,hs.ev _ _ hp,h⟩
  ·cases h
 ·next t x=>
  obtain⟨a,ha,h⟩:=yc h
  exact load_ok hs (hb t x rfl) (hs.ev _ _ ha) h
 ·next t x f=>
  obtain⟨a,ha,h⟩:=yc h
  obtain⟨p,hp,h⟩:=yc h
  obtain⟨u,h1,h2⟩:=fieldAddr_ok (hs.ev _ _ ha) hp s'
  exact⟨p,u,h1,h2,h⟩
 ·next t x i=>
  obtain⟨a,ha,h⟩:=yc h
  obtain⟨i',hi,h⟩:=yc h
  exact indexAddr_ok hs (hs.ev _ _ ha) (hs.ev _ _ hi) h s'
 ·next t x f=>
  obtain⟨a,ha,h⟩:=yc h
  obtain⟨p,hp,h⟩:=yc h
  obtain⟨u,h1,h2⟩:=field_ok (hs.ev _ _ ha) hp s'
  exact⟨p,u,h1,h2,h⟩
 ·next t x i=>
  obtain⟨a,ha,h⟩:=yc h
  obtain⟨i',hi,h⟩:=yc h
  exact index_ok (hs.ev _ _ ha) (hs.ev _ _ hi) h s'
 ·next o' t x y t2=>
  obtain⟨a,ha,h⟩:=yc h
  obtain⟨b,hb',h⟩:=yc h
  exact bin_ok hs.kn (hs.ev _ _ ha) (hs.ev _ _ hb') h s'
 ·next t x=>
  split at h
  ·next b hb'=>
   have hc:ze F x=.bool b:=by have:[ze F x]=[Value.bool b]:=hs.ev _ _ hb';simpa using this
   exact⟨.one (.bool (!b)),.bool (!b),by simp only[zh,unM,hc];rfl,rfl,h⟩
  ·cases h
 ·next t x=>
  split at h
  ·next a ha=>
   have hc:ze F x=.int .i64 a:=by have:[ze F x]=[Value.int .i64 a]:=hs.ev _ _ ha;simpa using this
   obtain⟨z,hz,h⟩:=zA h
   obtain⟨rfl,hz'⟩:=i64_some hz
   refine⟨.one (.int .i64 (0-a)),.int .i64 (0-a),?_,rfl,h⟩
   have:=wrap_in hz'
   simp only[zh,unM,hc]
   show Res.ok (Next.value (Value.int .i64 (IntKind.i64.wrap (0-a)))) s'=_
   rw[this]
  ·next a hx=>
   have hc:ze F x=.int .u64 a:=(List.cons.inj (show [ze F x]=_ from hs.ev _ _ hx)).1
   refine⟨.one (.int .u64 ((0-a) % 18446744073709551616)),.int .u64 ((0-a) % 18446744073709551616),?_,rfl,h⟩
   simp only[zh,unM,hc]
   show Res.ok (Next.value (Value.int .u64 (IntKind.u64.wrap (0-a)))) s'=_
   rw[wrapU]
  ·cases h
 ·next x i=>
  obtain⟨a,ha,h⟩:=yc h
  obtain⟨p,hp,h⟩:=yc h
  obtain⟨u,h1,h2⟩:=extract_ok (hs.ev _ _ ha) hp s'
  exact⟨p,u,h1,h2,h⟩
 ·next x=>
  split at h
  ·next j off hp=>
   have hp:=hs.ev _ _ hp
   obtain⟨q,hq,hx⟩:=hp
   simp only[List.cons.injEq,and_true]at hx
   exact⟨.one (.ptr j off),.pointer (some ⟨q.2,off,none⟩),by simp only[zh,nilM,hx];rfl,⟨q,hq,rfl⟩,h⟩
  ·next t w τ y off hp=>
   have hp:=hs.ev _ _ hp
   obtain⟨b,o,n',cap,L,kk,hS,hk,hR,hx⟩:=hp
   simp only[List.cons.injEq,and_true]at hx
   exact⟨.one (.ep t w τ y off),.pointer (some ⟨b,o+kk*w+off,none⟩),by simp only[zh,nilM,hx];rfl,⟨b,o,n',cap,L,kk,hS,hk,hR,rfl⟩,h⟩
  ·next j w i off hp=>
   have hp:=hs.ev _ _ hp
   obtain⟨q,hq,hx⟩:=hp
   simp only[List.cons.injEq,and_true]at hx
   exact⟨.one (.op j w i off),.pointer (some ⟨q.2,i.toNat*w+off,none⟩),by simp only[zh,nilM,hx];rfl,⟨q,hq,rfl⟩,h⟩
  ·next f hp=>
   have hx:[ze F x]=_:=hs.ev _ _ hp
   simp only[List.cons.injEq,and_true]at hx
   exact⟨.one (.fn f),_,by simp only[zh,nilM,hx];rfl,rfl,h⟩
  ·next f l hp=>
   have hp:=hs.ev _ _ hp
   obtain⟨cs,hx,hl⟩:=hp
   exact⟨.clo f l,_,by simp only[zh,nilM,hx];rfl,⟨cs,rfl,hl⟩,h⟩
  ·cases h
 ·next src dst x=>
  split at h
  ·next a' b' a hu1 hu2 hx=>
   have hx:ze F x=.int .i64 a:=(List.cons.inj (show [ze F x]=_ from hs.ev _ _ hx)).1
   refine⟨.one (.int .u64 (a % 18446744073709551616)),.int .u64 (a % 18446744073709551616),?_,rfl,h⟩
   simp only[zh,qE,hu1,hu2,hx,wrapU];rfl
  ·next a' b' a hu1 hu2 hx=>
   have hx:ze F x=.int .u64 a:=(List.cons.inj (show [ze F x]=_ from hs.ev _ _ hx)).1
   obtain⟨z,hz,h2⟩:=zA h
   obtain⟨rfl,hz'⟩:=i64_some hz
   refine⟨.one (.int .i64 z),.int .i64 z,?_,rfl,h2⟩
   simp only[zh,qE,hu1,hu2,hx,wrap_in hz'];rfl
  ·cases h
 ·next t x=>
  split at h
  ·next n el t' w τ l hu hx=>
   split at h
   ·next hn=>
    obtain⟨a,cap,L,e1,hS,hL,hR⟩:=hs.ev _ _ hx
    have hsl:=hs.kn.s _ _ _ _ hS
    cases hsl with
    |nil c hv hl=>rw[hl]at hL;simp at hL;omega
    |block b off cap' c hv hgc hbn hcap hc=>
     have hx:ze F x=.slice (some ⟨b,off,none⟩) L.length cap':=by rw[←hv];exact(List.cons.inj e1).1
     refine⟨.one (.sp t' w τ l),.pointer (some ⟨b,off,none⟩),?_,⟨b,off,_,_,L,rfl,by rw[←hv];exact hS,hL,hR⟩,h⟩
     have hle:Nat.ble (n+1) L.length=true:=Nat.ble_eq_true_of_le Oz
     simp only[zh,arrM,hu,hx,hle];rfl
   ·cases h
  ·cases h
 ·next t parts=>
  obtain⟨p,hp,h⟩:=yc h
  obtain⟨u,h1,h2⟩:=build_ok hs.ev hp s'
  exact⟨p,u,h1,h2,h⟩
 ·next f caps=>
  split at h
  ·next hk=>
   obtain⟨l,hl,h⟩:=yc h
   exact⟨.clo f l,_,by simp only[zh,hk];rfl,⟨_,rfl,caps_ok hs.ev hl⟩,h⟩
  ·cases h
 ·next c=>
  split at h
  ·next t ts x hc hts has=>
   obtain⟨a,ha,h⟩:=yc h
   obtain⟨p,hp,h⟩:=yc h
   obtain⟨u,h1,h2⟩:=len_ok hs (hs.ev _ _ ha) hp ts s'
   exact⟨p,u,by simp only[zh,hc,hts,has,yy,yw];exact h1,h2,h⟩
  ·cases h
 ·cases h
end
end Go.Proofs.YtocnbjjmmgolfaaGreat
namespace Go.Proofs.YtocnbjjmmgolfaaGreat
open Go Go.M Go.Proofs.C14
def blkD(b:Nat):Option MObj→Hp'
 |none=>[]
 |some o=>[(b,o)]
abbrev SvF(W:Wd)(Q:Qs)(l:List (Nat×Pv))(F:FF):Prop:=∀p,p∈l→PvR W Q p.2 (F p.1)
def codeOK(N:Nat)(x y:Code):Prop:=(yM x&&yM y&&xz x&&xz y)=true∧xo N x=true∧xo N y=true
def ObjR(W:Wd)(Q:Qs):Ob→Value×Nat→Option MObj→Prop
 | .cells l,_,o=>∃c t,o=some (.cells c t)∧LsR W Q l c
 | .loop N slots ps x y st pend,_,o=>codeOK N x y∧∃fr F0,o=some (.loop {fr:=fr,params:=ps,assign:=x,body:=y,state:=st,pend:=pend})∧Agrees N F0 fr∧SvF W Q slots F0
 | .list t w e l,q,o=>∃a cap,q.1=.slice a l.length cap∧(l.length=0→cap=0)∧OwnL W t w e (blkD q.2 o) a l.length cap l
 |_,_,_=>True
structure Fra where
 slots:List (Nat×Pv)
 F:FF
 n:Nat
 psi:Hp':=[]
structure GX(QL:Qs)(W:Wd)(s0 s:St)(C:Cx)(stk:List Fra)(e:En)(F:FF)(m:Nat)(Q:Qs)(O:List (Option MObj))(L Φ:Hp'):Prop where
 K:Knw s0 W
 H:HL [] s0 s L m
 oq:O.length=Q.length
 len:e.objs.length=Q.length
 cn:C.n≤Q.length
 ln:C.lent≤C.n
 pre:∀(i:Nat),i<C.lent→Q[i]? = QL[i]?
 fro:Φ⊆L
 own:∀(i:Nat) q o,Q[i]? = some q→O[i]? = some (some o)→C.lent≤i→(q.2,o)∈L
 lent:∀(i:Nat) q o,Q[i]? = some q→O[i]? = some (some o)→i<C.lent→s.get q.2=some o∧q.2<s0.next
 inj:∀(i j:Nat) q r o o',Q[i]? = some q→Q[j]? = some r→O[i]? = some (some o)→O[j]? = some (some o')→q.2=r.2→i=j
 dis:∀(i:Nat) q o p,C.lent≤i→Q[i]? = some q→O[i]? = some (some o)→p∈Φ→p.1≠q.2
 obj:∀(i:Nat) b q o,e.objs[i]? = some b→Q[i]? = some q→O[i]? = some o→ObjR (W.x Φ) Q b q o
 cob:∀(i:Nat) b q o,e.objs[i]? = some .const→C.objs[i]? = some b→Q[i]? = some q→O[i]? = some o→ObjR (W.x Φ) (Q.take C.n) b q o
 slots:SvF (W.x Φ) Q e.slots F
 cslots:SvF (W.x Φ) (Q.take C.n) C.slots F
 stk:∀f,f∈stk→f.n≤C.n∧SvF (W.x Φ) (Q.take f.n) f.slots f.F∧f.psi⊆Φ
def qb(QL:Qs)(W:Wd)(s0 s:St)(C:Cx)(stk:List Fra)(e:En)(F:FF)(m:Nat):Prop:=∃Q O L Φ,GX QL W s0 s C stk e F m Q O L Φ
theorem find_mem{α:Type}{l:List (Nat×α)}{t:Nat}{v:α}(h:find l t=some v):(t,v)∈l:=by
 induction l with
 |nil=>cases h
 |cons p l ih=>
  obtain⟨t',u⟩:=p
  simp only[find]at h
  split at h
  ·next hb=>cases h;rw[Nat.eq_of_beq_eq_true hb];exact List.mem_cons_self ..
  ·exact List.mem_cons_of_mem _ (ih h)
theorem find_none{α:Type}{l:List (Nat×α)}{t:Nat}(h:find l t=none):∀p,p∈l→p.1≠t:=by
 induction l with
 |nil=>intro p hp;cases hp
 |cons p l ih=>
  obtain⟨t',u⟩:=p
  simp only[find]at h
  split at h
  ·cases h
  ·next hb=>
   intro p hp
   rcases List.mem_cons.mp hp with rfl|hp
   ·intro e;simp only at e;subst e;simp at hb
   ·exact ih h p hp
theorem dropS_mem{α:Type}{l:List (Nat×α)}{d:Nat}{p:Nat×α}(h:p∈dropS l d):p∈l∧p.1≠d:=by
 induction l with
 |nil=>cases h
 |cons q l ih=>
  obtain⟨t',u⟩:=q
  simp only[dropS]at h
  split at h
  ·obtain⟨h1,h2⟩:=ih h;exact⟨List.mem_cons_of_mem _ h1,h2⟩
  ·next hb=>
   rcases List.mem_cons.mp h with rfl|h
   ·exact⟨List.mem_cons_self ..,fun e=>by simp only at e;subst e;simp at hb⟩
   ·obtain⟨h1,h2⟩:=ih h;exact⟨List.mem_cons_of_mem _ h1,h2⟩
theorem ya{α:Type}(l:List α)(n:Nat)(y:α):(zt l n y).length=l.length:=by
 induction l generalizing n with
 |nil=>rfl
 |cons x l ih=>cases n with
  |zero=>rfl
  |succ n=>simp only[zt,List.length_cons,ih]
theorem yO{α:Type}(l:List α)(n i:Nat)(y:α):(zt l n y)[i]? = if i=n∧i<l.length then some y else l[i]? :=by
 induction l generalizing n i with
 |nil=>simp[zt]
 |cons x l ih=>cases n with
  |zero=>cases i<;>simp[zt]
  |succ n=>cases i with
   |zero=>simp[zt]
   |succ i=>simp only[zt,List.getElem?_cons_succ,ih,Nat.succ.injEq,List.length_cons,Nat.add_lt_add_iff_right,Nat.add_right_cancel_iff]
theorem SvF.mono{W W':Wd}{Q Q':Qs}(hw:WLe W W')(hq:QLe Q Q'){l:List (Nat×Pv)}{F:FF}(h:SvF W Q l F):SvF W' Q' l F:=fun p hp=>(h p hp).mono hw hq
theorem ObjR.mono{W W':Wd}{Q Q':Qs}(hw:WLe W W')(hq:QLe Q Q'){b:Ob}{q:Value×Nat}{o:Option MObj}(h:ObjR W Q b q o):ObjR W' Q' b q o:=by
 cases b with
 |loop N slots ps x y st pend=>obtain⟨h0,fr,F0,e,ha,h⟩:=h;exact⟨h0,fr,F0,e,ha,h.mono hw hq⟩
 |cells l=>obtain⟨c,t,e,h⟩:=h;exact⟨c,t,e,h.mono hw hq⟩
 |list t w e l=>obtain⟨a,cap,e,h0,h⟩:=h;exact⟨a,cap,e,h0,h.mono hw⟩
 |_=>trivial
section
variable{W:Wd}{s0 s:St}{C:Cx}{QL:Qs}{stk:List Fra}{e:En}{F:FF}{m:Nat}{Q:Qs}{O:List (Option MObj)}{L Φ:Hp'}
theorem GX.get(G:GX QL W s0 s C stk e F m Q O L Φ){i:Nat}{q:Value×Nat}{o:MObj}(h1:Q[i]? = some q)(h2:O[i]? = some (some o)):s.get q.2=some o:=by
 by_cases hi:C.lent≤i
 ·exact(G.H.own _ (G.own i q o h1 h2 hi)).1
 ·exact(G.lent i q o h1 h2 Oz).1
theorem GX.lt(G:GX QL W s0 s C stk e F m Q O L Φ){i:Nat}{q:Value×Nat}{o:MObj}(h1:Q[i]? = some q)(h2:O[i]? = some (some o)):q.2<s.next:=by
 by_cases hi:C.lent≤i
 ·exact(G.H.own _ (G.own i q o h1 h2 hi)).2.1
 ·have:=(G.lent i q o h1 h2 Oz).2;have:=G.H.le;omega
theorem GX.at(G:GX QL W s0 s C stk e F m Q O L Φ){j:Nat}{b:Ob}(h:e.obj C j=some b):∃q o,Q[j]? = some q∧O[j]? = some o∧ObjR (W.x Φ) Q b q o:=by
 unfold En.obj at h
 rw[zC,zC]at h
 have hj:∀b',e.objs[j]? = some b'→∃q o,Q[j]? = some q∧O[j]? = some o:=fun b' hb=>by
  have h1:=(List.getElem?_eq_some_iff.mp hb).1
  have h2:j<Q.length:=by rw[←G.len];exact h1
  have h3:j<O.length:=by rw[G.oq];exact h2
  exact⟨_,_,List.getElem?_eq_getElem h2,List.getElem?_eq_getElem h3⟩
 split at h
 ·next hc=>
  obtain⟨q,o,hq,ho⟩:=hj _ hc
  exact⟨q,o,hq,ho,(G.cob j b q o hc h hq ho).mono WLe.rfl QLe.take⟩
 ·obtain⟨q,o,hq,ho⟩:=hj _ h
  exact⟨q,o,hq,ho,G.obj j b q o h hq ho⟩
theorem GX.ev(G:GX QL W s0 s C stk e F m Q O L Φ){x:Operand}{p:Pv}(h:e.ev C x=some p):PvR (W.x Φ) Q p (ze F x):=by
 unfold En.ev at h
 split at h
 ·next t=>
  unfold En.get at h
  split at h
  ·next hf=>cases h;exact G.slots _ (find_mem hf)
  ·exact(G.cslots _ (find_mem h)).mono WLe.rfl QLe.take
 ·next v=>
  split at h
  ·next l hl=>
   cases h
   unfold ofV at hl
   split at hl<;>cases hl<;>rfl
  ·cases h
 ·cases h;rfl
 ·cases h
theorem GX.see(G:GX QL W s0 s C stk e F m Q O L Φ):See (W.x Φ) Q C e F s where
 ev _ _ h:=G.ev h
 cel j l h:=by
  obtain⟨q,o,hq,ho,c,t,rfl,hl⟩:=G.at h
  exact⟨q,c,t,hq,G.lt hq ho,G.get hq ho,hl⟩
 lst j t w τ l h:=by
  obtain⟨q,o,hq,ho,a,cap,hv,_,h1,h2,L',h3,h4,h5,h6⟩:=G.at h
  refine⟨q,a,cap,hq,hv,fun k x hx=>?_⟩
  have hk:=(List.getElem?_eq_some_iff.mp hx).1
  generalize hD:blkD q.2 o=D at h4
  generalize hc:L'.flatten=c at h4
  generalize hsl:(Value.slice a l.length cap)=sl at h4
  generalize hn:l.length=n at h4
  cases h4 with
  |nil=>omega
  |block b cap' _ _ hl hcap=>
   cases hsl
   cases o with
   |none=>cases hD
   |some o=>
    cases hD
    refine⟨c,t,L'.getD k [],rfl,G.lt hq ho,G.get hq ho,?_,h6 _ _ hx⟩
    have:=flat_get h5 (k:=k) Oz
    rw[Nat.zero_add,hc]at this
    exact this
 kn:=G.K.x G.H G.fro
theorem GX.put(G:GX QL W s0 s C stk e F m Q O L Φ){d:Nat}{p:Pv}{v:Value}(hd:find C.slots d=none)(hp:PvR (W.x Φ) Q p v):GX QL W s0 s C stk {e with slots:=putS e.slots d p} (upd F (some d) v) m Q O L Φ:=
 {G with
  slots:=fun x hx=>by
   rcases List.mem_cons.mp hx with rfl|hx
   ·rw[qv,if_pos rfl];exact hp
   ·obtain⟨h1,h2⟩:=dropS_mem hx
    rw[qv,if_neg h2];exact G.slots _ h1
  cslots:=fun x hx=>by
   rw[qv,if_neg (find_none hd x hx)];exact G.cslots _ hx}
theorem GX.set(G:GX QL W s0 s C stk e F m Q O L Φ){ρ:Type}{k:En→Option ρ}{r:ρ}{d:Option Nat}{p:Pv}{v:Value}(hp:PvR (W.x Φ) Q p v)(h:e.set C d p k=some r):∃e',GX QL W s0 s C stk e' (upd F d v) m Q O L Φ∧k e'=some r:=by
 unfold En.set at h
 split at h
 ·exact⟨e,G,h⟩
 ·split at h
  ·cases h
  ·next hd=>exact⟨_,G.put hd hp,h⟩
theorem GX.mark(G:GX QL W s0 s C stk e F m Q O L Φ){x:Operand}{b:Bool}(hx:e.ev C x=some (.one (.bool b))):GX QL W s0 s C stk (e.mark x b) F m Q O L Φ:=by
 unfold En.mark
 split
 ·next t=>
  have hv:=G.ev hx
  exact{G with
   slots:=fun x hx=>by
    rcases List.mem_cons.mp hx with rfl|hx
    ·exact hv
    ·exact G.slots _ (dropS_mem hx).1}
 ·exact G
theorem yA{α:Type}{l:List α}{x:α}{i:Nat}{y:α}(h:(l++[x])[i]? = some y):(i<l.length∧l[i]? = some y)∨(i=l.length∧y=x):=by
 by_cases hi:i<l.length
 ·rw[List.getElem?_append_left hi]at h;exact .inl ⟨hi,h⟩
 ·have h1:=(List.getElem?_eq_some_iff.mp h).1
  simp only[List.length_append,List.length_singleton]at h1
  obtain rfl:i=l.length:=by omega
  simp only[List.getElem?_concat_length]at h
  cases h;exact .inr ⟨rfl,rfl⟩
theorem GX.swap(G:GX QL W s0 s C stk e F m Q O L Φ){s':St}{L1:Hp'}{b:Nat}{o:MObj}{bo:Ob}{v:Value}{m':Nat}(H':HL [] s0 s' ((b,o)::L1) m')(hΦ:Φ⊆L1)(hown:∀(i:Nat) q o,Q[i]? = some q→O[i]? = some (some o)→C.lent≤i→(q.2,o)∈L1)
  (hb:ObjR (W.x Φ) (Q++[(v,b)]) bo (v,b) (some o)) (hbc:bo≠.const) :
  GX QL W s0 s' C stk {e with objs:=e.objs++[bo]} F m' (Q++[(v,b)]) (O++[some o]) ((b,o)::L1) Φ:=by
 have hbge:s0.next≤b:=by
  rcases(H'.own (b,o) (List.mem_cons_self ..)).2.2.2 with h|h
  ·exact h
  ·cases h
 have hd:=(List.pairwise_cons.mp H'.dist).1
 have hne:∀(i:Nat) q o,Q[i]? = some q→O[i]? = some (some o)→q.2≠b:=fun i q o' h1 h2 he=>by
  by_cases hi:C.lent≤i
  ·exact hd _ (hown i q o' h1 h2 hi) he.symm
  ·have:=(G.lent i q o' h1 h2 Oz).2;omega
 have hO:∀{i:Nat} {y},(O++[some o])[i]? = some y→(i<Q.length∧O[i]? = some y)∨(i=Q.length∧y=some o):=fun h=>by
  have:=yA h;rwa[G.oq]at this
 have hE:∀{i:Nat} {y},(e.objs++[bo])[i]? = some y→(i<Q.length∧e.objs[i]? = some y)∨(i=Q.length∧y=bo):=fun h=>by
  have:=yA h;rwa[G.len]at this
 exact{
  K:=G.K,H:=H'
  oq:=by simp[G.oq]
  len:=by simp[G.len]
  cn:=by have:=G.cn;simp;omega
  ln:=G.ln
  pre:=fun i hi=>by rw[List.getElem?_append_left (by have:=G.ln;have:=G.cn;omega)];exact G.pre i hi
  fro:=fun p hp=>List.mem_cons_of_mem _ (hΦ hp)
  own:=fun i q o' hq ho hi=>by
   rcases yA hq with⟨h1,h2⟩|⟨h1,h2⟩<;>rcases hO ho with⟨h3,h4⟩|⟨h3,h4⟩
   ·exact List.mem_cons_of_mem _ (hown i q o' h2 h4 hi)
   ·omega
   ·omega
   ·cases h2;cases h4;exact List.mem_cons_self ..
  lent:=fun i q o' hq ho hi=>by
   have:=G.ln;have:=G.cn
   rcases yA hq with⟨h1,h2⟩|⟨h1,h2⟩<;>rcases hO ho with⟨h3,h4⟩|⟨h3,h4⟩
   ·obtain⟨g1,g2⟩:=G.lent i q o' h2 h4 hi
    exact⟨by rw[H'.get g2,←G.H.get g2];exact g1,g2⟩
   ·omega
   ·omega
   ·omega
  inj:=fun i j q r o1 o2 hq hr ho1 ho2 hqr=>by
   rcases yA hq with⟨h1,h2⟩|⟨h1,h2⟩<;>rcases yA hr with⟨h3,h4⟩|⟨h3,h4⟩<;>rcases hO ho1 with⟨h5,h6⟩|⟨h5,h6⟩<;>rcases hO ho2 with⟨h7,h8⟩|⟨h7,h8⟩<;>try omega
   ·exact G.inj i j q r o1 o2 h2 h4 h6 h8 hqr
   ·subst h4;exact(hne i q o1 h2 h6 hqr).elim
   ·subst h2;exact(hne j r o2 h4 h8 hqr.symm).elim
  dis:=fun i q o' p hi hq ho hp=>by
   rcases yA hq with⟨h1,h2⟩|⟨h1,h2⟩<;>rcases hO ho with⟨h3,h4⟩|⟨h3,h4⟩<;>try omega
   ·exact G.dis i q o' p hi h2 h4 hp
   ·subst h2;exact fun he=>hd _ (hΦ hp) he.symm
  obj:=fun i b' q o' hb' hq ho=>by
   rcases yA hq with⟨h1,h2⟩|⟨h1,h2⟩<;>rcases hO ho with⟨h3,h4⟩|⟨h3,h4⟩<;>rcases hE hb' with⟨h5,h6⟩|⟨h5,h6⟩<;>try omega
   ·exact(G.obj i b' q o' h6 h2 h4).mono WLe.rfl QLe.app
   ·subst h2 h4 h6;exact hb
  cob:=fun i b' q o' hc hb' hq ho=>by
   rw[List.take_append_of_le_length G.cn]
   rcases yA hq with⟨h1,h2⟩|⟨h1,h2⟩<;>rcases hO ho with⟨h3,h4⟩|⟨h3,h4⟩<;>rcases hE hc with⟨h5,h6⟩|⟨h5,h6⟩<;>try omega
   ·exact G.cob i b' q o' h6 hb' h2 h4
   ·exact(hbc h6.symm).elim
  slots:=G.slots.mono WLe.rfl QLe.app
  cslots:=by rw[List.take_append_of_le_length G.cn];exact G.cslots
  stk:=fun f hf=>by
   obtain⟨h1,h2,h3⟩:=G.stk f hf
   exact⟨h1,by rw[List.take_append_of_le_length (by have:=G.cn;omega)];exact h2,h3⟩}
theorem GX.new(G:GX QL W s0 s C stk e F m Q O L Φ)(hr:s0.next+m<z3){o:MObj}{b:Ob}{v:Value}(hb:ObjR (W.x Φ) (Q++[(v,s.next)]) b (v,s.next) (some o))(hbc:b≠.const) :
  GX QL W s0 (s.new o) C stk {e with objs:=e.objs++[b]} F (m+1) (Q++[(v,s.next)]) (O++[some o]) ((s.next,o)::L) Φ:=
 G.swap (G.H.new o hr) G.fro G.own hb hbc
end
end Go.Proofs.YtocnbjjmmgolfaaGreat
namespace Go.Proofs.YtocnbjjmmgolfaaGreat
open Go Go.M Go.Proofs.C14
section
variable{W:Wd}{s0 s:St}{C:Cx}{QL:Qs}{stk:List Fra}{e:En}{F:FF}{m:Nat}{Q:Qs}{O:List (Option MObj)}{L Φ:Hp'}
theorem GX.write(G:GX QL W s0 s C stk e F m Q O L Φ)(hr:s0.next+m≤z3){j:Nat}{q:Value×Nat}{o o':MObj}{b:Ob}(hq:Q[j]? = some q)(ho:O[j]? = some (some o))(hj:C.lent≤j)(hb:ObjR (W.x Φ) Q b q (some o'))(hbc:b≠.const) :
  ∃L',GX QL W s0 (s.put q.2 (some o')) C stk (e.setO j b) F m Q (zt O j (some o')) L' Φ:=by
 have hmem:=G.own j q o hq ho hj
 obtain⟨A,B,rfl⟩:=List.append_of_mem hmem
 have hown:=G.H.own _ hmem
 have hge:s0.next≤q.2:=by rcases hown.2.2.2 with h|h;exact h;cases h
 have hlt:q.2<s.next:=hown.2.1
 have hmost:=G.H.most
 have hgp:=fun b'=>St.get_put (s:=s) (b:=q.2) (by unfold z3 at hr;omega) (some o') b'
 have hoj:j<O.length:=(List.getElem?_eq_some_iff.mp ho).1
 have hin:∀p,p∈A++(q.2,o)::B→p.1≠q.2→p∈A++(q.2,o')::B:=fun p hp hne=>by
  rcases List.mem_append.mp hp with h|h
  ·exact List.mem_append_left _ h
  ·rcases List.mem_cons.mp h with rfl|h
   ·exact(hne rfl).elim
   ·exact List.mem_append_right _ (List.mem_cons_of_mem _ h)
 have hO:∀(i:Nat) o1,(zt O j (some o'))[i]? = some o1→(i=j∧o1=some o')∨(i≠j∧O[i]? = some o1):=fun i o1 h=>by
  rw[yO]at h
  split at h
  ·next h1=>cases h;exact .inl ⟨h1.1,rfl⟩
  ·next h1=>
   refine .inr ⟨fun e=>?_,h⟩
   subst e
   exact h1 ⟨rfl,hoj⟩
 refine⟨A++(q.2,o')::B,?_⟩
 exact{
  K:=G.K,H:=G.H.putAt A o' hr,oq:=by rw[ya];exact G.oq,len:=by simp only[En.setO,ya];exact G.len
  cn:=G.cn,ln:=G.ln,pre:=G.pre
  fro:=fun p hp=>hin p (G.fro hp) (G.dis j q o p hj hq ho hp)
  own:=fun i q1 o1 h1 h2 hi=>by
   rcases hO i _ h2 with⟨rfl,h⟩|⟨hne,h⟩
   ·cases h;rw[hq]at h1;cases h1;exact List.mem_append_right _ (List.mem_cons_self ..)
   ·exact hin _ (G.own i q1 o1 h1 h hi) fun e=>hne (G.inj i j q1 q o1 o h1 hq h ho e)
  lent:=fun i q1 o1 h1 h2 hi=>by
   rcases hO i _ h2 with⟨rfl,h⟩|⟨hne,h⟩
   ·omega
   ·obtain⟨g1,g2⟩:=G.lent i q1 o1 h1 h hi
    exact⟨by rw[hgp,if_neg Oz];exact g1,g2⟩
  inj:=fun i1 i2 q1 q2 o1 o2 h1 h2 h3 h4 he=>by
   rcases hO i1 _ h3 with⟨rfl,h⟩|⟨hne,h⟩<;>rcases hO i2 _ h4 with⟨h5,h6⟩|⟨h5,h6⟩
   ·exact h5.symm
   ·exact G.inj i1 i2 q1 q2 o o2 h1 h2 ho h6 he
   ·subst h5;exact G.inj i1 i2 q1 q2 o1 o h1 h2 h ho he
   ·exact G.inj i1 i2 q1 q2 o1 o2 h1 h2 h h6 he
  dis:=fun i q1 o1 p hi h1 h2 hp=>by
   rcases hO i _ h2 with⟨rfl,h⟩|⟨hne,h⟩
   ·exact G.dis i q1 o p hi h1 ho hp
   ·exact G.dis i q1 o1 p hi h1 h hp
  obj:=fun i b1 q1 o1 h0 h1 h2=>by
   rw[En.setO,yO]at h0
   rcases hO i _ h2 with⟨rfl,rfl⟩|⟨hne,h⟩
   ·have:i<e.objs.length:=by rw[G.len,←G.oq];exact hoj
    rw[if_pos ⟨rfl,this⟩]at h0
    rw[hq]at h1
    cases h0;cases h1;exact hb
   ·rw[if_neg (fun h=>hne h.1)]at h0
    exact G.obj i b1 q1 o1 h0 h1 h
  cob:=fun i b1 q1 o1 h0 h0' h1 h2=>by
   rw[En.setO,yO]at h0
   rcases hO i _ h2 with⟨rfl,rfl⟩|⟨hne,h⟩
   ·have:i<e.objs.length:=by rw[G.len,←G.oq];exact hoj
    rw[if_pos ⟨rfl,this⟩]at h0
    cases h0;exact(hbc rfl).elim
   ·rw[if_neg (fun h=>hne h.1)]at h0
    exact G.cob i b1 q1 o1 h0 h0' h1 h
  slots:=G.slots,cslots:=G.cslots,stk:=G.stk}
theorem GX.drop(G:GX QL W s0 s C stk e F m Q O L Φ)(j:Nat):GX QL W s0 s C stk (e.setO j .dead) F m Q (zt O j none) L Φ:=by
 have hO:∀(i:Nat) o1,(zt O j none)[i]? = some (some o1)→i≠j∧O[i]? = some (some o1):=fun i o1 h=>by
  rw[yO]at h
  split at h
  ·cases h
  ·next h1=>
   refine⟨fun e=>?_,h⟩
   subst e
   exact h1 ⟨rfl,(List.getElem?_eq_some_iff.mp h).1⟩
 have hE:∀(i:Nat) b,(zt e.objs j .dead)[i]? = some b→b=.dead∨(i≠j∧e.objs[i]? = some b):=fun i b h=>by
  rw[yO]at h
  split at h
  ·cases h;exact .inl rfl
  ·next h1=>
   refine .inr ⟨fun e=>?_,h⟩
   subst e
   exact h1 ⟨rfl,(List.getElem?_eq_some_iff.mp h).1⟩
 have hO':∀(i:Nat) o1,i≠j→(zt O j none)[i]? = some o1→O[i]? = some o1:=fun i o1 hne h=>by
  rw[yO,if_neg (fun h=>hne h.1)]at h;exact h
 exact{G with
  oq:=by rw[ya];exact G.oq
  len:=by simp only[En.setO,ya];exact G.len
  own:=fun i q o h1 h2=>G.own i q o h1 (hO i o h2).2
  lent:=fun i q o h1 h2=>G.lent i q o h1 (hO i o h2).2
  inj:=fun i j q r o o' h1 h2 h3 h4=>G.inj i j q r o o' h1 h2 (hO _ _ h3).2 (hO _ _ h4).2
  dis:=fun i q o p hi h1 h2=>G.dis i q o p hi h1 (hO _ _ h2).2
  obj:=fun i b q o h0 h1 h2=>by
   rcases hE i b h0 with rfl|⟨hne,h⟩
   ·trivial
   ·exact G.obj i b q o h h1 (hO' i o hne h2)
  cob:=fun i b q o h0 h0' h1 h2=>by
   rcases hE i .const h0 with h|⟨hne,h⟩
   ·cases h
   ·exact G.cob i b q o h h0' h1 (hO' i o hne h2)}
theorem GX.call(G:GX QL W s0 s C stk e F m Q O L Φ){s':St}{D:Hp'}{k:Nat}(H':HL [] s s' D k):GX QL W s0 s' C stk e F (m+k) Q O (D++L) (D++Φ):=by
 have hw:WLe (W.x Φ) (W.x (D++Φ)):=wx_up (List.subset_append_right _ _)
 exact{G with
  H:=G.H.call H'
  fro:=fun p hp=>by
   rcases List.mem_append.mp hp with h|h
   ·exact List.mem_append_left _ h
   ·exact List.mem_append_right _ (G.fro h)
  own:=fun i q o h1 h2 hi=>List.mem_append_right _ (G.own i q o h1 h2 hi)
  lent:=fun i q o h1 h2 hi=>by
   obtain⟨g1,g2⟩:=G.lent i q o h1 h2 hi
   exact⟨by rw[H'.get (by have:=G.H.le;omega)];exact g1,g2⟩
  dis:=fun i q o p hi h1 h2 hp=>by
   rcases List.mem_append.mp hp with h|h
   ·have:=G.lt h1 h2
    rcases(H'.own p h).2.2.2 with h|h
    ·omega
    ·cases h
   ·exact G.dis i q o p hi h1 h2 h
  obj:=fun i b q o h0 h1 h2=>(G.obj i b q o h0 h1 h2).mono hw QLe.rfl
  cob:=fun i b q o h0 h0' h1 h2=>(G.cob i b q o h0 h0' h1 h2).mono hw QLe.rfl
  slots:=G.slots.mono hw QLe.rfl
  cslots:=G.cslots.mono hw QLe.rfl
  stk:=fun f hf=>⟨(G.stk f hf).1,(G.stk f hf).2.1.mono hw QLe.rfl,fun p hp=>List.mem_append_right _ ((G.stk f hf).2.2 hp)⟩}
theorem LfR.sub{W W':Wd}{Q:Qs}(hw:WLe W W'){j t w:Nat}{τ:Ty}{l:List τ.T}{q:Value×Nat}(hq:Q[j]? = some q)(hl:Rep W' (.sl t w τ) [q.1] l){x:Lf}{c:List Value}(h:LfR W Q x c):LfR W' Q (x.sub j (.sl t w τ l)) c:=by
 have h':=h.mono hw QLe.rfl
 cases x with
 |own i=>
  simp only[Lf.sub]
  split
  ·next hb=>
   obtain rfl:=Nat.eq_of_beq_eq_true hb
   obtain⟨q',h1,h2,_⟩:=h
   rw[hq]at h1;cases h1
   rw[h2];exact hl
  ·exact h'
 |_=>exact h'
theorem LsR.sub{W W':Wd}{Q:Qs}(hw:WLe W W'){j t w:Nat}{τ:Ty}{l:List τ.T}{q:Value×Nat}(hq:Q[j]? = some q)(hl:Rep W' (.sl t w τ) [q.1] l):∀{x:List Lf} {c:List Value},LsR W Q x c→LsR W' Q (subL j (.sl t w τ l) x) c
 | [],_,h=>h
 |_::_,_,⟨c1,c2,e,h1,h2⟩=>⟨c1,c2,e,h1.sub hw hq hl,LsR.sub hw hq hl h2⟩
theorem TsR.sub{W W':Wd}{Q:Qs}(hw:WLe W W'){j t w:Nat}{τ:Ty}{l:List τ.T}{q:Value×Nat}(hq:Q[j]? = some q)(hl:Rep W' (.sl t w τ) [q.1] l):∀{x:List (Bool×List Lf)} {c:List Value},TsR W Q x c→TsR W' Q (subT j (.sl t w τ l) x) c
 | [],_,h=>h
 |(true,y)::x,_,⟨v,r,e,⟨c,e1,h1⟩,h2⟩=>⟨v,r,e,⟨c,e1,LsR.sub hw hq hl h1⟩,TsR.sub hw hq hl h2⟩
 |(false,y)::x,_,⟨v,r,e,⟨z,e1,h1⟩,h2⟩=>⟨v,r,e,⟨z.sub j (.sl t w τ l),by simp only at e1;subst e1;rfl,LfR.sub hw hq hl h1⟩,TsR.sub hw hq hl h2⟩
theorem PvR.sub{W W':Wd}{Q:Qs}(hw:WLe W W'){j t w:Nat}{τ:Ty}{l:List τ.T}{q:Value×Nat}(hq:Q[j]? = some q)(hl:Rep W' (.sl t w τ) [q.1] l){x:Pv}{v:Value}(h:PvR W Q x v):PvR W' Q (x.sub j (.sl t w τ l)) v:=by
 cases x with
 |one x=>exact LfR.sub hw hq hl h
 |agg x=>obtain⟨c,e,h⟩:=h;exact⟨c,e,LsR.sub hw hq hl h⟩
 |tup x=>obtain⟨c,e,h⟩:=h;exact⟨c,e,TsR.sub hw hq hl h⟩
 |_=>exact PvR.mono hw QLe.rfl h
theorem subS_mem{j:Nat}{x:Lf}:∀{l:List (Nat×Pv)} {p:Nat×Pv},p∈subS j x l→∃p',p'∈l∧p=(p'.1,p'.2.sub j x)
 |(t,u)::l,p,h=>by
  rcases List.mem_cons.mp h with rfl|h
  ·exact⟨(t,u),List.mem_cons_self ..,rfl⟩
  ·obtain⟨p',h1,h2⟩:=subS_mem h
   exact⟨p',List.mem_cons_of_mem _ h1,h2⟩
theorem subO_get{j:Nat}{x:Lf}:∀{l:List Ob} {i:Nat},(subO j x l)[i]? = (l[i]?).map (·.sub j x)
 | [],_=>rfl
 |o::l,0=>rfl
 |o::l,i+1=>by simp only[subO,List.getElem?_cons_succ];exact subO_get
theorem subO_len{j:Nat}{x:Lf}:∀{l:List Ob},(subO j x l).length=l.length
 | []=>rfl
 |o::l=>by simp only[subO,List.length_cons,subO_len]
theorem GX.frz(G:GX QL W s0 s C stk e F m Q O L Φ){j:Nat}{e':En}(h:e.frz C j=some e'):∃O' Φ',GX QL W s0 s C stk e' F m Q O' L Φ':=by
 unfold En.frz at h
 split at h
 ·next t w τ l hb hlent=>
  cases h
  have hlent:=Nat.le_of_ble_eq_true hlent
  rw[zC]at hb
  have hjq:j<Q.length:=by rw[←G.len];exact(List.getElem?_eq_some_iff.mp hb).1
  obtain⟨q,hq⟩:∃q,Q[j]? = some q:=⟨_,List.getElem?_eq_getElem hjq⟩
  obtain⟨o,ho⟩:∃o,O[j]? = some o:=⟨_,List.getElem?_eq_getElem (by rw[G.oq];exact hjq)⟩
  obtain⟨a,cap,hv,_,how⟩:=G.obj j _ q o hb hq ho
  have hsub:blkD q.2 o⊆L:=by
   cases o with
   |none=>exact List.nil_subset _
   |some o=>intro p hp;simp only[blkD,List.mem_singleton]at hp;subst hp;exact G.own j q o hq ho hlent
  have hw:WLe (W.x Φ) (W.x (blkD q.2 o++Φ)):=wx_up (List.subset_append_right _ _)
  have hl:Rep (W.x (blkD q.2 o++Φ)) (.sl t w τ) [q.1] l:=by
   rw[hv];exact how.rep (List.subset_append_right _ _) (List.subset_append_left _ _)
  have G1:=G.drop j
  have hcon:∀(i:Nat),(subO j (.sl t w τ l) (zt e.objs j .dead))[i]? = some Ob.const→(zt e.objs j .dead)[i]? = some Ob.const:=fun i h=>by
   rw[subO_get,Option.map_eq_some_iff]at h
   obtain⟨b,h1,h2⟩:=h
   cases b<;>first|exact h1|(simp only[Ob.sub]at h2;cases h2)
  refine⟨zt O j none,blkD q.2 o++Φ,?_⟩
  exact{G1 with
   len:=by simp only[subO_len];exact G1.len
   fro:=fun p hp=>by
    rcases List.mem_append.mp hp with h|h
    ·exact hsub h
    ·exact G.fro h
   dis:=fun i q' o' p hi h1 h2 hp=>by
    rcases List.mem_append.mp hp with h|h
    ·cases o with
     |none=>cases h
     |some o=>
      simp only[blkD,List.mem_singleton]at h
      subst h
      intro he
      rw[yO]at h2
      split at h2
      ·cases h2
      ·next hne=>
       have:=G.inj j i q q' o o' hq h1 ho h2 he
       subst this
       exact hne ⟨rfl,by rw[G.oq];exact hjq⟩
    ·exact G1.dis i q' o' p hi h1 h2 h
   obj:=fun i b q' o' h0 h1 h2=>by
    rw[subO_get,Option.map_eq_some_iff]at h0
    obtain⟨b',h0,rfl⟩:=h0
    have:=G1.obj i b' q' o' h0 h1 h2
    cases b' with
    |cells x=>obtain⟨c,t',e1,h⟩:=this;exact⟨c,t',e1,LsR.sub hw hq hl h⟩
    |list=>exact this.mono hw QLe.rfl
    |loop=>exact this.mono hw QLe.rfl
    |_=>trivial
   cob:=fun i b q' o' h0 h0' h1 h2=>(G1.cob i b q' o' (hcon i h0) h0' h1 h2).mono hw QLe.rfl
   slots:=fun p hp=>by
    obtain⟨p',h1,rfl⟩:=subS_mem hp
    exact(G.slots p' h1).sub hw hq hl
   cslots:=G.cslots.mono hw QLe.rfl
   stk:=fun f hf=>⟨(G.stk f hf).1,(G.stk f hf).2.1.mono hw QLe.rfl,fun p hp=>List.mem_append_right _ ((G.stk f hf).2.2 hp)⟩}
 ·cases h
theorem GX.frzL{l:List Lf}:∀{e e':En} {O:List (Option MObj)} {Φ:Hp'},GX QL W s0 s C stk e F m Q O L Φ→e.frzL C l=some e'→∃O' Φ',GX QL W s0 s C stk e' F m Q O' L Φ':=by
 induction l with
 |nil=>intro e e' O Φ G h;cases h;exact⟨_,_,G⟩
 |cons x l ih=>
  intro e e' O Φ G h
  cases x with
  |own j=>
   simp only[En.frzL]at h
   split at h
   ·exact ih G h
   ·split at h
    ·next e1 h1=>
     obtain⟨O',Φ',G1⟩:=G.frz h1
     exact ih G1 h
    ·cases h
  |_=>simp only[En.frzL]at h;exact ih G h
theorem GX.frzT{l:List (Bool×List Lf)}:∀{e e':En} {O:List (Option MObj)} {Φ:Hp'},GX QL W s0 s C stk e F m Q O L Φ→e.frzT C l=some e'→∃O' Φ',GX QL W s0 s C stk e' F m Q O' L Φ':=by
 induction l with
 |nil=>intro e e' O Φ G h;cases h;exact⟨_,_,G⟩
 |cons x l ih=>
  intro e e' O Φ G h
  simp only[En.frzT]at h
  split at h
  ·next e1 h1=>
   obtain⟨O',Φ',G1⟩:=G.frzL h1
   exact ih G1 h
  ·cases h
theorem GX.frzP{l:List Pv}:∀{e e':En} {O:List (Option MObj)} {Φ:Hp'},GX QL W s0 s C stk e F m Q O L Φ→e.frzP C l=some e'→∃O' Φ',GX QL W s0 s C stk e' F m Q O' L Φ':=by
 induction l with
 |nil=>intro e e' O Φ G h;cases h;exact⟨_,_,G⟩
 |cons x l ih=>
  intro e e' O Φ G h
  cases x with
  |one x=>
   simp only[En.frzP]at h
   split at h
   ·next e1 h1=>
    obtain⟨O',Φ',G1⟩:=G.frzL h1
    exact ih G1 h
   ·cases h
  |agg x=>
   simp only[En.frzP]at h
   split at h
   ·next e1 h1=>
    obtain⟨O',Φ',G1⟩:=G.frzL h1
    exact ih G1 h
   ·cases h
  |tup x=>
   simp only[En.frzP]at h
   split at h
   ·next e1 h1=>
    obtain⟨O',Φ',G1⟩:=G.frzT h1
    exact ih G1 h
   ·cases h
  |_=>simp only[En.frzP]at h;exact ih G h
end
end Go.Proofs.YtocnbjjmmgolfaaGreat
namespace Go.Proofs.YtocnbjjmmgolfaaGreat
open Go Go.M Go.Proofs.C14
def VsR(W:Wd):(ar:List Ty)→List Value→Tp ar→Prop
 | [],vs,_=>vs=[]
 | [a],vs,x=>∃v,vs=[v]∧RepV W a v x
 |a::b::l,vs,x=>∃v r,vs=v::r∧RepV W a v x.1∧VsR W (b::l) r x.2
-- a contract over one table
def DecI(I:zT)(f:FuncId)(k:Nat)(ar:List Ty)(τ:Ty)(z:Tp ar→Option τ.T):Prop:=∀⦃s:St⦄,Fine s→∀⦃W:Wd⦄,Knw s W→∀⦃vs:List Value⦄ ⦃x:Tp ar⦄,VsR W ar vs x→∀⦃r:τ.T⦄,z x=some r→s.next+k≤z3→RetsD W I f ⟨vs⟩ s k τ r
def DecL(f:FuncId)(k:Nat)(ar:List Ty)(τ:Ty)(z:Tp ar→Option τ.T):Prop:=∀⦃I:zT⦄,zQ I→DecI I f k ar τ z
def ConI(I:zT)(T:FuncId→Option Con):Prop:=∀f con,T f=some con→DecI I f con.room con.ar con.res con.fn
def ConOK(T:FuncId→Option Con):Prop:=∀f con,T f=some con→DecL f con.room con.ar con.res con.fn
theorem ConOK.i{T:FuncId→Option Con}(h:ConOK T){I:zT}(hI:zQ I):ConI I T:=fun f con hf=>h f con hf hI
def PsR(W:Wd)(Q:Qs):List Pv→List Value→Prop
 | [],vs=>vs=[]
 |p::l,vs=>∃v r,vs=v::r∧PvR W Q p v∧PsR W Q l r
section
variable{W:Wd}{D:Hp'}{Q:Qs}
theorem unQ_ok{p:Pv}{q:Bool×List Lf}{v:Value}(h:PvR W Q p v)(hq:unQ p=some q):QR W Q q v:=by
 unfold unQ at hq
 split at hq<;>cases hq
 ·exact⟨_,rfl,h⟩
 ·exact h
theorem xr{τ:Ty}{l:List Lf}{c:List Value}{x:τ.T}(h:LsR (W.x D) Q l c)(hr:qe τ l=some x):Rep (W.x D) τ c x:=by
 unfold qe at hr
 split at hr
 ·next y hy=>
  cases hr
  obtain⟨c1,c2,rfl,h1,h2⟩:=read_ok τ h hy
  rw[show c2=[]from h2,List.append_nil];exact h1
 ·cases hr
theorem readQ_ok{τ:Ty}{p:Bool×List Lf}{v:Value}{x:τ.T}(h:QR (W.x D) Q p v)(hr:readQ τ p=some x):RepV (W.x D) τ v x:=by
 obtain⟨g,l⟩:=p
 unfold readQ at hr
 split at hr
 ·next hg=>
  simp only[beq_iff_eq]at hg
  subst hg
  cases τ with
  |int k=>
   obtain⟨y,h1,h2⟩:=h
   simp only at h1 hr;subst h1
   have:=xr (LsR.one h2) hr
   exact(List.cons.inj (show [v]=[Value.int k x]from this)).1
  |bool=>
   obtain⟨y,h1,h2⟩:=h
   simp only at h1 hr;subst h1
   have:=xr (LsR.one h2) hr
   exact(List.cons.inj (show [v]=[Value.bool x]from this)).1
  |sl t w e=>
   obtain⟨y,h1,h2⟩:=h
   simp only at h1 hr;subst h1
   exact xr (LsR.one h2) hr
  |rat=>obtain⟨c,h1,h2⟩:=h;exact⟨c,h1,xr h2 hr⟩
  |one a=>obtain⟨c,h1,h2⟩:=h;exact⟨c,h1,xr h2 hr⟩
  |pair a b=>obtain⟨c,h1,h2⟩:=h;exact⟨c,h1,xr h2 hr⟩
  |tup a b=>
   simp only[qe]at hr
   split at hr
   ·next hh=>cases l<;>(try rename_i y _;cases y)<;>(simp only[yY]at hh;cases hh)
   ·cases hr
  |tup3 a b c=>
   simp only[qe]at hr
   split at hr
   ·next hh=>cases l<;>(try rename_i y _;cases y)<;>(simp only[yY]at hh;cases hh)
   ·cases hr
 ·cases hr
theorem readP_ok{τ:Ty}{p:Pv}{v:Value}{x:τ.T}(h:PvR (W.x D) Q p v)(hr:readP τ p=some x):RepV (W.x D) τ v x:=by
 unfold readP at hr
 split at hr
 ·next a b p q=>
  obtain⟨vs,rfl,v1,r1,rfl,h1,v2,r2,rfl,h2,rfl⟩:=h
  split at hr
  ·next x y hx hy=>cases hr;exact⟨v1,v2,rfl,readQ_ok h1 hx,readQ_ok h2 hy⟩
  ·cases hr
 ·next a b c p q r=>
  obtain⟨vs,rfl,v1,r1,rfl,h1,v2,r2,rfl,h2,v3,r3,rfl,h3,rfl⟩:=h
  split at hr
  ·next x y z hx hy hz=>cases hr;exact⟨v1,v2,v3,rfl,readQ_ok h1 hx,readQ_ok h2 hy,readQ_ok h3 hz⟩
  ·cases hr
 ·cases hr
 ·cases hr
 ·split at hr
  ·next q hq=>exact readQ_ok (unQ_ok h hq) hr
  ·cases hr
theorem rdP_ok:∀{ar:List Ty} {ps:List Pv} {vs:List Value} {x:Tp ar},PsR (W.x D) Q ps vs→rdP ar ps=some x→VsR (W.x D) ar vs x
 | [],[],vs,x,h,hr=>h
 | [a],[p],vs,x,⟨v,r,e,h,h2⟩,hr=>⟨v,by rw[e,show r=[]from h2],readP_ok h hr⟩
 |a::b::l,p::ps,vs,x,⟨v,r,e,h,h2⟩,hr=>by
  simp only[rdP]at hr
  split at hr
  ·next y z hy hz=>cases hr;exact⟨v,r,e,readP_ok h hy,rdP_ok h2 hz⟩
  ·cases hr
theorem toQ_ok{τ:Ty}{v:Value}{x:τ.T}(h:RepV W τ v x)(hτ:τ.isTup=false):QR W Q (toQ τ x) v:=by
 cases τ with
 |int k=>exact⟨.int k x,rfl,by rw[show v=_ from h];rfl⟩
 |bool=>exact⟨.bool x,rfl,by rw[show v=_ from h];rfl⟩
 |sl t w e=>exact⟨.sl t w e x,rfl,h⟩
 |rat=>obtain⟨c,e,h⟩:=h;exact⟨c,e,qD h⟩
 |one a=>obtain⟨c,e,h⟩:=h;exact⟨c,e,qD h⟩
 |pair a b=>obtain⟨c,e,h⟩:=h;exact⟨c,e,qD h⟩
 |tup a b=>cases hτ
 |tup3 a b c=>cases hτ
theorem pvQ_ok{q:Bool×List Lf}{v:Value}(h:QR W Q q v):PvR W Q (pvQ q) v:=by
 obtain⟨g,l⟩:=q
 cases g with
 |true=>exact h
 |false=>
  obtain⟨x,h1,h2⟩:=h
  simp only at h1;subst h1
  exact h2
theorem toP_ok{τ:Ty}{v:Value}{x:τ.T}(h:RepV W τ v x)(hτ:τ.okT=true):PvR W Q (toP τ x) v:=by
 cases τ with
 |tup a b=>
  obtain⟨v1,v2,rfl,h1,h2⟩:=h
  simp only[Ty.okT,Bool.and_eq_true,Bool.not_eq_true']at hτ
  exact⟨_,rfl,v1,_,rfl,toQ_ok h1 hτ.1,v2,_,rfl,toQ_ok h2 hτ.2,rfl⟩
 |tup3 a b c=>
  obtain⟨v1,v2,v3,rfl,h1,h2,h3⟩:=h
  simp only[Ty.okT,Bool.and_eq_true,Bool.not_eq_true']at hτ
  exact⟨_,rfl,v1,_,rfl,toQ_ok h1 hτ.1.1,v2,_,rfl,toQ_ok h2 hτ.1.2,v3,_,rfl,toQ_ok h3 hτ.2,rfl⟩
 |_=>exact pvQ_ok (toQ_ok h rfl)
end
end Go.Proofs.YtocnbjjmmgolfaaGreat
