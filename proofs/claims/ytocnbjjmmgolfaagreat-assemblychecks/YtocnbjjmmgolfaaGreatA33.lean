/- The evaluator: what a loop carries. -/
/- The evaluator: the state as a round finds it. -/
/- The evaluator: rounds of loops over functions. -/
/- The evaluator: loops and code. -/
import Derived.Test.YtocnbjjmmgolfaaGreatA32
namespace Go.Proofs.YtocnbjjmmgolfaaGreat
open Go Go.M Go.Proofs.C14
inductive Rt:Lf→Lf→Prop
 |int (k:IntKind) (x:Int):Rt (.int k x) (.int k x)
 |bool (b:Bool):Rt (.bool b) (.bool b)
 |rat (q:Rat):Rt (.rat q) (.rat q)
 |sl (t w:Nat) (e:Ty) (l:List e.T):Rt (.sl t w e l) (.sl t w e l)
 |nil (t w:Nat) (e:Ty):Rt .nil (.sl t w e [])
inductive RtL:List Lf→List Lf→Prop
 |nil:RtL [] []
 |cons {x y:Lf} {l l':List Lf}:Rt x y→RtL l l'→RtL (x::l) (y::l')
theorem RtL.split{a:List Lf}:∀{c d:List Lf},RtL (a++c) d→∃x y,d=x++y∧RtL a x∧RtL c y:=by
 induction a with
 |nil=>intro c d h;exact⟨[],d,rfl,.nil,h⟩
 |cons x a ih=>
  intro c d h
  cases h with
  |cons h1 h2=>obtain⟨p,q,rfl,h3,h4⟩:=ih h2;exact⟨_::p,q,rfl,.cons h1 h3,h4⟩
theorem Rt.ok{W:Wd}{D:Hp'}{Q Q':Qs}{x y:Lf}(h:Rt x y){c:List Value}(hx:LfR (W.x D) Q x c):LfR (W.x D) Q' y c:=by
 cases h with
 |nil t w e=>rw[show c=_ from hx];exact nil_sl
 |_=>exact hx
theorem read_len(τ:Ty):∀{l r:List Lf} {x:τ.T},yY τ l=some (x,r)→r.length<l.length:=by
 induction τ with
 |one a ih=>intro l r x h;simp only[yY]at h;exact ih h
 |pair a b iha ihb=>
  intro l r x h
  simp only[yY]at h
  split at h
  ·next y r1 hy=>
   split at h
   ·next z r2 hz=>cases h;have:=iha hy;have:=ihb hz;omega
   ·cases h
  ·cases h
 |sl t w τ ih=>
  intro l r x h
  cases l with
  |nil=>simp only[yY]at h;cases h
  |cons y l=>
   cases y<;>simp only[yY]at h<;>first|(cases h;done)|(cases h;simp)|(split at h<;>first|(cases h;done)|(cases h;simp))
 |int k=>
  intro l r x h
  cases l with
  |nil=>simp only[yY]at h;cases h
  |cons y l=>
   cases y<;>simp only[yY]at h<;>first|(cases h;done)|(cases h;simp)|(split at h<;>first|(cases h;done)|(cases h;simp))
 |_=>
  intro l r x h
  cases l with
  |nil=>simp only[yY]at h;cases h
  |cons y l=>cases y<;>simp only[yY]at h<;>first|(cases h;done)|(cases h;simp)
theorem flat1(τ:Ty):∀{y:Lf} {x:τ.T},yY τ [y]=some (x,[])→∃y',flat τ x=[y']∧Rt y y':=by
 induction τ with
 |one a ih=>intro y x h;simp only[yY]at h;exact ih h
 |pair a b iha ihb=>
  intro y x h
  simp only[yY]at h
  split at h
  ·next z r1 hz=>
   have:=read_len _ hz
   obtain rfl:r1=[]:=by cases r1 with|nil=>rfl|cons=>simp at this
   split at h
   ·next z' r2 hz'=>have:=read_len _ hz';simp at this
   ·cases h
  ·cases h
 |sl t w τ ih=>
  intro y x h
  cases y with
  |sl t' w' τ' l=>
   simp only[yY]at h
   split at h
   ·next hh=>
    obtain⟨rfl,rfl,rfl⟩:=hh
    cases h
    exact⟨_,rfl,.sl ..⟩
   ·cases h
  |nil=>simp only[yY]at h;cases h;exact⟨_,rfl,.nil ..⟩
  |_=>simp only[yY]at h;cases h
 |int k=>
  intro y x h
  cases y with
  |int k' x'=>
   simp only[yY]at h
   split at h
   ·next hh=>subst hh;cases h;exact⟨_,rfl,.int ..⟩
   ·cases h
  |_=>simp only[yY]at h;cases h
 |bool=>intro y x h;cases y<;>simp only[yY]at h<;>first|(cases h;done)|(cases h;exact⟨_,rfl,.bool ..⟩)
 |rat=>intro y x h;cases y<;>simp only[yY]at h<;>first|(cases h;done)|(cases h;exact⟨_,rfl,.rat ..⟩)
 |_=>intro y x h;cases y<;>simp only[yY]at h<;>cases h
theorem readAll1{τ:Ty}{y:Lf}{x:τ.T}(h:qe τ [y]=some x):∃y',flat τ x=[y']∧Rt y y':=by
 unfold qe at h
 split at h
 ·next z hz=>cases h;exact flat1 τ hz
 ·cases h
theorem rdL_ok:∀{ts:List Ty} {l:List Lf} {x:Tp ts},rdL ts l=some x→RtL l (mkL ts x)
 | [],[],x,h=>.nil
 | [a],[y],x,h=>by
  obtain⟨y',e,h⟩:=readAll1 (show qe a [y]=some x from h)
  simp only[mkL]
  rw[e];exact .cons h .nil
 |a::b::ts,y::l,x,h=>by
  simp only[rdL]at h
  split at h
  ·next v w hv hw=>
   cases h
   obtain⟨y',e,h⟩:=readAll1 hv
   simp only[mkL]
   rw[e];exact .cons h (rdL_ok hw)
  ·cases h
section
variable{W:Wd}{Φ:Hp'}{Q Q':Qs}{n0:Nat}{srcs:List (Option Nat)}
def SrcR(Q Q':Qs)(n0:Nat)(srcs:List (Option Nat)):Prop:=∀(k:Nat) j,srcs[k]? = some j→∃q,Q'[n0+k]? = some q∧(∃a n c,q.1=.slice a n c)∧match j with
 |some j=>∃q',Q[j]? = some q'∧q.1=q'.1
 |none=>q.1=.slice none 0 0
theorem ls_ok(hQ:∀(i:Nat) q,i<n0→Q[i]? = some q→Q'[i]? = some q)(hS:SrcR Q Q' n0 srcs){x:LS}{y:Lf}{a a' rest:List Lf}{c:List Value}(hy:LfR (W.x Φ) Q y c)(h:lsK n0 srcs x y=some a)(ha:RtL a a') :
  (fillLS n0 x (a'++rest)).2=rest∧LfR (W.x Φ) Q' (fillLS n0 x (a'++rest)).1 c:=by
 unfold lsK at h
 split at h
 ·next l=>
  cases h
  cases ha with
  |cons h1 h2=>cases h2;exact⟨rfl,h1.ok hy⟩
 ·next k j=>
  split at h
  ·next i hi=>
   split at h
   ·next hb=>
    cases h;cases ha
    obtain rfl:=Nat.eq_of_beq_eq_true hb
    rw[zC]at hi
    obtain⟨q,h1,h2,q',h3,h4⟩:=hS k _ hi
    obtain⟨q'',g1,g2,g3⟩:=hy
    rw[h3]at g1;cases g1
    exact⟨rfl,q,h1,by rw[h4];exact g2,h2⟩
   ·cases h
  ·cases h
 ·next k=>
  split at h
  ·next hi=>
   cases h;cases ha
   rw[zC]at hi
   obtain⟨q,h1,h2,h3⟩:=hS k _ hi
   exact⟨rfl,q,h1,by rw[h3];exact hy,h2⟩
  ·cases h
 ·next j off j' off'=>
  split at h
  ·next hb=>
   cases h;cases ha
   simp only[Bool.and_eq_true]at hb
   obtain rfl:=Nat.eq_of_beq_eq_true hb.1.1
   obtain rfl:=Nat.eq_of_beq_eq_true hb.1.2
   obtain⟨q,g1,g2⟩:=hy
   exact⟨rfl,q,hQ _ _ (by simpa using hb.2) g1,g2⟩
  ·cases h
 ·cases h;cases ha;exact⟨rfl,hy⟩
 ·cases h
theorem lss_ok(hQ:∀(i:Nat) q,i<n0→Q[i]? = some q→Q'[i]? = some q)(hS:SrcR Q Q' n0 srcs):∀{ls:List LS} {l a a' rest:List Lf} {c:List Value},LsR (W.x Φ) Q l c→lssK n0 srcs ls l=some a→RtL a a' →
  (xT n0 ls (a'++rest)).2=rest∧LsR (W.x Φ) Q' (xT n0 ls (a'++rest)).1 c
 | [],[],a,a',rest,c,hl,h,ha=>by cases h;cases ha;exact⟨rfl,hl⟩
 | [],_::_,a,a',rest,c,hl,h,ha=>by simp only[lssK]at h;cases h
 |_::_,[],a,a',rest,c,hl,h,ha=>by simp only[lssK]at h;cases h
 |x::ls,y::l,a,a',rest,c,⟨c1,c2,e,hy,hl⟩,h,ha=>by
  simp only[lssK]at h
  split at h
  ·next b b2 hb hb2=>
   cases h
   obtain⟨p,q,rfl,h1,h2⟩:=ha.split
   rw[List.append_assoc]
   obtain⟨g1,g2⟩:=ls_ok (rest:=q++rest) hQ hS hy hb h1
   obtain⟨g3,g4⟩:=lss_ok (rest:=rest) hQ hS hl hb2 h2
   simp only[xT]
   rw[g1]
   exact⟨g3,c1,c2,e,g2,g4⟩
  ·cases h
theorem vars_ok{C:Cx}{e:En}{F:FF}(hQ:∀(i:Nat) q,i<n0→Q[i]? = some q→Q'[i]? = some q)(hS:SrcR Q Q' n0 srcs)(hget:∀t p,e.get C t=some p→PvR (W.x Φ) Q p (F t)):∀{vs:List (Nat×Bool×List LS)} {a a' rest:List Lf},varsK n0 C e srcs vs=some a→RtL a a' →
  (fillV n0 vs (a'++rest)).2=rest∧SvF (W.x Φ) Q' (fillV n0 vs (a'++rest)).1 F
 | [],a,a',rest,h,ha=>by cases h;cases ha;exact⟨rfl,fun _ h=>nomatch h⟩
 |(t,g,ls)::vs,a,a',rest,h,ha=>by
  simp only[varsK]at h
  split at h
  ·next p hp=>
   split at h
   ·next g' l hq=>
    split at h
    ·next b b2 hg hb hb2=>
     cases h
     obtain⟨p1,p2,rfl,h1,h2⟩:=ha.split
     rw[List.append_assoc]
     have hpv:=unQ_ok (hget t p hp) hq
     simp only[beq_iff_eq]at hg
     subst hg
     obtain⟨g3,g4⟩:(xT n0 ls (p1++(p2++rest))).2=p2++rest∧QR (W.x Φ) Q' (g',(xT n0 ls (p1++(p2++rest))).1) (F t):=by
      cases g' with
      |true=>
       obtain⟨c,e1,hl⟩:=hpv
       obtain⟨g1,g2⟩:=lss_ok (rest:=p2++rest) hQ hS hl hb h1
       exact⟨g1,c,e1,g2⟩
      |false=>
       obtain⟨y,e1,hl⟩:=hpv
       simp only at e1;subst e1
       obtain⟨g1,g2⟩:=lss_ok (rest:=p2++rest) hQ hS (LsR.one hl) hb h1
       refine⟨g1,?_⟩
       cases ls with
       |nil=>simp only[lssK]at hb;cases hb
       |cons x ls=>
        cases ls with
        |nil=>exact⟨_,rfl,LsR.one' g2⟩
        |cons x2 ls=>
         simp only[lssK]at hb
         split at hb
         ·next h9=>cases h9
         ·cases hb
     obtain⟨g5,g6⟩:=vars_ok (rest:=rest) hQ hS hget hb2 h2
     simp only[fillV]
     rw[g3]
     refine⟨g5,fun q hq=>?_⟩
     rcases List.mem_cons.mp hq with rfl|hq
     ·exact pvQ_ok g4
     ·exact g6 q hq
    ·cases h
   ·cases h
  ·cases h
theorem fillLS_snd{x:LS}{y:Lf}{a a' rest:List Lf}(h:lsK n0 srcs x y=some a)(ha:RtL a a'):(fillLS n0 x (a'++rest)).2=rest:=by
 unfold lsK at h
 split at h
 ·cases h;cases ha with|cons h1 h2=>cases h2;rfl
 ·split at h
  ·split at h
   ·cases h;cases ha;rfl
   ·cases h
  ·cases h
 ·split at h
  ·cases h;cases ha;rfl
  ·cases h
 ·split at h
  ·cases h;cases ha;rfl
  ·cases h
 ·cases h;cases ha;rfl
 ·cases h
theorem fillLL_snd:∀{ls:List LS} {l a a' rest:List Lf},lssK n0 srcs ls l=some a→RtL a a'→(xT n0 ls (a'++rest)).2=rest
 | [],[],a,a',rest,h,ha=>by cases h;cases ha;rfl
 | [],_::_,a,a',rest,h,ha=>by simp only[lssK]at h;cases h
 |_::_,[],a,a',rest,h,ha=>by simp only[lssK]at h;cases h
 |x::ls,y::l,a,a',rest,h,ha=>by
  simp only[lssK]at h
  split at h
  ·next b b2 hb hb2=>
   cases h
   obtain⟨p,q,rfl,h1,h2⟩:=ha.split
   rw[List.append_assoc]
   simp only[xT]
   rw[fillLS_snd hb h1]
   exact fillLL_snd hb2 h2
  ·cases h
theorem objK1_ok(hQ:∀(i:Nat) q,i<n0→Q[i]? = some q→Q'[i]? = some q)(hS:SrcR Q Q' n0 srcs){ls:List LS}{o:Ob}{a a' rest:List Lf}(h:objK1 n0 srcs ls o=some a)(ha:RtL a a') :
  (fillO1 n0 ls (a'++rest)).2=rest∧(fillO1 n0 ls (a'++rest)).1≠.const∧(fillO1 n0 ls (a'++rest)).1≠.dead∧∀q oo,ObjR (W.x Φ) Q o q oo→ObjR (W.x Φ) Q' (fillO1 n0 ls (a'++rest)).1 q oo:=by
 unfold objK1 at h
 split at h
 ·next l=>
  have hnl:ls≠[.lst]:=fun e=>by
   subst e
   cases l with
   |nil=>simp only[lssK]at h;cases h
   |cons y l=>simp only[lssK,lsK]at h;cases h
  have hf:fillO1 n0 ls (a'++rest)=(.cells (xT n0 ls (a'++rest)).1,(xT n0 ls (a'++rest)).2):=by
   unfold fillO1
   split
   ·exact(hnl rfl).elim
   ·rfl
  rw[hf]
  exact⟨fillLL_snd h ha,(fun h=>nomatch h),(fun h=>nomatch h),fun q oo ⟨c,t,e1,hc⟩=>⟨c,t,e1,(lss_ok (rest:=rest) hQ hS hc h ha).2⟩⟩
 ·next t w τ l=>
  split at h
  ·cases h
   cases ha with
   |cons h1 h2=>
    cases h1;cases h2
    exact⟨rfl,(fun h=>nomatch h),(fun h=>nomatch h),fun q oo h=>h⟩
  ·cases h
 ·cases h
theorem objs_ok{e:En}{O:List (Option MObj)}(hQ:∀(i:Nat) q,i<n0→Q[i]? = some q→Q'[i]? = some q)(hS:SrcR Q Q' n0 srcs)(hobj:∀(i:Nat) b q o,e.objs[i]? = some b→Q[i]? = some q→O[i]? = some o→ObjR (W.x Φ) Q b q o) :
  ∀{vs:List (Nat×List LS)} {sk:List Ob} {a a' rest:List Lf},objsK n0 e srcs vs=some a→RtL a a' →
  (fillO n0 vs sk (a'++rest)).2=rest∧(fillO n0 vs sk (a'++rest)).1.length=sk.length∧∀(i:Nat) b,(fillO n0 vs sk (a'++rest)).1[i]? = some b→sk[i]? = some b∨(keyN i vs=true∧b≠.const∧b≠.dead∧∀q o,Q[i]? = some q→O[i]? = some o→ObjR (W.x Φ) Q' b q o)
 | [],sk,a,a',rest,h,ha=>by cases h;cases ha;exact⟨rfl,rfl,fun i b hb=>.inl hb⟩
 |(j,ls)::vs,sk,a,a',rest,h,ha=>by
  simp only[objsK]at h
  split at h
  ·next ob hl=>
   split at h
   ·next b b2 hb hb2=>
    cases h
    rw[zC]at hl
    obtain⟨p1,p2,rfl,h1,h2⟩:=ha.split
    rw[List.append_assoc]
    obtain⟨hsnd,hnc,hnd,hob⟩:=objK1_ok (W:=W) (Φ:=Φ) (rest:=p2++rest) hQ hS hb h1
    simp only[fillO]
    rw[hsnd]
    obtain⟨g1,g2,g3⟩:=objs_ok (sk:=zt sk j (fillO1 n0 ls (p1++(p2++rest))).1) (rest:=rest) hQ hS hobj hb2 h2
    refine⟨g1,by rw[g2,ya],fun i b hb'=>?_⟩
    have hkey:keyN i vs=true→keyN i ((j,ls)::vs)=true:=fun hk=>by
     simp only[keyN,find]at hk ⊢
     cases Nat.beq j i with
     |true=>rfl
     |false=>exact hk
    rcases g3 i b hb' with h|⟨h,h'⟩
    ·rw[yO]at h
     split at h
     ·next hh=>
      cases h
      obtain⟨rfl,_⟩:=hh
      exact .inr ⟨by simp[keyN,find],hnc,hnd,fun q o hq ho=>hob q o (hobj i ob q o hl hq ho)⟩
     ·exact .inl h
    ·exact .inr ⟨hkey h,h'⟩
   ·cases h
  ·cases h
end
end Go.Proofs.YtocnbjjmmgolfaaGreat
namespace Go.Proofs.YtocnbjjmmgolfaaGreat
open Go Go.M Go.Proofs.C14
def tqS(Q:Qs):List (Option Nat)→Qs
 | []=>[]
 |some j::r=>Q.getD j (.slice none 0 0,0)::tqS Q r
 |none::r=>(.slice none 0 0,0)::tqS Q r
def toS(O:List (Option MObj)):List (Option Nat)→List (Option MObj)
 | []=>[]
 |some j::r=>O.getD j none::toS O r
 |none::r=>none::toS O r
def maskO:List Ob→List (Option MObj)→List (Option MObj)
 | .dead::r,_::s=>none::maskO r s
 |_::r,o::s=>o::maskO r s
 |_,_=>[]
theorem tqS_len{Q:Qs}:∀{l:List (Option Nat)},(tqS Q l).length=l.length
 | []=>rfl
 |some j::r=>by simp only[tqS,List.length_cons,tqS_len]
 |none::r=>by simp only[tqS,List.length_cons,tqS_len]
theorem toS_len{O:List (Option MObj)}:∀{l:List (Option Nat)},(toS O l).length=l.length
 | []=>rfl
 |some j::r=>by simp only[toS,List.length_cons,toS_len]
 |none::r=>by simp only[toS,List.length_cons,toS_len]
theorem tqS_get{Q:Qs}:∀{l:List (Option Nat)} {k:Nat} {j:Option Nat},l[k]? = some j→(tqS Q l)[k]? = some (match j with|some j=>Q.getD j (.slice none 0 0,0)|none=>(.slice none 0 0,0))
 |some j::r,0,_,h=>by cases h;rfl
 |none::r,0,_,h=>by cases h;rfl
 |some j::r,k+1,_,h=>tqS_get (l:=r) (k:=k) h
 |none::r,k+1,_,h=>tqS_get (l:=r) (k:=k) h
theorem toS_get{O:List (Option MObj)}:∀{l:List (Option Nat)} {k:Nat} {j:Option Nat},l[k]? = some j→(toS O l)[k]? = some (match j with|some j=>O.getD j none|none=>none)
 |some j::r,0,_,h=>by cases h;rfl
 |none::r,0,_,h=>by cases h;rfl
 |some j::r,k+1,_,h=>toS_get (l:=r) (k:=k) h
 |none::r,k+1,_,h=>toS_get (l:=r) (k:=k) h
theorem maskO_len:∀{a:List Ob} {O:List (Option MObj)},a.length≤O.length→(maskO a O).length=a.length
 | [],O,_=>by cases O<;>rfl
 |b::r,[],h=>by simp at h
 |b::r,o::s,h=>by
  have:=maskO_len (a:=r) (O:=s) (by simpa using h)
  cases b<;>simp only[maskO,List.length_cons,this]
theorem maskO_get:∀{a:List Ob} {O:List (Option MObj)} {i:Nat} {o:Option MObj},(maskO a O)[i]? = some o→(a[i]? = some .dead∧o=none)∨(a[i]? ≠ some .dead∧O[i]? = some o)
 | [],O,i,o,h=>by cases O<;>cases h
 |b::r,[],i,o,h=>by cases b<;>cases h
 |b::r,p::s,0,o,h=>by cases b<;>cases h<;>first|exact .inl ⟨rfl,rfl⟩|exact .inr ⟨Y8,rfl⟩
 |b::r,p::s,i+1,o,h=>by
  have:(maskO r s)[i]? = some o:=by cases b<;>exact h
  simpa only[List.getElem?_cons_succ]using maskO_get this
theorem memS_get:∀{l:List (Option Nat)} {k j:Nat},l[k]? = some (some j)→memS j l=true
 |some i::r,0,j,h=>by cases h;simp[memS]
 |none::r,0,j,h=>by cases h
 |some i::r,k+1,j,h=>by simp only[memS,memS_get (l:=r) (k:=k) h,Bool.or_true]
 |none::r,k+1,j,h=>memS_get (l:=r) (k:=k) h
theorem nodupS_get:∀{l:List (Option Nat)} {k k' j:Nat},nodupS l=true→l[k]? = some (some j)→l[k']? = some (some j)→k=k'
 |some i::r,0,0,j,_,_,_=>rfl
 |some i::r,0,k'+1,j,h,h1,h2=>by
  cases h1
  simp only[nodupS,Bool.and_eq_true,Bool.not_eq_true']at h
  rw[memS_get (l:=r) (k:=k') h2]at h
  cases h.1
 |some i::r,k+1,0,j,h,h1,h2=>by
  cases h2
  simp only[nodupS,Bool.and_eq_true,Bool.not_eq_true']at h
  rw[memS_get (l:=r) (k:=k) h1]at h
  cases h.1
 |some i::r,k+1,k'+1,j,h,h1,h2=>by
  simp only[nodupS,Bool.and_eq_true]at h
  rw[nodupS_get (l:=r) (k:=k) (k':=k') h.2 h1 h2]
 |none::r,0,_,j,h,h1,h2=>by cases h1
 |none::r,k+1,0,j,h,h1,h2=>by cases h2
 |none::r,k+1,k'+1,j,h,h1,h2=>by rw[nodupS_get (l:=r) (k:=k) (k':=k') h h1 h2]
theorem lentS_get{n:Nat}:∀{l:List (Option Nat)} {k j:Nat},lentS n l=true→l[k]? = some (some j)→n≤j
 |some i::r,0,j,h,h1=>by cases h1;simp only[lentS,Bool.and_eq_true]at h;exact Nat.le_of_ble_eq_true h.1
 |none::r,0,j,h,h1=>by cases h1
 |some i::r,k+1,j,h,h1=>by simp only[lentS,Bool.and_eq_true]at h;exact lentS_get (l:=r) (k:=k) h.2 h1
 |none::r,k+1,j,h,h1=>lentS_get (l:=r) (k:=k) h h1
theorem objN_key{srcs:List (Option Nat)}{j:Nat}:∀{l:List (Nat×List LS)},objN srcs l=true→memS j srcs=true→keyN j l=false
 | [],_,_=>rfl
 |(i,ls)::r,h,hj=>by
  simp only[objN,Bool.and_eq_true,Bool.not_eq_true']at h
  have ih:=objN_key (l:=r) h.2 hj
  simp only[keyN,find]at ih ⊢
  cases hb:Nat.beq i j with
  |true=>rw[Nat.eq_of_beq_eq_true hb]at h;rw[hj]at h;cases h.1
  |false=>exact ih
theorem own_ok{e:En}:∀{os:List OwnS} {srcs:List (Option Nat)} {a a':List Lf},ownK e os srcs=some a→RtL a a'→(fillW os a').length=srcs.length ∧
  ∀(k:Nat) j,srcs[k]? = some j→∃t w τ l,(fillW os a')[k]? = some (.list t w τ l)∧match j with
   |some j=>e.objs[j]? = some (.list t w τ l)
   |none=>l=[]∧τ.sz=w
 | [],[],a,a',h,ha=>by cases h;cases ha;exact⟨rfl,fun k j h=>by cases h⟩
 | [],_::_,a,a',h,ha=>by simp only[ownK]at h;cases h
 |_::_,[],a,a',h,ha=>by simp only[ownK]at h;cases h
 |o::os,none::srcs,a,a',h,ha=>by
  simp only[ownK]at h
  split at h
  ·next b hsz hb=>
   cases h
   cases ha with
   |cons h1 h2=>
    cases h1
    obtain⟨g1,g2⟩:=own_ok hb h2
    refine⟨by simp only[fillW,List.length_cons,g1],fun k j hk=>?_⟩
    cases k with
    |zero=>cases hk;exact⟨_,_,_,_,rfl,rfl,Nat.eq_of_beq_eq_true hsz⟩
    |succ k=>exact g2 k j hk
  ·cases h
 |o::os,some i::srcs,a,a',h,ha=>by
  simp only[ownK]at h
  split at h
  ·next t w τ l b hob hb=>
   cases h
   rw[zC]at hob
   cases ha with
   |cons h1 h2=>
    cases h1
    obtain⟨g1,g2⟩:=own_ok hb h2
    refine⟨by simp only[fillW,List.length_cons,g1],fun k j hk=>?_⟩
    cases k with
    |zero=>cases hk;exact⟨_,_,_,_,rfl,hob⟩
    |succ k=>exact g2 k j hk
  ·cases h
section
variable{W:Wd}{s0 s:St}{C:Cx}{QL:Qs}{stk:List Fra}{e:En}{F:FF}{m:Nat}{Q:Qs}{O:List (Option MObj)}{L Φ:Hp'}
theorem norm_ok(G:GX QL W s0 s C stk e F m Q O L Φ){h:Hi}{C0:Cx}{skel:List Ob}{srcs:List (Option Nat)}{x:Tp h.ts}(hget:∀t p,e.get C0 t=some p→PvR (W.x Φ) Q p (F t))(hlen:skel.length=C.n)
  (hsk:∀(i:Nat) b,skel[i]? = some b→b=.dead∨(b=.const∧∀b' q o,C.objs[i]? = some b'→Q[i]? = some q→O[i]? = some o→ObjR (W.x Φ) (Q.take C.n) b' q o))
  (hsrc:∀(k j:Nat),srcs[k]? = some (some j)→skel[j]? ≠ some .const) (hn:normK h C.n C.lent C0 e srcs=some x) :
  ∃Q' O',GX QL W s0 s C stk (mkE h C.n skel x) F m Q' O' L Φ:=by
 unfold normK at hn
 split at hn
 ·next a b c ha hb hc=>
  split at hn
  ·next hck=>
   simp only[Bool.and_eq_true]at hck
   obtain⟨⟨hnd,hle⟩,hoN⟩:=hck
   have hR:=rdL_ok hn
   obtain⟨a',bc',hmk,hRa,hRbc⟩:=hR.split
   obtain⟨b',c',rfl,hRb,hRc⟩:=hRbc.split
   obtain⟨hwl,hown⟩:=own_ok hc hRc
   have hcn:=G.cn
   have htl:(Q.take C.n).length=C.n:=by rw[List.length_take];omega
   have hsq:∀(k j:Nat),srcs[k]? = some (some j)→∃q o,Q[j]? = some q∧O[j]? = some o∧∃t w τ l,e.objs[j]? = some (.list t w τ l)∧ObjR (W.x Φ) Q (.list t w τ l) q o:=fun k j hk=>by
    obtain⟨t,w,τ,l,_,h2⟩:=hown k _ hk
    simp only at h2
    have hj:j<Q.length:=by rw[←G.len];exact(List.getElem?_eq_some_iff.mp h2).1
    have hq:=List.getElem?_eq_getElem hj
    have ho:=List.getElem?_eq_getElem (l:=O) (i:=j) (by rw[G.oq];exact hj)
    exact⟨_,_,hq,ho,t,w,τ,l,h2,G.obj j _ _ _ h2 hq ho⟩
   -- where things lie now
   have hQlo:∀(i:Nat),i<C.n→(Q.take C.n++tqS Q srcs)[i]? = Q[i]? :=fun i hi=>by
    rw[List.getElem?_append_left (by rw[htl];exact hi),List.getElem?_take,if_pos hi]
   have hQhi:∀(k:Nat),(Q.take C.n++tqS Q srcs)[C.n+k]? = (tqS Q srcs)[k]? :=fun k=>by
    rw[List.getElem?_append_right (by rw[htl];omega),htl,Nat.add_sub_cancel_left]
   have hS:SrcR Q (Q.take C.n++tqS Q srcs) C.n srcs:=fun k j hk=>by
    rw[hQhi,tqS_get hk]
    cases j with
    |none=>exact⟨_,rfl,⟨_,_,_,rfl⟩,rfl⟩
    |some j=>
     obtain⟨q,o,hq,ho,t,w,τ,l,_,av,cap,hv,_⟩:=hsq k j hk
     refine⟨_,rfl,?_,q,hq,?_⟩
     ·simp only[List.getD_eq_getElem?_getD,hq,Option.getD_some];exact⟨_,_,_,hv⟩
     ·simp only[List.getD_eq_getElem?_getD,hq,Option.getD_some]
   have hQQ:∀(i:Nat) q,i<C.n→Q[i]? = some q→(Q.take C.n++tqS Q srcs)[i]? = some q:=fun i q hi hq=>by rw[hQlo i hi];exact hq
   obtain⟨hv1,hv2⟩:=vars_ok (rest:=b'++c') hQQ hS hget ha hRa
   obtain⟨ho1,ho2,ho3⟩:=objs_ok (sk:=skel) (rest:=c') hQQ hS (fun i b q o h0 h1 h2=>G.obj i b q o h0 h1 h2) hb hRb
   have hmkE:mkE h C.n skel x={slots:=(fillV C.n h.vars (a'++(b'++c'))).1,objs:=(fillO C.n h.objs skel (b'++c')).1++fillW h.own c'}:=by
    unfold mkE
    simp only[hmk,hv1,ho1]
   rw[hmkE]
   generalize hob:(fillO C.n h.objs skel (b'++c')).1=ob at ho2 ho3
   have hobl:ob.length=C.n:=ho2.trans hlen
   have hml:(maskO ob O).length=C.n:=by rw[maskO_len (by rw[hobl,G.oq];exact hcn),hobl]
   have hOlo:∀(i:Nat) o,i<C.n→(maskO ob O++toS O srcs)[i]? = some o→(ob[i]? = some .dead∧o=none)∨(ob[i]? ≠ some .dead∧O[i]? = some o):=fun i o hi h=>by
    rw[List.getElem?_append_left (by rw[hml];exact hi)]at h;exact maskO_get h
   have hOhi:∀(k:Nat),(maskO ob O++toS O srcs)[C.n+k]? = (toS O srcs)[k]? :=fun k=>by
    rw[List.getElem?_append_right (by rw[hml];omega),hml,Nat.add_sub_cancel_left]
   -- every object: an old one,or one that was elsewhere
   have hold:∀(i:Nat) q o,(Q.take C.n++tqS Q srcs)[i]? = some q→(maskO ob O++toS O srcs)[i]? = some (some o) →
     (i<C.n∧ob[i]? ≠ some .dead∧Q[i]? = some q∧O[i]? = some (some o))∨∃k j,i=C.n+k∧srcs[k]? = some (some j)∧Q[j]? = some q∧O[j]? = some (some o):=fun i q o hq ho=>by
    by_cases hi:i<C.n
    ·rw[hQlo i hi]at hq
     rcases hOlo i _ hi ho with⟨_,h2⟩|⟨h1,h2⟩
     ·cases h2
     ·exact .inl ⟨hi,h1,hq,h2⟩
    ·obtain⟨k,rfl⟩:∃k,i=C.n+k:=⟨i-C.n,by omega⟩
     rw[hQhi]at hq
     rw[hOhi]at ho
     have hk:k<srcs.length:=by rw[←toS_len (O:=O)];exact(List.getElem?_eq_some_iff.mp ho).1
     have hj:=List.getElem?_eq_getElem hk
     cases hjj:srcs[k]with
     |none=>rw[hjj]at hj;rw[toS_get hj]at ho;cases ho
     |some j=>
      rw[hjj]at hj
      rw[toS_get hj]at ho
      rw[tqS_get hj]at hq
      obtain⟨q',o',hq',ho',_⟩:=hsq k j hj
      simp only[List.getD_eq_getElem?_getD,hq',Option.getD_some,Option.some.injEq]at hq
      simp only[List.getD_eq_getElem?_getD,ho',Option.getD_some,Option.some.injEq]at ho
      subst hq ho
      exact .inr ⟨k,j,rfl,hj,hq',ho'⟩
   -- what was taken over is written off where it was
   have hgone:∀(k j:Nat),srcs[k]? = some (some j)→j<C.n→ob[j]? = some .dead:=fun k j hk hj=>by
    have h1:=List.getElem?_eq_getElem (l:=ob) (i:=j) (by rw[hobl];exact hj)
    rcases ho3 j _ h1 with h|⟨h,_⟩
    ·rcases hsk j _ h with h2|⟨h2,_⟩
     ·rw[h1,h2]
     ·rw[h2]at h;exact(hsrc k j hk h).elim
    ·rw[objN_key hoN (memS_get hk)]at h;cases h
   refine⟨Q.take C.n++tqS Q srcs,maskO ob O++toS O srcs,?_⟩
   exact{
    K:=G.K,H:=G.H
    oq:=by rw[List.length_append,List.length_append,hml,htl,toS_len,tqS_len]
    len:=by simp only[List.length_append,hobl,htl,hwl,tqS_len]
    cn:=by rw[List.length_append,htl];omega
    ln:=G.ln
    pre:=fun i hi=>by rw[hQlo i (by have:=G.ln;omega)];exact G.pre i hi
    fro:=G.fro
    own:=fun i q o hq ho hi=>by
     rcases hold i q o hq ho with⟨h1,h2,h3,h4⟩|⟨k,j,rfl,h1,h2,h3⟩
     ·exact G.own i q o h3 h4 hi
     ·exact G.own j q o h2 h3 (lentS_get hle h1)
    lent:=fun i q o hq ho hi=>by
     rcases hold i q o hq ho with⟨h1,h2,h3,h4⟩|⟨k,j,rfl,h1,h2,h3⟩
     ·exact G.lent i q o h3 h4 hi
     ·have:=G.ln;omega
    inj:=fun i i' q q' o o' hq hq' ho ho' he=>by
     rcases hold i q o hq ho with⟨h1,h2,h3,h4⟩|⟨k,j,rfl,h1,h2,h3⟩<;>rcases hold i' q' o' hq' ho' with⟨g1,g2,g3,g4⟩|⟨k',j',rfl,g1,g2,g3⟩
     ·exact G.inj i i' q q' o o' h3 g3 h4 g4 he
     ·have:=G.inj i j' q q' o o' h3 g2 h4 g3 he
      subst this
      exact(h2 (hgone k' i g1 h1)).elim
     ·have:=G.inj j i' q q' o o' h2 g3 h3 g4 he
      subst this
      exact(g2 (hgone k j h1 g1)).elim
     ·have:=G.inj j j' q q' o o' h2 g2 h3 g3 he
      subst this
      rw[nodupS_get hnd h1 g1]
    dis:=fun i q o p hi hq ho hp=>by
     rcases hold i q o hq ho with⟨h1,h2,h3,h4⟩|⟨k,j,rfl,h1,h2,h3⟩
     ·exact G.dis i q o p hi h3 h4 hp
     ·exact G.dis j q o p (lentS_get hle h1) h2 h3 hp
    obj:=fun i b1 q o hb1 hq ho=>by
     by_cases hi:i<C.n
     ·rw[List.getElem?_append_left (by rw[hobl];exact hi)]at hb1
      rw[hQlo i hi]at hq
      rcases ho3 i b1 hb1 with h|⟨h1,h2,h3,h4⟩
      ·rcases hsk i b1 h with rfl|⟨rfl,_⟩<;>trivial
      ·rcases hOlo i _ hi ho with⟨h5,_⟩|⟨_,h6⟩
       ·rw[hb1]at h5;cases h5;exact(h3 rfl).elim
       ·exact h4 q o hq h6
     ·obtain⟨k,rfl⟩:∃k,i=C.n+k:=⟨i-C.n,by omega⟩
      rw[List.getElem?_append_right (by rw[hobl];omega),hobl,Nat.add_sub_cancel_left]at hb1
      rw[hQhi]at hq
      rw[hOhi]at ho
      have hk:k<srcs.length:=by rw[←hwl];exact(List.getElem?_eq_some_iff.mp hb1).1
      have hj:=List.getElem?_eq_getElem hk
      obtain⟨t,w,τ,l,h1,h2⟩:=hown k _ hj
      rw[h1]at hb1;cases hb1
      rw[toS_get hj]at ho
      rw[tqS_get hj]at hq
      cases hjj:srcs[k]with
      |none=>
       rw[hjj]at ho hq h2
       cases ho;cases hq
       simp only at h2
       obtain⟨rfl,hsz⟩:=h2
       exact⟨none,0,rfl,fun _=>rfl,OwnL.nil hsz⟩
      |some j=>
       rw[hjj]at ho hq h2 hj
       obtain⟨q',o',hq',ho',t',w',τ',l',h3,h4⟩:=hsq k j hj
       simp only at h2
       rw[h2]at h3;cases h3
       simp only[List.getD_eq_getElem?_getD,hq',Option.getD_some,Option.some.injEq]at hq
       simp only[List.getD_eq_getElem?_getD,ho',Option.getD_some,Option.some.injEq]at ho
       subst hq ho
       exact h4
    cob:=fun i b1 q o hc1 hb1 hq ho=>by
     have hi:i<C.n:=by
      by_cases hi:i<C.n
      ·exact hi
      ·obtain⟨k,rfl⟩:∃k,i=C.n+k:=⟨i-C.n,by omega⟩
       rw[List.getElem?_append_right (by rw[hobl];omega),hobl,Nat.add_sub_cancel_left]at hc1
       have hk:k<srcs.length:=by rw[←hwl];exact(List.getElem?_eq_some_iff.mp hc1).1
       obtain⟨t,w,τ,l,h1,h2⟩:=hown k _ (List.getElem?_eq_getElem hk)
       rw[h1]at hc1;cases hc1
     rw[List.getElem?_append_left (by rw[hobl];exact hi)]at hc1
     rw[hQlo i hi]at hq
     rw[List.take_append_of_le_length (by rw[htl];exact Nat.le_refl _),List.take_take,Nat.min_self]
     rcases ho3 i _ hc1 with h|⟨_,h,_⟩
     ·rcases hsk i _ h with h|⟨_,h⟩
      ·cases h
      ·rcases hOlo i _ hi ho with⟨h5,_⟩|⟨_,h6⟩
       ·rw[hc1]at h5;cases h5
       ·exact h b1 q o hb1 hq h6
     ·exact(h rfl).elim
    slots:=hv2
    cslots:=by rw[List.take_append_of_le_length (by rw[htl];exact Nat.le_refl _),List.take_take,Nat.min_self];exact G.cslots
    stk:=fun f hf=>by
     obtain⟨h1,h2⟩:=G.stk f hf
     rw[List.take_append_of_le_length (by rw[htl];exact h1),List.take_take,Nat.min_eq_left h1]
     exact⟨h1,h2⟩}
  ·cases hn
 ·cases hn
end
end Go.Proofs.YtocnbjjmmgolfaaGreat
namespace Go.Proofs.YtocnbjjmmgolfaaGreat
open Go Go.M Go.Proofs.C14
section
variable{W:Wd}{s0 s:St}{C:Cx}{QL:Qs}{stk:List Fra}{e:En}{F:FF}{m:Nat}{Q:Qs}{O:List (Option MObj)}{L Φ:Hp'}
theorem GX.push(G:GX QL W s0 s C stk e F m Q O L Φ){f:Fra}(h1:f.n≤C.n)(h2:SvF (W.x Φ) (Q.take f.n) f.slots f.F)(h3:f.psi⊆Φ):GX QL W s0 s C (f::stk) e F m Q O L Φ:=
 {G with
  stk:=fun g hg=>by
   rcases List.mem_cons.mp hg with rfl|hg
   ·exact⟨h1,h2,h3⟩
   ·exact G.stk g hg}
theorem GX.pop{f:Fra}(G:GX QL W s0 s C (f::stk) e F m Q O L Φ):GX QL W s0 s C stk e F m Q O L Φ:=
 {G with stk:=fun g hg=>G.stk g (List.mem_cons_of_mem _ hg)}
def cutB(b:Nat)(Φ:Hp'):Hp':=Φ.filter fun p=> !Nat.beq p.1 b
theorem mem_cutB{b:Nat}{Φ:Hp'}{p:Nat×MObj}:p∈cutB b Φ↔p∈Φ∧p.1≠b:=by
 unfold cutB
 rw[List.mem_filter]
 simp only[Bool.not_eq_true',Bool.eq_false_iff,ne_eq,Nat.beq_eq]
theorem wx_cutB{lp:Lp}{b:Nat}(hL:∀p,p∈Φ→p.1=b→p.2=.loop lp){Ψ:Hp'}(hΨ:cutB b Φ⊆Ψ):WLe (W.x Φ) (W.x Ψ):=by
 have key:∀{b' c t},(b',MObj.cells c t)∈Φ→(b',MObj.cells c t)∈Ψ:=fun{b' c t} h=>hΨ (mem_cutB.mpr ⟨h,fun e=>by have:=hL _ h e;cases this⟩)
 constructor
 ·intro t w v l h
  refine h.imp id fun h=>?_
  cases h with
  |nil c hv hl=>exact .nil c hv hl
  |block b' off cap c hv hg hcap hc=>exact .block b' off cap c hv (key hg) hcap hc
theorem GX.only(G:GX QL W s0 s C stk e F m Q O L Φ){b:Nat}{o:MObj}(h:(b,o)∈Φ):∀p,p∈Φ→p.1=b→p.2=o:=fun p hp e=>by
 have h1:=(G.H.own _ (G.fro h)).1
 have h2:=(G.H.own _ (G.fro hp)).1
 simp only at h1
 rw[e]at h2
 rw[h1]at h2
 exact(Option.some.inj h2).symm
theorem GX.reput(G:GX QL W s0 s C stk e F m Q O L Φ)(hr:s0.next+m≤z3){b:Nat}{lp lp':Lp}(hb:(b,MObj.loop lp)∈Φ){stk':List Fra}(hst:∀f,f∈stk'→∃g,g∈stk∧f.n=g.n∧f.slots=g.slots∧f.F=g.F∧∀p,p∈f.psi→p=(b,.loop lp')∨p∈g.psi∧p.1≠b) :
  ∃L',GX QL W s0 (s.put b (some (.loop lp'))) C stk' e F m Q O L' ((b,.loop lp')::cutB b Φ):=by
 have hmem:=G.fro hb
 obtain⟨A,B,rfl⟩:=List.append_of_mem hmem
 have hw:WLe (W.x Φ) (W.x ((b,.loop lp')::cutB b Φ)):=wx_cutB (G.only hb) fun p hp=>List.mem_cons_of_mem _ hp
 have hown:=G.H.own _ hmem
 have hge:s0.next≤b:=by rcases hown.2.2.2 with h|h;exact h;cases h
 have hlt:b<s.next:=hown.2.1
 have hmost:=G.H.most
 have hin:∀p,p∈A++(b,.loop lp)::B→p.1≠b→p∈A++(b,.loop lp')::B:=fun p hp hne=>by
  rcases List.mem_append.mp hp with h|h
  ·exact List.mem_append_left _ h
  ·rcases List.mem_cons.mp h with rfl|h
   ·exact(hne rfl).elim
   ·exact List.mem_append_right _ (List.mem_cons_of_mem _ h)
 refine⟨A++(b,.loop lp')::B,?_⟩
 exact{G with
  H:=G.H.putAt A _ hr
  fro:=fun p hp=>by
   rcases List.mem_cons.mp hp with rfl|hp
   ·exact List.mem_append_right _ (List.mem_cons_self ..)
   ·exact hin p (G.fro (mem_cutB.mp hp).1) (mem_cutB.mp hp).2
  own:=fun i q o h1 h2 hi=>hin _ (G.own i q o h1 h2 hi) fun e=>G.dis i q o _ hi h1 h2 hb e.symm
  lent:=fun i q o h1 h2 hi=>by
   obtain⟨g1,g2⟩:=G.lent i q o h1 h2 hi
   exact⟨by rw[St.get_put (by unfold z3 at hr;omega),if_neg Oz];exact g1,g2⟩
  dis:=fun i q o p hi h1 h2 hp=>by
   rcases List.mem_cons.mp hp with rfl|hp
   ·exact fun e=>G.dis i q o _ hi h1 h2 hb e
   ·exact G.dis i q o p hi h1 h2 (mem_cutB.mp hp).1
  obj:=fun i b q o h0 h1 h2=>(G.obj i b q o h0 h1 h2).mono hw QLe.rfl
  cob:=fun i b q o h0 h0' h1 h2=>(G.cob i b q o h0 h0' h1 h2).mono hw QLe.rfl
  slots:=G.slots.mono hw QLe.rfl
  cslots:=G.cslots.mono hw QLe.rfl
  stk:=fun f hf=>by
   obtain⟨g,hg,e1,e2,e3,e4⟩:=hst f hf
   obtain⟨g1,g2,g3⟩:=G.stk g hg
   rw[e1,e2,e3]
   refine⟨g1,g2.mono hw QLe.rfl,fun p hp=>?_⟩
   rcases e4 p hp with rfl|⟨h,hne⟩
   ·exact List.mem_cons_self ..
   ·exact List.mem_cons_of_mem _ (mem_cutB.mpr ⟨g3 h,hne⟩)}
theorem GX.show(G:GX QL W s0 s C stk e F m Q O L Φ){b j:Nat}{lp:Lp}{q:Value×Nat}(hb:(b,MObj.loop lp)∈Φ)(hq:Q[j]? = some q)(hqb:q.2=b)(hj:C.lent≤j){ob:Ob}(hst:∀f,f∈stk→∀p,p∈f.psi→p.1≠b)
  (hob:∀W',WLe (W.x Φ) W'→ObjR W' Q ob q (some (.loop lp))) (hcb:ob=.const→∀b',C.objs[j]? = some b'→∀W',WLe (W.x Φ) W'→ObjR W' (Q.take C.n) b' q (some (.loop lp))) :
  GX QL W s0 s C stk (e.setO j ob) F m Q (zt O j (some (.loop lp))) L (cutB b Φ):=by
 subst hqb
 have hw:WLe (W.x Φ) (W.x (cutB q.2 Φ)):=wx_cutB (G.only hb) fun p hp=>hp
 have hjq:j<Q.length:=(List.getElem?_eq_some_iff.mp hq).1
 have hO:∀(i:Nat) o1,(zt O j (some (.loop lp)))[i]? = some o1→(i=j∧o1=some (.loop lp))∨(i≠j∧O[i]? = some o1):=fun i o1 h=>by
  rw[yO]at h
  split at h
  ·next h1=>cases h;exact .inl ⟨h1.1,rfl⟩
  ·next h1=>
   refine .inr ⟨fun e=>?_,h⟩
   subst e
   exact h1 ⟨rfl,by rw[G.oq];exact hjq⟩
 have hE:∀(i:Nat) b',(zt e.objs j ob)[i]? = some b'→(i=j∧b'=ob)∨(i≠j∧e.objs[i]? = some b'):=fun i b' h=>by
  rw[yO]at h
  split at h
  ·next h1=>cases h;exact .inl ⟨h1.1,rfl⟩
  ·next h1=>
   refine .inr ⟨fun e'=>?_,h⟩
   subst e'
   exact h1 ⟨rfl,by rw[G.len];exact hjq⟩
 exact{G with
  oq:=by rw[ya];exact G.oq
  len:=by simp only[En.setO,ya];exact G.len
  fro:=fun p hp=>G.fro (mem_cutB.mp hp).1
  own:=fun i q1 o1 h1 h2 hi=>by
   rcases hO i _ h2 with⟨rfl,h⟩|⟨hne,h⟩
   ·cases h;rw[hq]at h1;cases h1;exact G.fro hb
   ·exact G.own i q1 o1 h1 h hi
  lent:=fun i q1 o1 h1 h2 hi=>by
   rcases hO i _ h2 with⟨rfl,h⟩|⟨hne,h⟩
   ·omega
   ·exact G.lent i q1 o1 h1 h hi
  inj:=fun i1 i2 q1 q2 o1 o2 h1 h2 h3 h4 he=>by
   have key:∀(i:Nat) q1 o1,Q[i]? = some q1→O[i]? = some (some o1)→q1.2≠q.2:=fun i q1 o1 h1 h2 he=>by
    by_cases hi:C.lent≤i
    ·exact G.dis i q1 o1 _ hi h1 h2 hb he.symm
    ·have g1:=(G.lent i q1 o1 h1 h2 Oz).2
     rcases(G.H.own _ (G.fro hb)).2.2.2 with h|h
     ·simp only at h;omega
     ·cases h
   rcases hO i1 _ h3 with⟨rfl,h⟩|⟨hne,h⟩<;>rcases hO i2 _ h4 with⟨h5,h6⟩|⟨h5,h6⟩
   ·exact h5.symm
   ·rw[hq]at h1;cases h1;exact(key i2 q2 o2 h2 h6 he.symm).elim
   ·subst h5;rw[hq]at h2;cases h2;exact(key i1 q1 o1 h1 h he).elim
   ·exact G.inj i1 i2 q1 q2 o1 o2 h1 h2 h h6 he
  dis:=fun i q1 o1 p hi h1 h2 hp=>by
   rcases hO i _ h2 with⟨rfl,h⟩|⟨hne,h⟩
   ·rw[hq]at h1;cases h1;exact(mem_cutB.mp hp).2
   ·exact G.dis i q1 o1 p hi h1 h (mem_cutB.mp hp).1
  obj:=fun i b1 q1 o1 h0 h1 h2=>by
   rcases hE i _ h0 with⟨rfl,rfl⟩|⟨hne,h0⟩<;>rcases hO i _ h2 with⟨h5,h6⟩|⟨h5,h6⟩
   ·subst h6;rw[hq]at h1;cases h1;exact hob _ hw
   ·exact(h5 rfl).elim
   ·exact(hne h5).elim
   ·exact(G.obj i b1 q1 o1 h0 h1 h6).mono hw QLe.rfl
  cob:=fun i b1 q1 o1 h0 h0' h1 h2=>by
   rcases hE i _ h0 with⟨rfl,h7⟩|⟨hne,h0⟩<;>rcases hO i _ h2 with⟨h5,h6⟩|⟨h5,h6⟩
   ·subst h6;rw[hq]at h1;cases h1;exact hcb h7.symm b1 h0' _ hw
   ·exact(h5 rfl).elim
   ·exact(hne h5).elim
   ·exact(G.cob i b1 q1 o1 h0 h0' h1 h6).mono hw QLe.rfl
  slots:=G.slots.mono hw QLe.rfl
  cslots:=G.cslots.mono hw QLe.rfl
  stk:=fun f hf=>⟨(G.stk f hf).1,(G.stk f hf).2.1.mono hw QLe.rfl,fun p hp=>mem_cutB.mpr ⟨(G.stk f hf).2.2 hp,hst f hf p hp⟩⟩}
end
end Go.Proofs.YtocnbjjmmgolfaaGreat
namespace Go.Proofs.YtocnbjjmmgolfaaGreat
open Go Go.M Go.Proofs.C14
theorem unO_len:∀{a c:List Ob},(unO a c).length=c.length
 | [],[]=>rfl
 |_::_,[]=>rfl
 |o::r,c::s=>by simp only[unO,List.length_cons,unO_len]
 | [],c::s=>by simp only[unO,List.length_cons,unO_len]
theorem unO_get:∀{a c:List Ob} {i:Nat} {b:Ob},(unO a c)[i]? = some b→(c[i]? = some .const∧(a[i]? = some b∨b=.dead))∨(c[i]? = some b∧b≠.const)
 | [],[],i,b,h=>by cases h
 |_::_,[],i,b,h=>by cases h
 |o::r,c::s,0,b,h=>by
  cases c<;>cases h<;>first|exact .inl ⟨rfl,.inl rfl⟩|exact .inr ⟨rfl,(fun h=>nomatch h)⟩
 | [],c::s,0,b,h=>by
  cases c<;>cases h<;>first|exact .inl ⟨rfl,.inr rfl⟩|exact .inr ⟨rfl,(fun h=>nomatch h)⟩
 |o::r,c::s,i+1,b,h=>by simpa only[List.getElem?_cons_succ]using unO_get (a:=r) (c:=s) (i:=i) h
 | [],c::s,i+1,b,h=>by
  rcases unO_get (a:=[]) (c:=s) (i:=i) h with⟨h1,h2⟩|h
  ·exact .inl ⟨h1,h2.imp (fun h=>by cases h) id⟩
  ·exact .inr h
theorem cobK_real:∀{a c:List Ob} {i:Nat} {b:Ob},a[i]? = some b→b≠.const→(cobK a c)[i]? = some b
 |o::r,[],i,b,h,_=>by cases o<;>exact h
 |o::r,d::s,0,b,h,hb=>by cases h;cases o<;>first|rfl|exact(hb rfl).elim
 |o::r,d::s,i+1,b,h,hb=>by
  have:=cobK_real (a:=r) (c:=s) (i:=i) h hb
  cases o<;>exact this
theorem skelK_len{h:Hi}{srcs:List (Option Nat)}:∀{l:List Ob} {n:Nat},(skelK h srcs l n).length=l.length
 | [],_=>rfl
 |_::l,n=>by simp only[skelK,List.length_cons,skelK_len]
theorem skelK_get{h:Hi}{srcs:List (Option Nat)}:∀{l:List Ob} {n i:Nat} {b:Ob},(skelK h srcs l n)[i]? = some b→b=.dead∨(b=.const∧memS (n+i) srcs=false)
 |o::l,n,0,b,hb=>by
  simp only[skelK,List.getElem?_cons_zero,Option.some.injEq]at hb
  subst hb
  split
  ·exact .inl rfl
  ·split
   ·exact .inl rfl
   ·next hm=>
    split
    ·exact .inl rfl
    ·exact .inr ⟨rfl,hm⟩
 |o::l,n,i+1,b,hb=>by
  have:=skelK_get (l:=l) (n:=n+1) (i:=i) hb
  rw[show n+1+i=n+(i+1)by omega]at this
  exact this
theorem sameK_get:∀{a c:List Ob} {i:Nat},sameK a c=true→a[i]? = some .const→c[i]? = some .const
 |p::r,o::s,0,h,h1=>by
  cases h1
  simp only[sameK,xK,Bool.not_true,Bool.false_or,Bool.and_eq_true]at h
  cases o<;>first|rfl|(simp[xK]at h)
 |p::r,o::s,i+1,h,h1=>by
  simp only[sameK,Bool.and_eq_true]at h
  exact sameK_get (a:=r) (c:=s) (i:=i) h.2 h1
 |p::r,[],0,h,h1=>by cases h1;simp[sameK,xK]at h
 |p::r,[],i+1,h,h1=>by
  simp only[sameK,Bool.and_eq_true]at h
  have:=sameK_get (a:=r) (c:=[]) (i:=i) h.2 h1
  cases this
theorem srcB_get{skel:List Ob}:∀{l:List (Option Nat)} {k j:Nat},srcB skel l=true→l[k]? = some (some j)→skel[j]? ≠ some .const
 |some i::r,0,j,h,h1=>by
  cases h1
  simp only[srcB,Bool.and_eq_true,zC]at h
  intro he
  rw[he]at h
  cases h.1
 |none::r,0,j,h,h1=>by cases h1
 |some i::r,k+1,j,h,h1=>by
  simp only[srcB,Bool.and_eq_true]at h
  exact srcB_get (l:=r) (k:=k) h.2 h1
 |none::r,k+1,j,h,h1=>srcB_get (l:=r) (k:=k) h h1
theorem cstK_mem{C:Cx}{e:En}:∀{l:List Nat} {p:Nat×Pv},p∈cstK C e l→p∈e.slots
 |t::r,p,h=>by
  simp only[cstK]at h
  split at h
  ·next v hv=>
   rcases List.mem_cons.mp h with rfl|h
   ·exact find_mem hv
   ·exact cstK_mem h
  ·exact cstK_mem h
section
variable{W:Wd}{s0 s:St}{C:Cx}{QL:Qs}{stk:List Fra}{e:En}{F:FF}{m:Nat}{Q:Qs}{O:List (Option MObj)}{L Φ:Hp'}
theorem frzS_ok{l:List Nat}:∀{e e':En} {O:List (Option MObj)} {Φ:Hp'},GX QL W s0 s C stk e F m Q O L Φ→frzS C e l=some e'→∃O' Φ',GX QL W s0 s C stk e' F m Q O' L Φ':=by
 induction l with
 |nil=>intro e e' O Φ G h;cases h;exact⟨_,_,G⟩
 |cons t l ih=>
  intro e e' O Φ G h
  simp only[frzS]at h
  split at h
  ·split at h
   ·next e1 h1=>
    obtain⟨O',Φ',G1⟩:=G.frzP h1
    exact ih G1 h
   ·cases h
  ·cases h
abbrev cxL(C:Cx)(e:En)(cst:List (Nat×Pv)):Cx:={slots:=cst++C.slots,objs:=cobK e.objs C.objs,n:=zY e.objs 0,lent:=C.lent}
theorem GX.inLoop(G:GX QL W s0 s C stk e F m Q O L Φ){l:List Nat}:GX QL W s0 s (cxL C e (cstK C e l)) stk e F m Q O L Φ:=by
 have hn:zY e.objs 0=Q.length:=by rw[zH,Nat.add_zero,G.len]
 exact{G with
  cn:=by simp only[hn];exact Nat.le_refl _
  ln:=by simp only[hn];exact Nat.le_trans G.ln G.cn
  cob:=fun i b q o h0 h0' h1 h2=>by
   simp only[hn,List.take_length]
   rcases cobK_get h0' with⟨h3,h4⟩|h3
   ·exact(G.cob i b q o h3 h4 h1 h2).mono WLe.rfl QLe.take
   ·exact G.obj i b q o h3 h1 h2
  cslots:=fun p hp=>by
   simp only[hn,List.take_length]
   rcases List.mem_append.mp hp with h|h
   ·exact G.slots p (cstK_mem h)
   ·exact(G.cslots p h).mono WLe.rfl QLe.take
  stk:=fun f hf=>⟨by simp only[hn];exact Nat.le_trans (G.stk f hf).1 G.cn,(G.stk f hf).2⟩}
theorem GX.leave{s1:St}{e1:En}{F1:FF}{m1:Nat}{Q1:Qs}{O1:List (Option MObj)}{L1 Φ1:Hp'}{l:List Nat}(G:GX QL W s0 s C stk e F m Q O L Φ)(G1:GX QL W s0 s1 (cxL C e (cstK C e l)) stk e1 F1 m1 Q1 O1 L1 Φ1) :
  GX QL W s0 s1 C stk (En.leave (cstK C e l) e.objs e1) F1 m1 Q1 O1 L1 Φ1:=by
 have hn:zY e.objs 0=Q.length:=by rw[zH,Nat.add_zero,G.len]
 exact{G1 with
  len:=by simp only[En.leave,unO_len];exact G1.len
  cn:=by have h1:=G1.cn;have h2:=G.cn;simp only at h1;omega
  ln:=G.ln
  obj:=fun i b q o h0 h1 h2=>by
   rcases unO_get h0 with⟨h3,h4|h4⟩|⟨h3,h4⟩
   ·by_cases hb:b=.const
    ·subst hb;trivial
    ·exact(G1.cob i b q o h3 (cobK_real h4 hb) h1 h2).mono WLe.rfl QLe.take
   ·subst h4;trivial
   ·exact G1.obj i b q o h3 h1 h2
  cob:=fun i b q o h0 h0' h1 h2=>by
   rcases unO_get h0 with⟨h3,h4|h4⟩|⟨h3,h4⟩
   ·have h5:=G1.cob i b q o h3 (cobK_const h4 h0') h1 h2
    have hi:i<Q.length:=by rw[←G.len];exact(List.getElem?_eq_some_iff.mp h4).1
    have h6:=G.cob i b _ _ h4 h0' (List.getElem?_eq_getElem hi) (List.getElem?_eq_getElem (by rw[G.oq];exact hi))
    exact ObjR.back h6 (h5.mono WLe.rfl QLe.take)
   ·cases h4
   ·exact(h4 rfl).elim
  slots:=fun p hp=>by
   rcases List.mem_append.mp hp with h|h
   ·exact G1.slots p h
   ·exact(G1.cslots p (List.mem_append_left _ h)).mono WLe.rfl QLe.take
  cslots:=fun p hp=>PvR.back (G.cslots p hp) ((G1.cslots p (List.mem_append_right _ hp)).mono WLe.rfl QLe.take)
  stk:=fun f hf=>⟨(G.stk f hf).1,(G1.stk f hf).2⟩}
end
theorem find_outK{ρ:Type}{w:En→En}:∀{ks:List (Nat×(En→Option ρ))} {i:Nat} {k:En→Option ρ},find (outK w ks) i=some k→∃k',find ks i=some k'∧k=fun e=>k' (w e)
 |(j,k0)::r,i,k,h=>by
  simp only[outK,find]at h ⊢
  split at h
  ·next hb=>cases h;exact⟨k0,rfl,rfl⟩
  ·next hb=>exact find_outK h
section
variable{I:zT}{Γ:TypeId→Option Ty}{T:FuncId→Option Con}{ρ:Type}{inl:Inl ρ}{rc:Nat}{W:Wd}{s0:St}{QL:Qs}{stk:List Fra}
theorem code_ok(hI:zQ I)(hT:ConI I T)(hin:∀W s0,InlOK I W s0 inl rc){r:ρ}{N:Nat}(c:Code):∀{C:Cx} {hs:List Hi} {ks:List (Nat×(En→Option ρ))} {kr k:En→Option ρ} {e:En} {F:FF} {s:St} {m:Nat} {P:FOut→Prop},qb QL W s0 s C stk e F m →
  xm Γ T inl rc N c C hs ks kr k e=some r→s0.next+(m+yN T rc c hs)≤z3 →
  (∀e' F' s' m',m'≤m+yN T rc c hs→qb QL W s0 s' C stk e' F' m'→k e'=some r→P (.normal F' s')) →
  (∀i ki,find ks i=some ki→∀e' F' s' m',m'≤m+yN T rc c hs→qb QL W s0 s' C stk e' F' m'→ki e'=some r→P (.exit i F' s')) →
  (∀e' F' s' m',m'≤m+yN T rc c hs→qb QL W s0 s' C stk e' F' m'→kr e'=some r→P (.ret F' s'))→CodeW Tryz.prog I N c F s P:=by
 induction c with
 |skip=>
  intro C hs ks kr k e F s m P G h hB hk hx hr
  exact hk e F s m (Nat.le_add_right ..) G h
 |label i=>
  intro C hs ks kr k e F s m P G h hB hk hx hr
  unfold xm at h
  exact⟨.normal F s,hk e F s m (Nat.le_add_right ..) G h,1,fun m hm=>by obtain⟨m,rfl⟩:∃k,m=k+1:=⟨m-1,by omega⟩;rfl⟩
 |exit i=>
  intro C hs ks kr k e F s m P G h hB hk hx hr
  unfold xm at h
  split at h
  ·next ki hki=>exact hx i ki hki e F s m (Nat.le_add_right ..) G h
  ·cases h
 |ret=>
  intro C hs ks kr k e F s m P G h hB hk hx hr
  exact hr e F s m (Nat.le_add_right ..) G h
 |scope b ih=>
  intro C hs ks kr k e F s m P G h hB hk hx hr
  unfold xm at h
  exact ih (P:=P) G h hB hk hx hr
 |seq x y ihx ihy=>
  intro C hs ks kr k e F s m P G h hB hk hx hr
  unfold xm at h
  simp only[yN]at hB hk hx hr
  refine ihx (P:=seqK (fun F s=>CodeW Tryz.prog I N y F s P) P) G h Oz ?_ ?_ ?_
  ·intro e' F' s' m' hm G' h'
   exact ihy G' h' Oz (fun e'' F'' s'' m'' hm''=>hk e'' F'' s'' m'' Oz) (fun i ki hki e'' F'' s'' m'' hm''=>hx i ki hki e'' F'' s'' m'' Oz) (fun e'' F'' s'' m'' hm''=>hr e'' F'' s'' m'' Oz)
  ·intro i ki hki e' F' s' m' hm
   exact hx i ki hki e' F' s' m' Oz
  ·intro e' F' s' m' hm
   exact hr e' F' s' m' Oz
 |cond c x y ihx ihy=>
  intro C hs ks kr k e F s m P G h hB hk hx hr
  unfold xm at h
  simp only[yN]at hB hk hx hr
  obtain⟨Q,O,L,Φ,G⟩:=G
  split at h
  ·next b hb=>
   have hc:ze F c=.bool b:=(List.cons.inj (show [ze F c]=[Value.bool b]from G.ev hb)).1
   split at h
   ·next hbt=>
    subst hbt
    exact cw_then hc (ihx (G.mark hb).good h Oz (fun e'' F'' s'' m'' hm''=>hk e'' F'' s'' m'' Oz) (fun i ki hki e'' F'' s'' m'' hm''=>hx i ki hki e'' F'' s'' m'' Oz) (fun e'' F'' s'' m'' hm''=>hr e'' F'' s'' m'' Oz))
   ·next hbf=>
    obtain rfl:b=false:=by simpa using hbf
    exact cw_else hc (ihy (G.mark hb).good h Oz (fun e'' F'' s'' m'' hm''=>hk e'' F'' s'' m'' Oz) (fun i ki hki e'' F'' s'' m'' hm''=>hx i ki hki e'' F'' s'' m'' Oz) (fun e'' F'' s'' m'' hm''=>hr e'' F'' s'' m'' Oz))
  ·cases h
 |block i b ih=>
  intro C hs ks kr k e F s m P G h hB hk hx hr
  unfold xm at h
  refine ih (P:=blockQ i P) G h hB hk ?_ hr
  intro j kj hkj e' F' s' m' hm G' h'
  simp only[find]at hkj
  simp only[blockQ]
  rw[show Nat.beq i j=Nat.beq j i from Bool.eq_iff_iff.mpr (by simp only[Nat.beq_eq];exact eq_comm)]at hkj
  split at hkj
  ·next hb=>cases hkj;rw[hb];exact hk e' F' s' m' hm G' h'
  ·next hb=>rw[hb];exact hx j kj hkj e' F' s' m' hm G' h'
 |region id ops dr=>
  intro C hs ks kr k e F s m P G h hB hk hx hr
  cases dr with
  |false=>
   unfold xm at h
   simp only[yN]at hB hk
   exact cw_region (ops_ok hI hT (hin W s0) G h hB hk)
  |true=>
   unfold xm at h
   simp only[yN]at hB hk
   split at h
   ·next hp=>exact cw_draw _ hp rfl (y8 hI hT hin G h hB hk)
   ·cases h
 |loop b ih=>
  intro C hs ks kr k e F s m P G h hB hk hx hr
  unfold xm at h
  split at h
  ·next hd hs=>
   simp only[yN]at hB hx hr
   split at h
   ·-- round by round
    have key:∀(n:Nat) (e:En) (F:FF) (s:St) (m':Nat),m'+n*yN T rc b hs≤m+hd.fuel*yN T rc b hs→qb QL W s0 s C stk e F m'→zd (fun again e=>xm Γ T inl rc N b C hs ks kr again e) n e=some r→CodeW Tryz.prog I N (.loop b) F s P:=by
     intro n
     induction n with
     |zero=>intro e F s m' _ _ h;cases h
     |succ n ihn=>
      intro e F s m' hm G h
      have hmul:(n+1)*yN T rc b hs=n*yN T rc b hs+yN T rc b hs:=by rw[Nat.add_mul,Nat.one_mul]
      rw[hmul]at hm
      refine cw_unroll (ih (P:=seqQ Tryz.prog I N b.loop P) G h Oz ?_ ?_ ?_)
      ·intro e' F' s' m'' hm'' G' h';exact ihn e' F' s' m'' Oz G' h'
      ·intro i ki hki e' F' s' m'' hm'' G' h';exact hx i ki hki e' F' s' m'' Oz G' h'
      ·intro e' F' s' m'' hm'' G' h';exact hr e' F' s' m'' Oz G' h'
    exact key hd.fuel e F s m Oz G h
   unfold loopK at h
   split at h
   ·next e0 he0=>
    obtain⟨Q,O,L,Φ,G⟩:=G
    obtain⟨O0,Φ0,G0⟩:=frzS_ok G he0
    split at h
    ·next srcs hsrcs=>
     simp only at h
     split at h
     ·next x hx0=>
      have hn:zY e0.objs 0=Q.length:=by rw[zH,Nat.add_zero,G0.len]
      have G1:=G0.inLoop (l:=hd.cst)
      have hske:∀(i:Nat) b,(skelK hd srcs e0.objs 0)[i]? = some b→b=.dead∨(b=.const∧memS i srcs=false):=fun i b hb=>by
       have:=skelK_get hb;rwa[Nat.zero_add]at this
      obtain⟨Q1,O1,G2⟩:=norm_ok (skel:=skelK hd srcs e0.objs 0) G1 (C0:=C) (fun t p hp=>G0.ev (x:=.tmp t) hp) (by simp only[skelK_len,zH,Nat.add_zero])
       (fun i b hb=>(hske i b hb).imp_right fun h=>⟨h.1,fun b' q o h1 h2 h3=>by
        simp only at h1 ⊢
        rw[hn,List.take_length]
        rcases cobK_get h1 with⟨h4,h5⟩|h4
        ·exact(G0.cob i b' q o h4 h5 h2 h3).mono WLe.rfl QLe.take
        ·exact G0.obj i b' q o h4 h2 h3⟩)
       (fun k j hk hc=>by
        rcases hske j _ hc with h|⟨_,h⟩
        ·cases h
        ·rw[memS_get hk]at h;cases h) hx0
      have hlen:(skelK hd srcs e0.objs 0).length=zY e0.objs 0:=by rw[skelK_len,zH,Nat.add_zero]
      generalize hsk:skelK hd srcs e0.objs 0=skel at h hske G2 hlen
      rw[zm]at h
      -- the rounds
      have key:∀(n:Nat) (x:Tp hd.ts) (F:FF) (s:St) (m':Nat),m'+n*yN T rc b hs≤m+hd.fuel*yN T rc b hs→qb QL W s0 s (cxL C e0 (cstK C e0 hd.cst)) stk (mkE hd (zY e0.objs 0) skel x) F m' →
        zd (fun again x=>xm Γ T inl rc N b (cxL C e0 (cstK C e0 hd.cst)) hs (outK (En.leave (cstK C e0 hd.cst) e0.objs) ks) (fun e=>kr (En.leave (cstK C e0 hd.cst) e0.objs e)) (fun e'=>match backK hd (cxL C e0 (cstK C e0 hd.cst)) skel e' with
         |some y=>again y
         |none=>none) (mkE hd (zY e0.objs 0) skel x)) n x=some r→CodeW Tryz.prog I N (.loop b) F s P:=by
       intro n
       induction n with
       |zero=>intro x F s m' _ _ h;cases h
       |succ n ihn=>
        intro x F s m' hm G h
        have hmul:(n+1)*yN T rc b hs=n*yN T rc b hs+yN T rc b hs:=by rw[Nat.add_mul,Nat.one_mul]
        rw[hmul]at hm
        refine cw_unroll (ih (P:=seqQ Tryz.prog I N b.loop P) G h Oz ?_ ?_ ?_)
        ·intro e' F' s' m'' hm'' G' h'
         obtain⟨Q',O',L',Φ',G'⟩:=G'
         split at h'
         ·next y hy=>
          unfold backK at hy
          split at hy
          ·next e1 he1=>
           obtain⟨O'',Φ'',G'⟩:=frzS_ok G' he1
           split at hy
           ·next srcs' hsrcs'=>
            split at hy
            ·next hck=>
             simp only[Bool.and_eq_true]at hck
             obtain⟨Q2,O2,G3⟩:=norm_ok (skel:=skel) G' (fun t p hp=>G'.ev (x:=.tmp t) hp) hlen
              (fun i b hb=>(hske i b hb).imp_right fun h=>⟨h.1,fun b' q o h1 h2 h3=>G'.cob i b' q o (sameK_get hck.1 (by rw[hb,h.1])) h1 h2 h3⟩)
              (fun k j hk=>srcB_get hck.2 hk) hy
             exact ihn y F' s' m'' Oz G3.good h'
            ·cases hy
           ·cases hy
          ·cases hy
         ·cases h'
        ·intro i ki hki e' F' s' m'' hm'' G' h'
         obtain⟨Q',O',L',Φ',G'⟩:=G'
         obtain⟨k',hk',rfl⟩:=find_outK hki
         exact hx i k' hk' _ F' s' m'' Oz (G0.leave G').good h'
        ·intro e' F' s' m'' hm'' G' h'
         obtain⟨Q',O',L',Φ',G'⟩:=G'
         exact hr _ F' s' m'' Oz (G0.leave G').good h'
      exact key hd.fuel x F s m Oz G2.good h
     ·cases h
    ·cases h
   ·cases h
  ·cases h
 |rangeFunc f ps x y=>
  intro C hs ks kr k e F s m P G h hB hk hx hr
  unfold xm at h
  simp only[yN]at hB hk hr
  obtain⟨Q,O,L,Φ,G⟩:=G
  split at h
  ·next g caps hf=>
   split at h
   ·next hck=>
    rw[Bool.and_eq_true,Bool.and_eq_true,Bool.and_eq_true (Nat.ble N 65534&&tmpB N f),Bool.and_eq_true (Nat.ble N 65534),Bool.and_eq_true (xo N x),Bool.and_eq_true (funcF Tryz.prog g && !Nat.ble zo g),Bool.and_eq_true (funcF Tryz.prog g)]at hck
    obtain⟨⟨⟨⟨hfun,hlow⟩,hw⟩,⟨⟨hN,htmp⟩,hnx,hny⟩⟩,hcode⟩:=hck
    have hlow:Nat.ble zo g=false:=by simpa using hlow
    obtain⟨cs,hff,hcs⟩:=G.ev hf
    have hm:=G.H.most
    have hol:zY e.objs 0=e.objs.length:=by rw[zH,Nat.add_zero]
    rw[hol]at h
    have hlen:=G.len
    refine cw_range (Nat.le_of_ble_eq_true hN) hff hfun rfl (G.H.room Oz) htmp (fun fr ha=>?_) hlow
    have G1:=G.new (v:=undef) Oz (o:=.loop {fr:=fr,params:=ps.toList,assign:=x,body:=y,state:=.ready,pend:=none}) (b:=.loop N (e.slots++C.slots) ps.toList x y .ready none)
     ⟨⟨hcode,hnx,hny⟩,fr,F,rfl,ha,fun p hp=>by
      rcases List.mem_append.mp hp with h|h
      ·exact(G.slots p h).mono WLe.rfl QLe.app
      ·exact(G.cslots p h).mono WLe.rfl (QLe.take.trans QLe.app)⟩ (fun h=>nomatch h)
    have hnth:=G.nth (q:=(undef,s.next))
    have G2:=(G1.enter F).push (f:=⟨[(0,.one (.yl e.objs.length))],fun _=>.func (.yield s.next) ⟨[]⟩ ⟨[]⟩,e.objs.length+1,[]⟩) Y8 (fun p hp=>by
     rcases List.mem_cons.mp hp with rfl|hp
     ·exact⟨_,by rw[List.getElem?_take,if_pos (Nat.lt_succ_self _)];exact hnth,rfl⟩
     ·cases hp) (List.nil_subset _)
    rw[←rnum_low (Q:=Q++[(undef,s.next)]) hlow]
    refine hin W s0 h G2 rfl (vs:=_::cs) ⟨_,cs,rfl,⟨_,hnth,rfl⟩,PsR.caps (hcs.mono WLe.rfl QLe.app) hw⟩ Oz ?_
    intro p v o s' m' Q' O' L' Φ' hm' G' hp hk'
    obtain⟨q',hq',hv'⟩:=(G'.stk _ (List.mem_cons_self ..)).2.1 _ (List.mem_cons_self ..)
    have hqn:q'.2=s.next:=by
     have:=(List.cons.inj hv').1
     simp only[Value.func.injEq,Fn.yield.injEq]at this
     exact this.1.symm
    have hq':Q'[e.objs.length]? = some q':=QLe.take _ _ hq'
    have hlj:C.lent≤e.objs.length:=by have:=G.ln;have:=G.cn;omega
    have key:∀st pend N' sl' ps' x' y',zM o e.objs.length=some (.loop N' sl' ps' x' y' st pend)→constB (e.objs++[Ob.loop N (e.slots++C.slots) ps.toList x y .ready none]) o=true→∃lp,lp.state=st∧lp.pend=pend∧s'.may s.next=true∧s'.get s.next=some (.loop lp) ∧
      qb QL W s0 (s'.put s.next (some (.loop {lp with state:=.exhausted}))) C stk {e with objs:=zt o e.objs.length .dead} F m':=by
     intro st pend N' sl' ps' x' y' hob hc
     have G3:=G1.exit (F'':=F) G'.pop hc
     rw[zC]at hob
     obtain⟨oo,hoo⟩:∃oo,O'[e.objs.length]? = some oo:=⟨_,List.getElem?_eq_getElem (by rw[G'.oq];exact(List.getElem?_eq_some_iff.mp hq').1)⟩
     obtain⟨_,fr',F0,rfl,_,_⟩:=G3.obj _ _ q' oo hob hq' hoo
     have hown:=G3.H.own _ (G3.own _ q' _ hq' hoo hlj)
     have hm3:=G3.H.most
     obtain⟨L3,G4⟩:=G3.write Oz (o':=.loop {fr:=fr',params:=ps',assign:=x',body:=y',state:=.exhausted,pend:=pend}) (b:=.dead) hq' hoo hlj trivial (fun h=>nomatch h)
     rw[←hqn]
     exact⟨_,rfl,rfl,hown.2.2.1,hown.1,G4.good⟩
    split at hk'
    ·next hob hc=>
     obtain⟨lp,h1,h2,h3,h4,G5⟩:=key _ _ _ _ _ _ _ hob hc
     refine⟨lp,h3,h4,by rw[h1];rfl,?_⟩
     rw[h2]at G5 ⊢
     exact hk _ F _ m' Oz G5 hk'
    ·next hob hc=>
     obtain⟨lp,h1,h2,h3,h4,G5⟩:=key _ _ _ _ _ _ _ hob hc
     refine⟨lp,h3,h4,by rw[h1];rfl,?_⟩
     rw[h2]at G5 ⊢
     exact hr _ F _ m' Oz G5 hk'
    ·cases hk'
   ·cases h
  ·cases h
 |_=>
  intro C hs ks kr k e F s m P G h hB hk hx hr
  unfold xm at h
  cases h
end
end Go.Proofs.YtocnbjjmmgolfaaGreat
