/- The evaluator: what writes, calls, loops, functions. -/
import Derived.Test.YtocnbjjmmgolfaaGreatA13
set_option linter.unusedSimpArgs false
set_option linter.unusedVariables false
set_option linter.unusedSectionVars false
namespace Go.Proofs.YtocnbjjmmgolfaaGreat
open Go Go.M Go.Proofs.C14
inductive LS
 |hole|own (k:Nat)|ptr (j off:Nat)|nil|lst
inductive Src
 |s (t:Nat)|o (j i:Nat)
structure iB where
 src:Src
 t:Nat
 w:Nat
 e:Ty
structure Hi where
 frz:List Nat
 cst:List Nat
 vars:List (Nat×Bool×List LS)
 objs:List (Nat×List LS)
 own:List iB
 ts:List Ty
 fuel:Nat
 un:Bool:=false
def Lk(c:Nat)(a:List (Option Nat)):LS->Lf->Option (List Lf)
 | .hole,l=>some [l]
 | .own k,.own j=>match zH a k with
  |some (some i)=>match Nat.beq i j with
   |true=>some []
   |false=>none
  |_=>none
 | .own k,.nil=>match zH a k with
  |some none=>some []
  |_=>none
 | .ptr j off,.ptr b off'=>match Nat.beq b j&&Nat.beq off' off&&Nat.blt j c with
  |true=>some []
  |false=>none
 | .nil,.nil=>some []
 |_,_=>none
def ZN(d:Nat)(c:List (Option Nat)):List LS->List Lf->Option (List Lf)
 | [],[]=>some []
 |x::r,y::s=>match Lk d c x y,ZN d c r s with
  |some a,some b=>some (a++b)
  |_,_=>none
 |_,_=>none
def Sv(d:Nat)(C:Cx)(e:En)(c:List (Option Nat)):List (Nat×Bool×List LS)->Option (List Lf)
 | []=>some []
 |(t,g,ls)::r=>match e.get C t with
  |some p=>match P6 p with
   |some (f,l)=>match f==g,ZN d c ls l,Sv d C e c r with
    |true,some a,some b=>some (a++b)
    |_,_,_=>none
   |none=>none
  |none=>none
def pR(b:Nat)(a:List (Option Nat))(ls:List LS):Ob->Option (List Lf)
 | .cells l=>ZN b a ls l
 | .list t w τ l=>match ls with
  | [.lst]=>some [.sl t w τ l]
  |_=>none
 |_=>none
def Sq(d:Nat)(e:En)(c:List (Option Nat)):List (Nat×List LS)->Option (List Lf)
 | []=>some []
 |(j,ls)::r=>match zH e.objs j with
  |some o=>match pR d c ls o,Sq d e c r with
   |some a,some b=>some (a++b)
   |_,_=>none
  |none=>none
def F4(e:En):List iB->List (Option Nat)->Option (List Lf)
 | [],[]=>some []
 |o::r,j::s=>match j with
  |none=>match Nat.beq o.e.sz o.w,F4 e r s with
   |true,some b=>some (.sl o.t o.w o.e []::b)
   |_,_=>none
  |some j=>match zH e.objs j,F4 e r s with
   |some (.list t w τ l),some b=>some (.sl t w τ l::b)
   |_,_=>none
 |_,_=>none
def O6(C:Cx)(e:En):Src->Option Lf
 | .s t=>match e.get C t with
  |some (.one l)=>some l
  |_=>none
 | .o j i=>match zH e.objs j with
  |some (.cells l)=>zH l i
  |_=>none
def sa(C:Cx)(e:En):List iB->Option (List (Option Nat))
 | []=>some []
 |o::r=>match O6 C e o.src,sa C e r with
  |some (.own j),some b=>some (some j::b)
  |some .nil,some b=>some (none::b)
  |_,_=>none
def RH:(ts:List Ty)->List Lf->Option (Tp ts)
 | [],[]=>some ()
 | [a],[x]=>vh a [x]
 |a::b::ts,x::l=>match vh a [x],RH (b::ts) l with
  |some v,some w=>some (v,w)
  |_,_=>none
 |_,_=>none
def Oh:(ts:List Ty)->Tp ts->List Lf
 | [],_=>[]
 | [a],x=>Zo a x
 |a::b::ts,x=>Zo a x.1++Oh (b::ts) x.2
def XA(a:Nat):LS->List Lf->Lf×List Lf
 | .hole,x::l=>(x,l)
 | .hole,[]=>(.nil,[])
 | .own k,l=>(.own (a+k),l)
 | .ptr j off,l=>(.ptr j off,l)
 | .nil,l=>(.nil,l)
 | .lst,l=>(.nil,l)
def kT(a:Nat):List LS->List Lf->List Lf×List Lf
 | [],l=>([],l)
 |x::r,l=>((XA a x l).1::(kT a r (XA a x l).2).1,(kT a r (XA a x l).2).2)
def Vx(a:Nat):List (Nat×Bool×List LS)->List Lf->List (Nat×Pv)×List Lf
 | [],l=>([],l)
 |(t,g,ls)::r,l=>((t,OQ (g,(kT a ls l).1))::(Vx a r (kT a ls l).2).1,(Vx a r (kT a ls l).2).2)
def uu(a:Nat)(ls:List LS)(l:List Lf):Ob×List Lf:=match ls with
 | [.lst]=>match l with
  | .sl t w e x::r=>(.list t w e x,r)
  |_=>(.dead,l)
 |_=>(.cells (kT a ls l).1,(kT a ls l).2)
def Qg(a:Nat):List (Nat×List LS)->List Ob->List Lf->List Ob×List Lf
 | [],o,l=>(o,l)
 |(j,ls)::r,o,l=>Qg a r (zM o j (uu a ls l).1) (uu a ls l).2
def Qf:List iB->List Lf->List Ob
 |o::r,.sl t w e l::s=>.list t w e l::Qf r s
 |_::r,_::s=>.dead::Qf r s
 |_,_=>[]
def K8(n:Nat):List (Option Nat)->Bool
 | []=>false
 |some m::l=>Nat.beq m n||K8 n l
 |none::l=>K8 n l
def ZL:List (Option Nat)->Bool
 | []=>true
 |some m::l=> !K8 m l&&ZL l
 |none::l=>ZL l
def FV{α:Type}(n:Nat)(l:List (Nat×α)):Bool:=match cW l n with
 |some _=>true
 |none=>false
def Zq(h:Hi)(a:List (Option Nat)):List Ob->Nat->List Ob
 | [],_=>[]
 |o::l,i=>(match FV i h.objs with
  |true=>.dead
  |false=>match K8 i a with
   |true=>.dead
   |false=>match o with
    | .dead=>.dead
    |_=>.const)::Zq h a l (i+1)
def kK:Ob->Bool
 | .const=>true
 |_=>false
def XW:List Ob->List Ob->Bool
 | [],_=>true
 |p::r,o::s=>(!kK p||kK o)&&XW r s
 |p::r,[]=> !kK p&&XW r []
def Lm(h:Hi)(c:Nat)(skel:List Ob)(x:Tp h.ts):En:=
 let a:=Vx c h.vars (Oh h.ts x)
 let b:=Qg c h.objs skel a.2
 {slots:=a.1,objs:=b.1++Qf h.own b.2}
def Jm(n:Nat):List (Option Nat)->Bool
 | []=>true
 |some j::r=>Nat.ble n j&&Jm n r
 |none::r=>Jm n r
def AV(a:List (Option Nat)):List (Nat×List LS)->Bool
 | []=>true
 |(j,_)::r=> !K8 j a&&AV a r
def Sr(h:Hi)(f lent:Nat)(C:Cx)(e:En)(d:List (Option Nat)):Option (Tp h.ts):=match Sv f C e d h.vars,Sq f e d h.objs,F4 e h.own d with
 |some a,some b,some c=>match ZL d&&Jm lent d&&AV d h.objs with
  |true=>RH h.ts (a++(b++c))
  |false=>none
 |_,_,_=>none
def mw(skel:List Ob):List (Option Nat)->Bool
 | []=>true
 |some j::r=>(match zH skel j with
  |some .const=>false
  |_=>true)&&mw skel r
 |none::r=>mw skel r
def XK(C:Cx)(e:En):List Nat->List (Nat×Pv)
 | []=>[]
 |t::r=>match cW e.slots t with
  |some p=>(t,p)::XK C e r
  |none=>XK C e r
def gD:List Ob->List Ob->List Ob
 | .const::r,c::s=>c::gD r s
 |o::r,_::s=>o::gD r s
 |r,[]=>r
 | [],_=>[]
def Ib:List Ob->List Ob->List Ob
 |o::r,c::s=>(match c with
  | .const=>o
  |c=>c)::Ib r s
 | [],c::s=>(match c with
  | .const=>.dead
  |c=>c)::Ib [] s
 |_,[]=>[]
def En.leave(cst:List (Nat×Pv))(objs:List Ob)(e:En):En:={slots:=e.slots++cst,objs:=Ib objs e.objs}
def o6(C:Cx)(e:En):List Nat->Option En
 | []=>some e
 |t::r=>match e.get C t with
  |some p=>match e.frzP C [p]with
   |some e=>o6 C e r
   |none=>none
  |none=>none
def vT(l:List Int):Nat->List Int
 |0=>[]
 |p+1=>if p=0 then [l.getD 0 0]else if l.getD p 0=l.getD (p-1) 0 then vT l p else vT l p++[l.getD p 0]
def RD(l:List Int):Option (List Int):=if 0<l.length/\l.length<=65536 then some (vT l l.length)else none
noncomputable def zi(n:Nat):Nat:=Classical.choose (⟨n,rfl⟩:∃m,m=n)
theorem zF(n:Nat):zi n=n:=Classical.choose_spec (⟨n,rfl⟩:∃m,m=n)
def nQ(h:Hi)(C:Cx)(skel:List Ob)(e:En):Option (Tp h.ts):=match o6 C e h.frz with
 |some e=>match sa C e h.own with
  |some a=>match XW skel e.objs&&mw skel a with
   |true=>Sr h C.n C.lent C e a
   |false=>none
  |none=>none
 |none=>none
section
variable{ρ:Type}
noncomputable def EZ(h:Hi)(C:Cx)(e:En)(B:Cx->(En->En)->(En->Option ρ)->En->Option ρ):Option ρ:=match o6 C e h.frz with
 |some e=>match sa C e h.own with
  |some a=>
   let b:=yD e.objs 0
   let skel:=Zq h a e.objs 0
   let cst:=XK C e h.cst
   let c:Cx:={slots:=cst++C.slots,objs:=gD e.objs C.objs,n:=b,lent:=C.lent}
   match Sr h b C.lent C e a with
   |some x=>zk (λagain x=>B c (En.leave cst e.objs) (λd=>match nQ h c skel d with
    |some y=>again y
    |none=>none) (Lm h b skel x)) (zi h.fuel) x
   |none=>none
  |none=>none
 |none=>none
end
def wP:List Ob->List Ob->Bool
 |o::r,p::s=>(!kK p||kK o)&&wP r s
 | [],p::s=> !kK p&&wP [] s
 |_,[]=>true
section
variable(Γ:TypeId->Option Ty)(T:FuncId->Option eQ)(Hs:FuncId->List Hi){ρ:Type}
abbrev ir(ρ:Type):=FuncId->List Ob->Nat->List Pv->List Ob->(Pv->List Ob->Option ρ)->Option ρ
variable(inl:ir ρ)(rc:Nat)(C:Cx)
def Gd{α:Type}(l:List α)(a b:Int):Option (List α):=if 0<=a/\a<l.length/\b=a+1 then some (l.eraseIdx a.toNat)else none
def En.frzAs(e:En)(j:Nat)(r:List Int)(k:En->Pv->Option ρ):Option ρ:=k (e.setO j .dead) (.one (.sl 3 1 (.int .i64) r))
def Gt(p:Pv)(lo hi:Option Operand):Bool:=match p,lo,hi with
 | .one (.ptr _ _),none,none=>true
 |_,_,_=>false
def Of(g:FuncId)(ps:List Pv):Bool:=Nat.beq g 50&&ps.any λp=>match p with
 | .one (.own _)=>true
 |_=>false
def pz:(τ:Ty)->τ.T->Option Pv
 | .tup (.sl _ _ _) .bool,x=>some (.tup [(false,[.unk]),(false,[.bool x.2])])
 |_,_=>none
noncomputable def callK(st:Bool)(e:En)(d:Option Nat)(g:FuncId)(ops:List Operand)(caps:List Lf)(k:En->Option ρ):Option ρ:=match e.evs C ops with
 |some ps=>match T g with
  |some c=>match caps,e.frzP C ps,(st||Nat.ble c.room rc)&&c.res.okT with
   | [],some e1,true=>match e1.evs C ops with
    |some f=>match RI c.ar f with
     |some x=>(c.fn x).bind λr=>match Of g ps with
      |true=>kO (pz c.res r) λp=>e.set C d p k
      |false=>e1.set C d (RJ c.res r) k
     |none=>none
    |none=>none
   |_,_,_=>none
  |none=>match Nat.beq g 108 with
   |true=>match ps,caps with
    | [.one (.int .u64 a)],[]=>if 0<=a/\a<=12 then e.set C d .any k else none
    |_,_=>none
   |false=>match Nat.beq g 307 with
    |true=>match ps,caps with
     | [.one (.own j),.one (.int .i64 a),.one (.int .i64 b)],[]=>match zH e.objs j,Nat.ble C.lent j with
      |some (.list 3 1 (.int .i64) l),true=>(Gd l a b).bind λr=>e.frzAs j r λe v=>e.set C d v k
      |_,_=>none
     |_,_=>none
    |false=>match Nat.beq g 78 with
     |true=>match ps,caps with
      | [.one (.own j)],[]=>match zH e.objs j,Nat.ble C.lent j with
       |some (.list 3 1 (.int .i64) l),true=>(RD l).bind λr=>e.frzAs j r λe v=>e.set C d v k
       |_,_=>none
      |_,_=>none
     |false=>inl g (gD e.objs C.objs) C.lent (ps++caps.map .one) e.objs λv o=>match wP e.objs o with
      |true=>En.set C {e with objs:=o} d v k
      |false=>none
 |none=>none
noncomputable def F6(e:En)(d:Option Nat)(t:TypeId)(x y:Pv)(k:En->Option ρ):Option ρ:=match Lh Γ t with
 |some (el,sz,τ,_)=>match y with
  | .one (.own i)=>match zH e.objs i with
   |some (.list t' w' a m)=>if h:t'=el/\w'=sz/\a=τ then match m with
    | []=>none
    |_::_=>match Nat.ble C.lent i with
     |false=>none
     |true=>match x with
      | .one .nil=>(app [] (jk h.2.2 m)).bind λr=>En.new C (e.setO i .dead) d (.list el sz τ r) .own k
      | .one (.own j)=>match Nat.beq j i || !Nat.ble C.lent j,zH e.objs j with
       |false,some (.list t2 b τ2 l)=>if h2:t2=el/\b=sz/\τ2=τ then(app (jk h2.2.2 l) (jk h.2.2 m)).bind λr=>En.new C ((e.setO i .dead).setO j .dead) d (.list el sz τ r) .own k
        else none
       |_,_=>none
      |_=>none
    else none
   |_=>none
  | .one (.sl t' w' a m)=>if h:t'=el/\w'=sz/\a=τ then match x with
   | .one (.own j)=>match Nat.ble C.lent j&&Nat.ble 1 sz,zH e.objs j with
    |true,some (.list t2 b τ2 l)=>if h2:t2=el/\b=sz/\τ2=τ then(app (jk h2.2.2 l) (jk h.2.2 m)).bind λr=>En.new C (e.setO j .dead) d (.list el sz τ r) .own k
     else none
    |_,_=>none
   |_=>none
   else none
  |_=>none
 |none=>none
def O4:List (Nat×Operand)->List Operand
 | []=>[]
 |(_,x)::r=>x::O4 r
def x6(e:En)(i:Int):Option Operand->Option Int
 |none=>some i
 |some x=>match e.ev C x with
  |some (.one (.int _ i))=>some i
  |_=>none
def Rw:List Value->Option (List Lf)
 | [.nilFunc]=>some [.nilf]
 |_=>none
def tD(τ:Option Ty)(c:List Value):Option (List Lf):=match τ with
 |some τ=>gK τ c
 |none=>Rw c
noncomputable def wg(e:En)(d:Option Nat)(o:Op)(k:En->Option ρ):Option ρ:=match o with
 | .store t x v=>match e.ev C x,e.ev C v with
  |some (.one (.ptr j off)),some v=>match zH e.objs j,jN v with
   |some (.cells c),some l=>match FZ c off l,qV Tryz.prog t with
    |some c',some n=>match Nat.beq (Lr l) n&&Nat.ble C.lent j with
     |true=>En.set C (e.setO j (.cells c')) d Pv.undef k
     |false=>none
    |_,_=>none
   |_,_=>none
  |some (.one (.op j w i off)),some v=>match zH e.objs j,jN v with
   |some (.list t' w' τ ls),some l=>match qV Tryz.prog t,Nat.beq w' w&&Nat.ble C.lent j with
    |some n,true=>(ae ls i).bind λx=>match FZ (Zo τ x) off l,Nat.beq (Lr l) n with
     |some c',true=>match vh τ c' with
      |some y=>En.set C (e.setO j (.list t' w' τ (zM ls i.toNat y))) d Pv.undef k
      |none=>none
     |_,_=>none
    |_,_=>none
   |_,_=>none
  |_,_=>none
 | .box _ x=>match e.ev C x with
  |some v=>match jN v with
   |some l=>En.new C e d (.cells l) (.ptr · 0) k
   |none=>none
  |none=>none
 | .alloc t=>match jy Tryz.prog t with
  |some c=>match tD (Γ t) c with
   |some l=>En.new C e d (.cells l) (.ptr · 0) k
   |none=>none
  |_=>none
 | .buildSlice t n parts=>match Lh Γ t,e.evs C (O4 parts.toList)with
  |some (el,sz,τ,z),some ps=>match e.frzP C ps with
   |some e=>match Nat.ble (n*sz) 16777216,Jw C e (λi=>some (i*sz,sz)) parts.toList (rA z n)with
    |true,some c=>match WV τ n c with
     |some l=>En.new C e d (.list el sz τ l) .own k
     |none=>none
    |_,_=>none
   |none=>none
  |_,_=>none
 | .makeSlice t l c=>match Lh Γ t,e.ev C l,e.ev C c with
  |some (el,sz,τ,z),some (.one (.int .i64 a)),some (.one (.int .i64 b))=>match vh τ z with
   |some y=>if 0<=a/\a=b/\a<=65536 then En.new C e d (.list el sz τ (List.replicate a.toNat y)) .own k else none
   |none=>none
  |_,_,_=>none
 | .slice t x lo hi none=>match e.ev C x with
  |some p=>match Gt p lo hi with
   |true=>kO (M5 t p) λv=>e.set C d v k
   |false=>match e.frzP C [p]with
    |some e=>match e.ev C x,Tryz.prog.underlying t with
     |some (.one (.sl t' w τ l)),some (.slice el)=>match x6 C e 0 lo,x6 C e l.length hi,Tryz.prog.info? el with
      |some a,some b,some inf=>match Nat.beq inf.size w&&Nat.beq t' el with
       |true=>(qK l a b).bind λr=>e.set C d (.one (.sl t' w τ r)) k
       |false=>none
      |_,_,_=>none
     |_,_=>none
    |none=>none
  |none=>none
 | .slice t x none (some hi) (some mx)=>match e.ev C x,e.ev C hi,e.ev C mx,Tryz.prog.underlying t with
  |some (.one (.sl t' w τ l)),some (.one (.int .i64 a)),some (.one (.int .i64 b)),some (.slice el)=>match Tryz.prog.info? el with
   |some inf=>match Nat.beq inf.size w&&Nat.beq t' el with
    |true=>if a=b then(qK l 0 a).bind λr=>e.set C d (.one (.sl t' w τ r)) k else none
    |false=>none
   |none=>none
  |_,_,_,_=>none
 | .call c=>match c.callee with
  | .value f=>match e.ev C f with
   |some (.one (.fn g))=>match xE Tryz.prog g && !Nat.ble zy g with
    |true=>callK T inl rc C (match f with | .func _=>true|_=>false) e d g c.args.toList [] k
    |false=>none
   |some (.clo g caps)=>match (xE Tryz.prog g && !Nat.ble zy g)&&(caps.all λx=>Nat.beq x.w 1)with
    |true=>callK T inl rc C false e d g c.args.toList caps k
    |false=>none
   |some (.one (.cl g js))=>match xE Tryz.prog g && !Nat.ble zy g with
    |true=>callK T inl rc C false e d g c.args.toList (js.map (.ptr · 0)) k
    |false=>none
   |some (.one (.yl j))=>match e.evs C c.args.toList,e.obj C j with
    |some ps,some (.loop _ _ h _ _ .ready none)=>match Nat.beq (yD ps 0) (yD h 0)with
     |true=>inl (zy+j) (gD e.objs C.objs) C.lent ps e.objs λv o=>match wP e.objs o with
      |true=>En.set C {e with objs:=o} d v k
      |false=>none
     |false=>none
    |_,_=>none
   |_=>none
  | .builtin .append=>match c.argTypes.toList,c.args.toList with
   |t::t2::_,[x,y]=>match Tryz.prog.underlying t2,e.ev C x,e.ev C y with
    |some (.slice _),some x,some y=>F6 Γ C e d t x y k
    |_,_,_=>none
   |_,_=>none
  | .builtin .copy=>match c.argTypes.toList,c.args.toList with
   |t::_,[x,y]=>match e.ev C x,e.ev C y,Tryz.prog.underlying t with
    |some (.one (.own j)),some (.one (.sl t' w τ m)),some (.slice el)=>match zH e.objs j,Nat.ble C.lent j&&Nat.ble 1 w,Tryz.prog.info? el with
     |some (.list t2 q τ2 l),true,some inf=>if t2=t'/\q=w/\τ2=τ/\inf.size=w then(if l.length=m.length/\0<m.length then En.set C (e.setO j (.list t' w τ m)) d (.one (.int .i64 m.length)) k else none)else none
     |_,_,_=>none
    |_,_,_=>none
   |_,_=>none
  | .builtin .min=>match c.args.toList with
   | [x,y]=>match e.ev C x,e.ev C y with
    |some (.one (.int .i64 a)),some (.one (.int .i64 b))=>e.set C d (.one (.int .i64 (min a b))) k
    |_,_=>none
   |_=>none
  | .builtin .max=>match c.args.toList with
   | [x,y]=>match e.ev C x,e.ev C y with
    |some (.one (.int .i64 a)),some (.one (.int .i64 b))=>e.set C d (.one (.int .i64 (max a b))) k
    |_,_=>none
   |_=>none
  |_=>KK Γ C e o λv=>e.set C d v k
 |_=>KK Γ C e o λv=>e.set C d v k
def Su(ops:List Oper)(e:En)(o:Oper)(run skip:En->Option ρ):Option ρ:=match o.guard with
 |none=>run e
 |some (j,w)=>match zH ops j with
  |some q=>match q.dst with
   |some d=>match e.get C d with
    |some (.one (.bool b))=>if b=true then(match w with
     |true=>run (e.mark (.tmp d) true)
     |false=>skip (e.mark (.tmp d) true))
     else(match w with
      |true=>skip (e.mark (.tmp d) false)
      |false=>run (e.mark (.tmp d) false))
    |some .undef=>skip e
    |_=>none
   |none=>skip e
  |none=>skip e
noncomputable def p6(ops:List Oper):List Oper->En->(En->Option ρ)->Option ρ
 | [],e,k=>k e
 |o::r,e,k=>Su C ops e o (λe=>wg Γ T inl rc C e o.dst o.op λe=>p6 ops r e k) λe=>e.set C o.dst Pv.undef λe=>p6 ops r e k
def Hw:Lf->Bool
 | .op _ _ _ _ | .sp _ _ _ _ | .asl _ _ | .unk=>false
 |_=>true
def Hx:Pv->Bool
 | .one l=>Hw l
 | .any=>false
 |_=>true
def KN(e:En):Option Pv->Bool
 |some (.one (.ptr j _))=>match e.obj C j with
  |some (.cells _)=>true
  |_=>false
 |some (.one (.own j))=>match e.obj C j with
  |some (.list _ _ _ _)=>true
  |_=>false
 |some p=>Hx p
 |none=>false
def Tw:Option Pv->Bool
 |some (.one (.op _ _ _ _))=>true
 |_=>false
def YO{ρ:Type}(ops:List Oper)(e:En):List Nat->(Unit->Option ρ)->Option ρ
 | [],k=>k ()
 |i::r,k=>match zH ops i with
  |some o=>match o.op with
   | .load _ x=>match e.ev C x with
    |some (.one (.op j _ n _))=>match e.obj C j with
     |some (.list _ _ _ l)=>(ae l n).bind λ_=>YO ops e r k
     |_=>none
    |_=>YO ops e r k
   |_=>YO ops e r k
  |none=>YO ops e r k
def Vt(ops:List Oper)(e:En):List Nat->Bool
 | []=>true
 |i::r=>(match zH ops i with
  |some o=>match o.op with
   | .load _ x=>Tw (e.ev C x)||KN C e (e.ev C x)
   | .slice _ x _ _ none=>KN C e (e.ev C x)
   | .alloc _ | .buildSlice _ _ _=>match o.dst with
    |some t=>KN C e (e.get C t)
    |none=>true
   |_=>true
  |none=>true)&&Vt ops e r
def Rq(ops:List Oper)(e:En)(j:Nat):List Nat->Bool
 | []=>true
 |i::r=>(match zH ops i with
  |some o=>match o.op with
   | .load _ x=>match e.ev C x with
    |some (.one (.ptr i _))=> !Nat.beq i j
    |some (.one (.op i _ _ _))=> !Nat.beq i j
    |_=>true
   | .slice _ x _ _ none=>match e.ev C x with
    |some (.one (.ptr i _))=> !Nat.beq i j
    |some (.one (.own i))=> !Nat.beq i j
    |_=>true
   | .alloc _ | .buildSlice _ _ _=>match o.dst with
    |some t=>match e.get C t with
     |some (.one (.ptr i _))=> !Nat.beq i j
     |some (.one (.own i))=> !Nat.beq i j
     |_=>true
    |none=>true
   |_=>true
  |none=>true)&&Rq ops e j r
def M4(ops:List Oper)(e:En)(fr:List Nat):Op->Bool
 | .call c=>match c.callee,c.args.toList with
  | .builtin .append,[x,_]=>match e.ev C x with
   |some (.one (.own j))=>match zH e.objs j with
    |some (.list _ _ _ _)=>Rq C ops e j fr&&Nat.ble C.lent j
    |_=>false
   |some (.one .nil)=>true
   |_=>false
  |_,_=>false
 |_=>false
def O7(ops:List Oper)(e:En)(fr:List Nat):Op->Bool
 | .store _ x _=>match e.ev C x with
  |some (.one (.ptr j _))=>Rq C ops e j fr
  |_=>false
 |_=>false
def nZ(e:En):Op->Bool
 | .call c=>match c.callee,c.args.toList with
  | .builtin .append,[x,y]=>match e.ev C x,e.ev C y with
   |some (.one (.own j)),some (.one (.sl _ _ _ _))=>match zH e.objs j with
    |some (.list _ _ _ [])=>true
    |_=>false
   |_,_=>false
  |_,_=>false
 |_=>false
def newOp:Op->Bool
 | .box _ _ | .alloc _ | .buildSlice _ _ _=>true
 |_=>false
def iT:Op->Bool
 | .buildSlice _ _ _=>true
 |_=>false
def M3:Op->Bool
 | .alloc _=>true
 |_=>false
def I8:Op->Bool
 | .slice _ _ _ _ none=>true
 |_=>false
def Sy(o:Op):Bool:=match o with
 | .call c=>match c.callee with
  | .value (.func g)=>(T g).isSome
  |_=>false
 |_=>false
def N1:Op->Bool
 | .call c=>match c.callee with
  | .value _=>true
  |_=>false
 |_=>false
def WD:List Ob->List Ob
 | []=>[]
 | .dead::r=>.dead::WD r
 |_::r=>.const::WD r
def uM:Nat->List Ob->List Ob
 |0,l=>l
 |_+1,[]=>[]
 |n+1,_::l=>uM n l
def E9:List Ob->Bool
 | []=>true
 |o::l=> !kK o&&E9 l
noncomputable def AF(e:En)(d:Option Nat)(o:Op)(k:En->Option ρ):Option ρ:=match o with
 | .call c=>match c.callee with
  | .value f=>match e.ev C f,e.evs C c.args.toList with
   |some (.clo g caps),some ps=>match (xE Tryz.prog g && !Nat.ble zy g)&&(caps.all λx=>Nat.beq x.w 1)with
    |true=>inl g (gD e.objs C.objs) (yD e.objs 0) (ps++caps.map .one) (WD e.objs) λv o=>match E9 (uM (yD e.objs 0) o)with
     |true=>En.set C {e with objs:=e.objs++uM (yD e.objs 0) o} d v k
     |false=>none
    |false=>none
   |some (.one (.fn g)),some ps=>match (xE Tryz.prog g && !Nat.ble zy g)&&(T g).isNone with
    |true=>inl g (gD e.objs C.objs) (yD e.objs 0) ps (WD e.objs) λv o=>match E9 (uM (yD e.objs 0) o)with
     |true=>En.set C {e with objs:=e.objs++uM (yD e.objs 0) o} d v k
     |false=>none
    |false=>none
   |_,_=>none
  |_=>none
 |_=>none
structure Rz where
 t:TypeId
 x:Operand
 hi:Operand
 x2:Operand
 lo:Operand
 a:Nat
 b:Nat
 d:Option Nat
def v5(ops:List Oper)(o:Oper):List an->Option Rz
 |d2::d3::_=>match o.op,o.dst with
  | .slice t x none (some hi) none,some a=>match zH ops d2.ix,zH ops d3.ix with
   |some c,some d=>match c.op,c.dst,c.guard,d2.how with
    | .slice t2 x2 (some lo) none none,some b,none,.fresh=>match d.op,d.guard,d3.how,d3.free with
     | .call ⟨.builtin .append,ag,ts⟩,none,.whole,[]=>match ag.toList,ts.toList with
      | [.tmp a',.tmp b'],t'::e::_=>match Nat.beq a a'&&Nat.beq b b' && !Nat.beq a b&&Nat.beq t t'&&Nat.beq t t2&&Nat.beq t e with
       |true=>some ⟨t,x,hi,x2,lo,a,b,d.dst⟩
       |false=>none
      |_,_=>none
     |_,_,_,_=>none
    |_,_,_,_=>none
   |_,_=>none
  |_,_=>none
 |_=>none
def GD{α:Type}(l:List α)(i n:Int):Option (List α):=if 0<=i/\i<n/\n<=l.length then some (l.take i.toNat++l.drop n.toNat)else none
noncomputable def Gr(e:En)(p:Rz)(k:En->Option ρ):Option ρ:=match Lh Γ p.t,e.ev C p.x,e.ev C p.hi with
 |some (el,sz,_,_),some (.one (.own j)),some (.one (.int .i64 i))=>match zH e.objs j,Nat.ble C.lent j with
  |some (.list t' w' c l),true=>match Nat.beq t' el&&Nat.beq w' sz with
   |true=>e.set C (some p.a) .any λe=>match e.ev C p.x2,e.ev C p.lo with
    |some (.one (.own f)),some (.one (.int .i64 n))=>match Nat.beq j f with
     |true=>e.set C (some p.b) .any λe=>(GD l i n).bind λr=>(e.setO j .dead).set C p.d (.one (.sl t' w' c r)) k
     |false=>none
    |_,_=>none
   |false=>none
  |_,_=>none
 |_,_,_=>none
def S5:Op->Bool
 | .convert _ _ _=>true
 |_=>false
noncomputable def wO(ops:List Oper):List an->En->(En->Option ρ)->Option ρ
 | [],e,k=>k e
 |d::r,e,k=>match zH ops d.ix with
  |some o=>Su C ops e o (λe=>match d.how with
   | .light=>match I8 o.op with
    |true=>wg Γ T inl rc C e o.dst o.op λe=>wO ops r e k
    |false=>KK Γ C e o.op λv=>e.set C o.dst v λe=>wO ops r e k
   | .whole=>match d.free with
    | []=>wg Γ T inl rc C e o.dst o.op λe=>wO ops r e k
    |_=>match Vt C ops e d.free&&(newOp o.op||I8 o.op||Sy T o.op||O7 C ops e d.free o.op||M4 C ops e d.free o.op)with
     |true=>YO C ops e d.free λ_=>wg Γ T inl rc C e o.dst o.op λe=>wO ops r e k
     |false=>match Vt C ops e d.free&&N1 o.op with
      |true=>YO C ops e d.free λ_=>AF T inl C e o.dst o.op λe=>wO ops r e k
      |false=>none
   | .fresh=>match v5 ops o r with
    |some p=>match r with
     |_::_::r2=>Gr Γ C e p λe=>wO ops r2 e k
     |_=>none
    |none=>match newOp o.op||I8 o.op||Sy T o.op||nZ C e o.op with
     |true=>wg Γ T inl rc C e o.dst o.op λe=>wO ops r e k
     |false=>match N1 o.op with
      |true=>AF T inl C e o.dst o.op λe=>wO ops r e k
      |false=>match S5 o.op with
       |true=>KK Γ C e o.op λv=>e.set C o.dst v λe=>wO ops r e k
       |false=>none
   | .new=>match (iT o.op||M3 o.op)&&o.dst.isSome with
    |true=>wg Γ T inl rc C e o.dst o.op λe=>wO ops r e k
    |false=>none) λe=>e.set C o.dst Pv.undef λe=>wO ops r e k
  |none=>none
def pN:Code->Nat
 | .seq a b=>pN a+pN b
 | .cond _ a b=>pN a+pN b
 | .block _ b=>pN b
 | .loop b=>pN b+1
 | .scope b=>pN b
 |_=>0
def p8(w:En->En):List (Nat×(En->Option ρ))->List (Nat×(En->Option ρ))
 | []=>[]
 |(i,k)::r=>(i,λe=>k (w e))::p8 w r
variable(N:Nat)
noncomputable def qS:Code->Cx->List Hi->List (Nat×(En->Option ρ))->(En->Option ρ)->(En->Option ρ)->En->Option ρ
 | .skip,_,_,_,_,k,e=>k e
 | .label _,_,_,_,_,k,e=>k e
 | .seq a b,C,hs,j,d,k,e=>qS a C hs j d (qS b C (hs.drop (pN a)) j d k) e
 | .cond c a b,C,hs,j,d,k,e=>match e.ev C c with
  |some (.one (.bool x))=>if x=true then qS a C hs j d k (e.mark c true)else qS b C (hs.drop (pN a)) j d k (e.mark c false)
  |_=>none
 | .block i b,C,hs,j,d,k,e=>qS b C hs ((i,k)::j) d k e
 | .exit i,_,_,j,_,_,e=>match cW j i with
  |some k=>k e
  |none=>none
 | .ret,_,_,_,d,_,e=>d e
 | .scope b,C,hs,j,d,k,e=>qS b C hs j d k e
 | .region _ ops false,C,_,_,_,k,e=>p6 Γ T inl rc C ops.toList ops.toList e k
 | .region _ ops true,C,_,_,_,k,e=>match Zt ops.toList (plan ops.toList)with
  |true=>wO Γ T inl rc C ops.toList (plan ops.toList) e k
  |false=>none
 | .loop b,C,hs,j,d,_,e=>match hs with
  |h::hs=>match h.un with
   |true=>zk (λagain e=>qS b C hs j d again e) h.fuel e
   |false=>EZ h C e λC w again e=>qS b C hs (p8 w j) (λe=>d (w e)) again e
  | []=>none
 | .rangeFunc f ps x y,C,_,j,d,k,e=>match e.ev C f with
  |some (.clo g caps)=>match ((xE Tryz.prog g && !Nat.ble zy g)&&(caps.all λx=>Nat.beq x.w 1))&&((Nat.ble N 65534&&Yv N f)&&(qX N x&&qX N y))&&(xP x&&xP y&&kA x&&kA y)with
   |true=>inl g (gD (e.objs++[.loop N (e.slots++C.slots) ps.toList x y .ready none]) C.objs) C.lent (.one (.yl (yD e.objs 0))::caps.map .one) (e.objs++[.loop N (e.slots++C.slots) ps.toList x y .ready none]) λ_ o=>match zH o (yD e.objs 0),wP (e.objs++[.loop N (e.slots++C.slots) ps.toList x y .ready none]) o with
    |some (.loop _ _ _ _ _ .ready none),true=>k {e with objs:=zM o (yD e.objs 0) .dead}
    |some (.loop _ _ _ _ _ .done (some .ret)),true=>d {e with objs:=zM o (yD e.objs 0) .dead}
    |_,_=>none
   |false=>none
  |_=>none
 |_,_,_,_,_,_,_=>none
def qN(rc:Nat):Op->Nat
 | .box _ _ | .alloc _ | .buildSlice _ _ _ | .makeSlice _ _ _=>1
 | .call c=>match c.callee with
  | .builtin _=>1
  | .value (.func g)=>match T g with
   |some a=>a.room
   |none=>rc
  |_=>rc
 |_=>0
def Rm(rc:Nat):List Oper->Nat
 | []=>0
 |o::r=>qN T rc o.op+Rm rc r
def XX(rc:Nat)(ops:List Oper):List an->Nat
 | []=>0
 |d::r=>(match zH ops d.ix with
  |some o=>qN T rc o.op
  |none=>0)+XX rc ops r
def xS(rc:Nat):Code->List Hi->Nat
 | .seq a b,hs=>xS rc a hs+xS rc b (hs.drop (pN a))
 | .cond _ a b,hs=>xS rc a hs+xS rc b (hs.drop (pN a))
 | .block _ b,hs=>xS rc b hs
 | .scope b,hs=>xS rc b hs
 | .loop b,hs=>match hs with
  |h::hs=>h.fuel*xS rc b hs
  | []=>0
 | .region _ ops false,_=>Rm T rc ops.toList
 | .region _ ops true,_=>XX T rc ops.toList (plan ops.toList)
 | .rangeFunc _ _ _ _,_=>rc+1
 |_,_=>0
noncomputable def mi(C:Cx)(e:En):List ResultVar->Option (List Pv)
 | []=>some []
 | .tmp t::r=>match e.get C t,mi C e r with
  |some p,some l=>some (p::l)
  |_,_=>none
 | .cell t ty::r=>match e.get C t,mi C e r with
  |some (.one (.ptr j off)),some l=>match e.obj C j with
   |some (.cells c)=>match Kc (z3 Tryz.prog ty) off c with
    |some p=>some (p::l)
    |none=>none
   |_=>none
  |_,_=>none
def BT:List Pv->Option (List (Bool×List Lf))
 | []=>some []
 |p::r=>match P6 p,BT r with
  |some q,some l=>some (q::l)
  |_,_=>none
noncomputable def As(C:Cx)(rs:List ResultVar)(e:En)(k:Pv->List Ob->Option ρ):Option ρ:=match mi C e rs with
 |some [p]=>k p e.objs
 |some l=>match BT l with
  |some q=>k (.tup q) e.objs
  |none=>none
 |none=>none
def AT{α:Type}:Nat->List α->List (Nat×α)
 |_,[]=>[]
 |n,x::l=>(n,x)::AT (n+1) l
def fF:List Nat->Nat
 | []=>0
 |n::_=>n
def putPs:List Nat->List Pv->List (Nat×Pv)->List (Nat×Pv)
 |t::ts,p::ps,l=>putPs ts ps (putS l t p)
 |_,_,l=>l
noncomputable def HD(rc a:Nat)(inl:ir ρ)(j:Nat)(co:List Ob)(lent:Nat)(args:List Pv)(objs:List Ob)(k:Pv->List Ob->Option ρ):Option ρ:=match En.obj {slots:=[],objs:=co,n:=yD objs 0,lent:=lent} {slots:=[],objs:=objs} j,zH objs j with
 |some (.loop N slots ps x y .ready none),some old=>match Nat.beq (yD args 0) (yD ps 0)&&Nat.ble lent j&&Nat.ble (xS T a x []+xS T a y []) rc with
  |true=>qS Γ T inl a N x {slots:=[],objs:=co,n:=yD objs 0,lent:=lent} [] [] (λ_=>none) (λe=>qS Γ T inl a N y {slots:=[],objs:=co,n:=yD objs 0,lent:=lent} [] []
   (λe=>k (.one (.bool false)) (zM e.objs j (.loop N [] ps x y .done (some .ret)))) (λe=>k (.one (.bool true)) (zM e.objs j old)) e) {slots:=putPs ps args slots,objs:=zM objs j .dead}
  |false=>none
 |_,_=>none
noncomputable def GS(rc a:Nat)(inl:ir ρ):ir ρ:=λg co lent args objs k=>match Nat.ble zy g with
 |true=>HD Γ T rc a inl (g-zy) co lent args objs k
 |false=>match Tryz.prog.funcs[g]? with
  |some fn=>match fn.body with
   |some c=>match vM fn c (yD args 0) && !Nat.ble zy g&&Nat.ble (xS T a c (Hs g)) rc with
    |true=>qS Γ T inl a fn.ntmps c {slots:=[],objs:=co,n:=yD objs 0,lent:=lent} (Hs g) [] (λe=>As {slots:=[],objs:=co,n:=yD objs 0,lent:=lent} fn.results.toList e k) (λe=>As {slots:=[],objs:=co,n:=yD objs 0,lent:=lent} fn.results.toList e k) {slots:=AT 0 args,objs:=objs}
    |false=>none
   |none=>none
  |none=>none
noncomputable def Ga:List Nat->ir ρ
 | []=>λ_ _ _ _ _ _=>none
 |rc::rs=>GS Γ T Hs rc (fF rs) (Ga rs)
end
noncomputable def Ow(τ:Ty)(p:Pv)(o:List Ob):Option τ.T:=match (En.mk [(0,p)] o).frzP ⟨[],[],0,0⟩ [p]with
 |some ⟨[(_,p)],_⟩=>KF τ p
 |_=>none
noncomputable def zK(Γ:TypeId->Option Ty)(T:FuncId->Option eQ)(Hs:FuncId->List Hi)(rs:List Nat)(g:FuncId)(ar:List Ty)(τ:Ty)(x:Tp ar):Option τ.T:=
 Ga Γ T Hs rs g [] 0 (sf ar x) [] (Ow τ)
abbrev Qs:=List (Value×Nat)
def Gh(Q:Qs):List Nat->List Value->Prop
 | [],c=>c=[]
 |j::r,c=>∃q c',Q[j]? = some q/\c=.pointer (some ⟨q.2,0,none⟩)::c'/\Gh Q r c'
def eg(W:Wd)(Q:Qs):Lf->List Value->Prop
 | .int k x,c=>c=[.int k x]
 | .bool b,c=>c=[.bool b]
 | .rat q,c=>ax W .rat c q
 | .sl t w e l,c=>ax W (.sl t w e) c l
 | .nil,c=>c=[.slice none 0 0]
 | .nilf,c=>c=[.nilFunc]
 | .own j,c=>∃q,Q[j]? = some q/\c=[q.1]/\∃a n k,q.1=.slice a n k
 | .ptr j off,c=>∃q,Q[j]? = some q/\c=[.pointer (some ⟨q.2,off,none⟩)]
 | .ep t w e x off,c=>∃b o n cap L k,W.S t w (.slice (some ⟨b,o,none⟩) n cap) L/\k<L.length/\ax W e (L.getD k []) x/\c=[.pointer (some ⟨b,o+k*w+off,none⟩)]
 | .op j w i off,c=>∃q,Q[j]? = some q/\c=[.pointer (some ⟨q.2,i.toNat*w+off,none⟩)]
 | .fn f,c=>c=[.func (.func f) #[] #[]]
 | .nilp,c=>c=[.pointer none]
 | .cl f js,c=>∃cs,c=[.func (.func f) ⟨[]⟩ ⟨cs⟩]/\Gh Q js cs
 | .yl j,c=>∃q,Q[j]? = some q/\c=[.func (.yield q.2) ⟨[]⟩ ⟨[]⟩]
 | .sp t w e l,c=>∃b o n cap L,c=[.pointer (some ⟨b,o,none⟩)]/\W.S t w (.slice (some ⟨b,o,none⟩) n cap) L/\L.length=l.length/\∀k x,l[k]? = some x->ax W e (L.getD k []) x
 | .asl j n,c=>∃q,Q[j]? = some q/\c=[.slice (some ⟨q.2,0,none⟩) n (2*n)]
 | .unk,c=>∃v,c=[v]/\Go.M.plainCell v=true
def bu(W:Wd)(Q:Qs):List Lf->List Value->Prop
 | [],c=>c=[]
 |x::l,c=>∃c1 a,c=c1++a/\eg W Q x c1/\bu W Q l a
def QR(W:Wd)(Q:Qs)(p:Bool×List Lf)(v:Value):Prop:=match p.1 with
 |true=>∃c,v=.agg ⟨c⟩/\bu W Q p.2 c
 |false=>∃x,p.2=[x]/\eg W Q x [v]
def fO(W:Wd)(Q:Qs):List (Bool×List Lf)->List Value->Prop
 | [],vs=>vs=[]
 |p::l,vs=>∃v r,vs=v::r/\QR W Q p v/\fO W Q l r
def cL(W:Wd)(Q:Qs):Pv->Value->Prop
 | .undef,v=>v=undef
 | .any,_=>True
 | .one x,v=>eg W Q x [v]
 | .agg l,v=>∃c,v=.agg ⟨c⟩/\bu W Q l c
 | .tup l,v=>∃vs,v=.tuple ⟨vs⟩/\fO W Q l vs
 | .clo f l,v=>∃cs,v=.func (.func f) ⟨[]⟩ ⟨cs⟩/\bu W Q l cs
def cd(Q Q':Qs):Prop:=∀(i:Nat) (q:Value×Nat),Q[i]? = some q->Q'[i]? = some q
theorem cd.rfl{Q:Qs}:cd Q Q:=λ_ _ h=>h
theorem cd.app{Q A:Qs}:cd Q (Q++A):=λi q h=>by
 rw[cA (aM.mp h).1];exact h
theorem cd.take{Q:Qs}{n:Nat}:cd (Q.take n) Q:=λi q h=>by
 rw[List.getElem?_take]at h
 split at h
 .exact h
 .cases h
theorem cd.trans{Q Q' a:Qs}(h:cd Q Q')(g:cd Q' a):cd Q a:=λi q x=>g i q (h i q x)
theorem Gh.mono{Q Q':Qs}(a:cd Q Q'):∀{js:List Nat} {c:List Value},Gh Q js c->Gh Q' js c
 | [],_,h=>h
 |_::_,_,⟨q,c',h1,h2,b⟩=>⟨q,c',a _ _ h1,h2,b.mono a⟩
section
variable{W W':Wd}{Q Q':Qs}
theorem eg.mono(hw:cu W W')(a:cd Q Q'){x:Lf}{c:List Value}(h:eg W Q x c):eg W' Q' x c:=by
 cases x with
 |int|bool|nil|nilf|nilp|fn|unk=>exact h
 |cl f js=>obtain⟨cs,e,h⟩:=h;exact⟨cs,e,h.mono a⟩
 |yl j=>obtain⟨q,h1,h2⟩:=h;exact⟨q,a _ _ h1,h2⟩
 |asl j n=>obtain⟨q,h1,h2⟩:=h;exact⟨q,a _ _ h1,h2⟩
 |sp t w e l=>obtain⟨b,o,n,cap,L,e1,h1,h2,d⟩:=h;exact⟨b,o,n,cap,L,e1,hw.s _ _ _ _ h1,h2,λk x hx=>ax.mono hw (d k x hx)⟩
 |rat q=>exact ax.mono hw (τ:=.rat) h
 |sl t w e l=>exact ax.mono hw (τ:=.sl t w e) h
 |own j=>obtain⟨q,h1,h2⟩:=h;exact⟨q,a _ _ h1,h2⟩
 |ptr j off=>obtain⟨q,h1,h2⟩:=h;exact⟨q,a _ _ h1,h2⟩
 |op j w i off=>obtain⟨q,h1,h2⟩:=h;exact⟨q,a _ _ h1,h2⟩
 |ep t w e x off=>obtain⟨b,o,n,cap,L,k,h1,h2,d,g⟩:=h;exact⟨b,o,n,cap,L,k,hw.s _ _ _ _ h1,h2,ax.mono hw d,g⟩
theorem bu.mono(hw:cu W W')(b:cd Q Q'){l:List Lf}{c:List Value}(h:bu W Q l c):bu W' Q' l c:=by
 induction l generalizing c with
 |nil=>exact h
 |cons x l d=>obtain⟨c1,a,e,h1,h2⟩:=h;exact⟨c1,a,e,h1.mono hw b,d h2⟩
theorem QR.mono(hw:cu W W')(a:cd Q Q'){p:Bool×List Lf}{v:Value}(h:QR W Q p v):QR W' Q' p v:=by
 obtain⟨b,l⟩:=p
 cases b with
 |true=>obtain⟨c,e,h⟩:=h;exact⟨c,e,h.mono hw a⟩
 |false=>obtain⟨x,e,h⟩:=h;exact⟨x,e,h.mono hw a⟩
theorem fO.mono(hw:cu W W')(b:cd Q Q'){l:List (Bool×List Lf)}{c:List Value}(h:fO W Q l c):fO W' Q' l c:=by
 induction l generalizing c with
 |nil=>exact h
 |cons x l d=>obtain⟨c1,a,e,h1,h2⟩:=h;exact⟨c1,a,e,h1.mono hw b,d h2⟩
theorem cL.mono(hw:cu W W')(a:cd Q Q'){p:Pv}{v:Value}(h:cL W Q p v):cL W' Q' p v:=by
 cases p with
 |undef=>exact h
 |any=>trivial
 |one x=>exact eg.mono hw a h
 |agg l=>obtain⟨c,e,h⟩:=h;exact⟨c,e,h.mono hw a⟩
 |tup l=>obtain⟨c,e,h⟩:=h;exact⟨c,e,h.mono hw a⟩
 |clo f l=>obtain⟨c,e,h⟩:=h;exact⟨c,e,h.mono hw a⟩
theorem eg.len{x:Lf}{c:List Value}(h:eg W Q x c):c.length=x.w:=by
 cases x with
 |unk=>obtain⟨v,rfl,_⟩:=h;rfl
 |int|bool|nil|nilf|nilp|fn=>rw[show c=_ from h];rfl
 |cl f js=>obtain⟨cs,rfl,h⟩:=h;rfl
 |yl j=>obtain⟨q,h1,rfl⟩:=h;rfl
 |asl j n=>obtain⟨q,h1,rfl⟩:=h;rfl
 |sp t w e l=>obtain⟨b,o,n,cap,L,rfl,h⟩:=h;rfl
 |rat q=>exact ax.len (τ:=.rat) h
 |sl t w e l=>exact ax.len (τ:=.sl t w e) h
 |own j=>obtain⟨q,h1,rfl,_⟩:=h;rfl
 |ptr j off=>obtain⟨q,h1,rfl⟩:=h;rfl
 |op j w i off=>obtain⟨q,h1,rfl⟩:=h;rfl
 |ep t w e x off=>obtain⟨b,o,n,cap,L,k,h1,h2,h3,rfl⟩:=h;rfl
theorem bu.len{l:List Lf}{c:List Value}(h:bu W Q l c):c.length=Lr l:=by
 induction l generalizing c with
 |nil=>rw[show c=[]from h];rfl
 |cons x l a=>obtain⟨c1,c2,rfl,h1,h2⟩:=h;rw[aQ,h1.len,a h2];rfl
theorem eg.plain{x:Lf}{c:List Value}(h:eg W Q x c):c.all Go.M.plainCell=true:=by
 cases x with
 |unk=>obtain⟨v,rfl,h⟩:=h;simpa using h
 |int|bool|nil|nilf|nilp|fn=>rw[show c=_ from h];rfl
 |cl f js=>obtain⟨cs,rfl,h⟩:=h;rfl
 |yl j=>obtain⟨q,h1,rfl⟩:=h;rfl
 |asl j n=>obtain⟨q,h1,rfl⟩:=h;rfl
 |sp t w e l=>obtain⟨b,o,n,cap,L,rfl,h⟩:=h;rfl
 |rat q=>exact ax.plain (τ:=.rat) h
 |sl t w e l=>exact ax.plain (τ:=.sl t w e) h
 |own j=>
  obtain⟨q,h1,rfl,a,n,k,h2⟩:=h
  rw[h2];rfl
 |ptr j off=>obtain⟨q,h1,rfl⟩:=h;rfl
 |op j w i off=>obtain⟨q,h1,rfl⟩:=h;rfl
 |ep t w e x off=>obtain⟨b,o,n,cap,L,k,h1,h2,h3,rfl⟩:=h;rfl
theorem bu.plain{l:List Lf}{c:List Value}(h:bu W Q l c):c.all Go.M.plainCell=true:=by
 induction l generalizing c with
 |nil=>rw[show c=[]from h];rfl
 |cons x l a=>obtain⟨c1,c2,rfl,h1,h2⟩:=h;rw[List.all_append,h1.plain,a h2];rfl
theorem bu.append{l a:List Lf}{c c':List Value}(h:bu W Q l c)(d:bu W Q a c'):bu W Q (l++a) (c++c'):=by
 induction l generalizing c with
 |nil=>rw[show c=[]from h];exact d
 |cons x l e=>obtain⟨c1,b,rfl,h1,h2⟩:=h;exact⟨c1,b++c',bF ..,h1,e h2⟩
theorem bu.one{x:Lf}{c:List Value}(h:eg W Q x c):bu W Q [x] c:=⟨c,[],(bP _).symm,h,rfl⟩
theorem bu.one'{x:Lf}{c:List Value}(h:bu W Q [x] c):eg W Q x c:=by
 obtain⟨c1,a,rfl,h1,h2⟩:=h
 rw[show a=[]from h2,bP];exact h1
theorem bu.skip{l r:List Lf}{n:Nat}{c:List Value}(h:bu W Q l c)(hs:WN l n=some r):bu W Q r (c.drop n)/\n<=c.length:=by
 induction l generalizing c n with
 |nil=>
  cases n with
  |zero=>cases hs;exact⟨h,cH _⟩
  |succ n=>cases hs
 |cons x l a=>
  cases n with
  |zero=>cases hs;exact⟨h,cH _⟩
  |succ n=>
   obtain⟨c1,c2,rfl,h1,h2⟩:=h
   simp only[WN]at hs
   split at hs
   .next hb=>
    have hb:=aR hb
    have hl:=h1.len
    obtain⟨g1,g2⟩:=a h2 hs
    rw[List.drop_append,hl,List.drop_eq_nil_of_le Oz,cJ]
    exact⟨g1,by rw[aQ];omega⟩
   .cases hs
theorem bu.grab{l r:List Lf}{n:Nat}{c:List Value}(h:bu W Q l c)(hs:SL l n=some r):bu W Q r (c.take n)/\n<=c.length:=by
 induction l generalizing c n r with
 |nil=>
  cases n with
  |zero=>cases hs;exact⟨rfl,cH _⟩
  |succ n=>cases hs
 |cons x l b=>
  cases n with
  |zero=>cases hs;exact⟨rfl,cH _⟩
  |succ n=>
   obtain⟨c1,c2,rfl,h1,h2⟩:=h
   simp only[SL]at hs
   split at hs
   .next hb=>
    have hb:=aR hb
    have hl:=h1.len
    split at hs
    .next r' a=>
     cases hs
     obtain⟨g1,g2⟩:=b h2 a
     rw[List.take_append,hl,dJ Oz]
     exact⟨⟨c1,_,rfl,h1,g1⟩,by rw[aQ];omega⟩
    .cases hs
   .cases hs
theorem AK:∀(n:Nat) (vs c:List Value),n+vs.length<=c.length->yK n vs c=some (c.take n++(vs++c.drop (n+vs.length))):=by
 have a:∀(vs c:List Value),vs.length<=c.length->xI vs c=some (vs++c.drop vs.length):=by
  intro vs
  induction vs with
  |nil=>intro c _;rfl
  |cons v vs b=>
   intro c hc
   cases c with
   |nil=>simp at hc
   |cons x c=>simp only[xI,b c (by simpa using hc)];rfl
 intro n
 induction n with
 |zero=>intro vs c h;simp only[yK];rw[a vs c Oz];simp
 |succ n b=>
  intro vs c h
  cases c with
  |nil=>simp at h
  |cons x c=>
   simp only[yK]
   rw[b vs c (by simp only[aU]at h;omega)]
   simp only[List.take_succ_cons,bY,show n+1+vs.length=n+vs.length+1 by omega,eX]
theorem bu.put{l r new:List Lf}{n:Nat}{c vs:List Value}(h:bu W Q l c)(hv:bu W Q new vs)(hs:FZ l n new=some r):∃c',yK n vs c=some c'/\bu W Q r c':=by
 suffices d:n+vs.length<=c.length/\bu W Q r (c.take n++(vs++c.drop (n+vs.length)))from⟨_,AK _ _ _ d.1,d.2⟩
 have b:=hv.len
 induction l generalizing c n r with
 |nil=>
  cases n with
  |zero=>
   simp only[FZ]at hs
   split at hs
   .next e a=>
    cases hs
    obtain⟨g1,g2⟩:=h.skip a
    rw[<-b]at g1 g2
    refine⟨by omega,?_⟩
    rw[cB,List.take_zero,cJ]
    exact hv.append g1
   .cases hs
  |succ n=>cases hs
 |cons x l f=>
  cases n with
  |zero=>
   simp only[FZ]at hs
   split at hs
   .next e a=>
    cases hs
    obtain⟨g1,g2⟩:=h.skip a
    rw[<-b]at g1 g2
    refine⟨by omega,?_⟩
    rw[cB,List.take_zero,cJ]
    exact hv.append g1
   .cases hs
  |succ n=>
   obtain⟨c1,c2,rfl,h1,h2⟩:=h
   simp only[FZ]at hs
   split at hs
   .next hb=>
    have hb:=aR hb
    have hl:=h1.len
    split at hs
    .next e a=>
     cases hs
     obtain⟨g1,g2⟩:=f h2 a
     refine⟨by rw[aQ];omega,?_⟩
     rw[List.take_append,hl,dJ Oz,List.drop_append,hl,List.drop_eq_nil_of_le (by omega:c1.length<=n+1+vs.length),cJ,bF]
     refine⟨c1,_,rfl,h1,?_⟩
     rw[show n+1+vs.length-x.w=n+1-x.w+vs.length by omega]
     exact g2
    .cases hs
   .cases hs
theorem VK{sh:Option (Option Nat)}{off:Nat}{l:List Lf}{c:List Value}{p:Pv}(h:bu W Q l c)(hc:Kc sh off l=some p):∃v,jv sh off c=some v/\cL W Q p v:=by
 unfold Kc at hc
 split at hc
 .split at hc
  .next x r hs=>
   obtain⟨g1,g2⟩:=h.skip hs
   obtain⟨c1,c2,e,h1,h2⟩:=g1
   split at hc
   .next hw=>
    cases hc
    have hl:=h1.len
    rw[hw]at hl
    obtain⟨v,rfl⟩:=List.length_eq_one_iff.mp hl
    refine⟨v,?_,h1⟩
    simp only[jv,zN]
    have:(c.drop off)[0]? = some v:=by rw[e];rfl
    rw[dV]at this
    exact this
   .cases hc
  .cases hc
 .next n=>
  split at hc
  .next r hs=>
   split at hc
   .next g hg=>
    cases hc
    obtain⟨g1,g2⟩:=h.skip hs
    obtain⟨a,b⟩:=g1.grab hg
    refine⟨.agg ⟨(c.drop off).take n⟩,?_,⟨_,rfl,a⟩⟩
    simp only[jv,y7,yR,aG b]
   .cases hc
  .cases hc
 .cases hc
theorem vE:{τ:Ty}->{c:List Value}->{x:τ.T}->ax W τ c x->bu W Q (Zo τ x) c
 | .int k,_,_,h=>bu.one h
 | .bool,_,_,h=>bu.one h
 | .rat,_,_,h=>bu.one h
 | .sl t w e,_,_,h=>bu.one h
 | .one a,_,_,h=>vE (τ:=a) h
 | .pair a b,_,_,⟨c1,c2,e,h1,h2⟩=>e▸(vE h1).append (vE h2)
 | .tup _ _,_,_,h=>h.elim
 | .tup3 _ _ _,_,_,h=>h.elim
theorem pM{t w:Nat}{e:Ty}{D:au}{W:Wd}:ax (W.x D) (.sl t w e) [.slice none 0 0] ([]:List e.T):=sl0
theorem iV{t w:Nat}{e a:Ty}(h:a=e){l:List a.T}{c:List Value}(hl:ax W (.sl t w a) c l):ax W (.sl t w e) c (jk h l):=by subst h;exact hl
end
theorem zgL{W:Wd}{D:au}{Q:Qs}(τ:Ty):∀{l r:List Lf} {c:List Value} {x:τ.T},bu (W.x D) Q l c->qd τ l=some (x,r)->∃c1 f,c=c1++f/\ax (W.x D) τ c1 x/\bu (W.x D) Q r f:=by
 induction τ with
 |int k=>
  intro l r c x h d
  cases l with
  |nil=>simp only[qd]at d;cases d
  |cons y l=>
   cases y with
   |int k' z=>
    simp only[qd]at d
    split at d
    .next hk=>cases d;subst hk;obtain⟨c1,f,e,h1,h2⟩:=h;exact⟨c1,f,e,h1,h2⟩
    .cases d
   |_=>simp only[qd]at d;cases d
 |bool=>
  intro l r c x h d
  cases l with
  |nil=>simp only[qd]at d;cases d
  |cons y l=>
   cases y with
   |bool z=>simp only[qd]at d;cases d;obtain⟨c1,f,e,h1,h2⟩:=h;exact⟨c1,f,e,h1,h2⟩
   |_=>simp only[qd]at d;cases d
 |rat=>
  intro l r c x h d
  cases l with
  |nil=>simp only[qd]at d;cases d
  |cons y l=>
   cases y with
   |rat z=>simp only[qd]at d;cases d;obtain⟨c1,f,e,h1,h2⟩:=h;exact⟨c1,f,e,h1,h2⟩
   |_=>simp only[qd]at d;cases d
 |sl t w τ m=>
  intro l r c x h d
  cases l with
  |nil=>simp only[qd]at d;cases d
  |cons y l=>
   cases y with
   |sl t' w' τ' z=>
    simp only[qd]at d
    split at d
    .next hk=>
     obtain⟨c1,f,e,h1,h2⟩:=h
     simp only[bH,Prod.mk.injEq]at d
     obtain⟨rfl,rfl⟩:=d
     obtain⟨rfl,rfl,he⟩:=hk
     exact⟨c1,f,e,iV he h1,h2⟩
    .cases d
   |nil=>
    simp only[qd]at d
    cases d
    obtain⟨c1,f,e,h1,h2⟩:=h
    exact⟨c1,f,e,by rw[show c1=_ from h1];exact pM,h2⟩
   |_=>simp only[qd]at d;cases d
 |one a m=>intro l r c x h d;simp only[qd]at d;exact m h d
 |pair a b g i=>
  intro l r c x h d
  simp only[qd]at d
  split at d
  .next y r1 q=>
   obtain⟨c1,f,rfl,h1,h2⟩:=g h q
   split at d
   .next z r2 s=>
    cases d
    obtain⟨j,n,rfl,o,p⟩:=i h2 s
    exact⟨c1++j,n,(bF ..).symm,⟨c1,j,rfl,h1,o⟩,p⟩
   .cases d
  .cases d
 |tup a b=>intro l r c x h d;cases l<;>(try rename_i y _;cases y)<;>(simp only[qd]at d;cases d)
 |tup3 a b c=>intro l r c x h d;cases l<;>(try rename_i y _;cases y)<;>(simp only[qd]at d;cases d)
theorem yN{α ρ:Type}{o:Option α}{k:α->Option ρ}{r:ρ}(h:kO o k=some r):∃x,o=some x/\k x=some r:=by
 cases o with
 |none=>cases h
 |some x=>exact⟨x,rfl,h⟩
theorem zT{α ρ:Type}{o:Option α}{k:α->Option ρ}{r:ρ}(h:o.bind k=some r):∃x,o=some x/\k x=some r:=by
 cases o with
 |none=>cases h
 |some x=>exact⟨x,rfl,h⟩
structure L6(W:Wd)(Q:Qs)(C:Cx)(e:En)(F:FF)(s:St):Prop where
 ev:∀x p,e.ev C x=some p->cL W Q p (zd F x)
 cel:∀j l,e.obj C j=some (.cells l)->∃q c t,Q[j]? = some q/\q.2<s.next/\s.get q.2=some (.cells c t)/\bu W Q l c
 lst:∀j t w τ l,e.obj C j=some (.list t w τ l)->∃q a cap,Q[j]? = some q/\q.1=.slice a l.length cap/\∀(k:Nat) (x:τ.T),l[k]? = some x->∃c tt L,a=some ⟨q.2,0,none⟩/\q.2<s.next/\s.get q.2=some (.cells c tt)/\y8 w (xr (k*w) c)=some L/\ax W τ L x
 kn:et s W
section
variable{W:Wd}{D:au}{Q:Qs}{C:Cx}{e:En}{F:FF}{s s':St}{ρ:Type}{r:ρ}{k:Pv->Option ρ}
theorem GA{o:BinOp}{a b:Int}{c:Bool}(h:cmpZ o a b=some c):yT o a b=some (.bool c):=by
 unfold cmpZ at h
 split at h<;>cases h
 .simp only[yT,qa];congr 2;rw[<-decide_not];exact decide_eq_decide.mpr Oz
 .simp only[yT,qa]
 .simp only[yT,qa];congr 2;rw[<-decide_not];exact decide_eq_decide.mpr Oz
 .simp only[yT,qa]
 .simp only[yT,qW]
 .simp only[yT,qW];congr 2;rw[<-decide_not]
theorem zgy{x z:Int}(h:uZ x=some z):z=x/\LD x:=by
 unfold uZ at h
 split at h
 .next hx=>cases h;exact⟨rfl,by unfold LD;omega⟩
 .cases h
theorem Gv{sk:St}(j:et sk W){o:BinOp}{t:TypeId}{x y:Pv}{v w:Value}(hx:cL W Q x v)(g:cL W Q y w)(h:Gu o t x y k=some r)(s:St) :
 ∃p u,qM Tryz.prog o t v w s=.ok (.value u) s/\cL W Q p u/\k p=some r:=by
 unfold Gu at h
 split at h
 .next a b=>
  cases hx;cases g
  split at h
  .next c hc=>exact⟨.one (.bool c),.bool c,by simp only[qM,qU,GA hc];rfl,rfl,h⟩
  .split at h
   .obtain⟨z,f,h⟩:=zT h
    obtain⟨rfl,d⟩:=wL f
    exact⟨.one (.int .i64 (a+b)),.int .i64 (a+b),by simp only[qM,qU,yT,YR d];rfl,rfl,h⟩
   .obtain⟨z,f,h⟩:=zT h
    obtain⟨rfl,d⟩:=wL f
    exact⟨.one (.int .i64 (a-b)),.int .i64 (a-b),by simp only[qM,qU,yT,YR d];rfl,rfl,h⟩
   .obtain⟨z,f,h⟩:=zT h
    obtain⟨rfl,d⟩:=wL f
    exact⟨.one (.int .i64 (a*b)),.int .i64 (a*b),by simp only[qM,qU,yT,YR d];rfl,rfl,h⟩
   .split at h
    .cases h
    .next hb=>exact⟨.one (.int .i64 (a.tmod b)),.int .i64 (a.tmod b),by simp only[qM,qU,yT,Go.binOp,Op.intDiv,aD hb];rfl,rfl,h⟩
   .split at h
    .cases h
    .next hb=>
     obtain⟨z,f,h⟩:=zT h
     obtain⟨rfl,d⟩:=wL f
     exact⟨.one (.int .i64 (a.tdiv b)),.int .i64 (a.tdiv b),by simp only[qM,qU,yT,Go.binOp,Op.intDiv,aD hb,Yo d];rfl,rfl,h⟩
   .split at h
    .next hb=>
     obtain⟨z,f,h⟩:=zT h
     obtain⟨rfl,d⟩:=wL f
     have hm:min b.toNat 64=b.toNat:=by omega
     exact⟨.one (.int .i64 (a*2 ^ b.toNat)),.int .i64 (a*2 ^ b.toNat),by simp only[qM,qU,yT,Go.binOp,Op.shift,aD (show ¬b<0 by omega),show IntKind.i64.bits=64 from rfl,hm,Yo d];rfl,rfl,h⟩
    .cases h
   .split at h
    .next hb=>exact⟨.one (.int .i64 (a.fdiv (2 ^ min b.toNat 64))),.int .i64 (a.fdiv (2 ^ min b.toNat 64)),by simp only[qM,qU,yT,Go.binOp,Op.shift,aD (show ¬b<0 by omega),show IntKind.i64.bits=64 from rfl];rfl,rfl,h⟩
    .cases h
   .exact⟨.one (.int .i64 (F7 a b)),.int .i64 (F7 a b),by simp only[qM,qU,yT,Go.binOp,Op.intBits];rfl,rfl,h⟩
   .exact⟨.one (.int .i64 (Ov a b)),.int .i64 (Ov a b),by simp only[qM,qU,yT,Go.binOp,Op.intBits];rfl,rfl,h⟩
   .cases h
 .next a b=>
  cases hx;cases g
  split at h
  .exact⟨.one (.bool (decide (a<b))),.bool (decide (a<b)),by simp only[qM,qU,Go.binOp,Op.intCmp];rfl,rfl,h⟩
  .refine⟨.one (.bool (decide (a=b))),.bool (decide (a=b)),?_,rfl,h⟩
   simp only[qM,qU,Go.binOp,Op.intCmp]
   by_cases e:a=b
   .have:(a==b)=true:=by simpa using e
    simp[e];rfl
   .have:(a==b)=false:=by simpa using e
    simp[this,e];rfl
  .obtain⟨z,f,h⟩:=zT h
   obtain⟨rfl,d⟩:=zgy f
   refine⟨.one (.int .u64 (a*b)),.int .u64 (a*b),?_,rfl,h⟩
   simp only[qM,qU,Go.binOp,Op.intArith]
   rw[aD Uz,Kk d]
   rfl
  .split at h
   .cases h
   .next hb=>exact⟨.one (.int .u64 (a.tmod b)),.int .u64 (a.tmod b),by simp only[qM,qU,Go.binOp,Op.intDiv,aD hb];rfl,rfl,h⟩
  .split at h
   .cases h
   .next hb=>
    obtain⟨z,f,h⟩:=zT h
    obtain⟨rfl,d⟩:=zgy f
    exact⟨.one (.int .u64 (a.tdiv b)),.int .u64 (a.tdiv b),by simp only[qM,qU,Go.binOp,Op.intDiv,aD hb,Kk d];rfl,rfl,h⟩
  .cases h
 .next a b=>
  cases hx;cases g
  split at h
  .next hu=>
   split at h
   .exact⟨.one (.bool (a==b)),.bool (a==b),by simp only[qM,tK,hu,Li];rfl,rfl,h⟩
   .exact⟨.one (.bool (!(a==b))),.bool (!(a==b)),by simp only[qM,tK,hu,Li];rfl,rfl,h⟩
   .cases h
  .cases h
 .next t' w' m l=>
  split at h
  .next el hu=>
   split at h
   .next hl=>
    obtain⟨a,cap,L,e1,n,hLn,_⟩:=(show ax W (.sl t' w' m) [v] l from hx)
    obtain⟨b,off,c,rfl,_⟩:=(j.s _ _ _ _ n).at (i:=0) (k:=0) rfl Oz
    refine⟨.one (.bool false),.bool false,?_,rfl,h⟩
    rw[(List.cons.inj e1).1,(List.cons.inj (show [w]=[.slice none 0 0]from g)).1]
    simp only[qM,tK,hu,Li]
    rfl
   .cases h
  .cases h
 .cases h
theorem zgO:∀{l:List Lf} {js:List Nat} {c:List Value},bu W Q l c->Sp l=some js->Gh Q js c
 | [],js,c,h,hj=>by cases hj;exact h
 | .ptr j 0::r,js,c,⟨c1,a,e,⟨q,h1,h2⟩,b⟩,hj=>by
  simp only[Sp]at hj
  split at hj
  .next l hl=>cases hj;subst h2;exact⟨q,a,h1,e,zgO b hl⟩
  .cases hj
theorem Zc{x:Pv}{l:List Lf}{v:Value}(hx:cL W Q x v)(hl:jN x=some l):bu W Q l (yr v):=by
 unfold jN at hl
 split at hl
 .next y=>
  cases hl
  have hc:yr v=[v]:=by
   have hp:=eg.plain (c:=[v]) hx
   cases v<;>first|rfl|(simp[Go.M.plainCell]at hp)
  rw[hc]
  exact bu.one hx
 .cases hl;obtain⟨c,rfl,hx⟩:=hx;exact hx
 .next f l=>
  split at hl
  .next js a=>
   cases hl
   obtain⟨cs,rfl,hx⟩:=hx
   exact bu.one ⟨cs,rfl,zgO hx a⟩
  .cases hl
 .cases hl
theorem tE{W:Wd}{D:au}{Q:Qs}(τ:Ty):∀{c:List Value} {l:List Lf} {r:List Value},jx τ c=some (l,r)->∃c1,c=c1++r/\bu (W.x D) Q l c1:=by
 induction τ with
 |int k=>
  intro c l r h
  simp only[jx]at h
  unfold zI at h
  split at h
  .split at h
   .next hk=>cases h;subst hk;exact⟨[_],rfl,bu.one rfl⟩
   .cases h
  .cases h
 |bool=>
  intro c l r h
  simp only[jx]at h
  unfold zB at h
  split at h<;>cases h
  exact⟨[_],rfl,bu.one rfl⟩
 |rat=>
  intro c l r h
  simp only[jx]at h
  unfold zR at h
  split at h<;>cases h
  exact⟨[_,_,_,_],rfl,bu.one (x:=.rat 0) BC⟩
 |sl t w τ g=>
  intro c l r h
  simp only[jx]at h
  unfold zS at h
  split at h<;>cases h
  exact⟨[_],rfl,bu.one rfl⟩
 |one a g=>intro c l r h;simp only[jx]at h;exact g h
 |pair a b d f=>
  intro c l r h
  simp only[jx]at h
  split at h
  .next x r1 hx=>
   obtain⟨c1,rfl,h1⟩:=d hx
   split at h
   .next y r2 j=>
    cases h
    obtain⟨i,rfl,h2⟩:=f j
    exact⟨c1++i,(bF ..).symm,h1.append h2⟩
   .cases h
  .cases h
 |tup a b=>intro c l r h;simp only[jx]at h;cases h
 |tup3 a b c=>intro c l r h;simp only[jx]at h;cases h
theorem jY{τ:Ty}{c:List Value}{l:List Lf}(h:gK τ c=some l):bu (W.x D) Q l c:=by
 unfold gK at h
 split at h
 .next l' hl=>
  cases h
  obtain⟨c1,rfl,h1⟩:=tE (D:=D) (W:=W) (Q:=Q) τ hl
  rw[bP];exact h1
 .cases h
theorem KG{τ:Ty}:∀{n:Nat} {l:List Lf} {c:List Value} {xs:List τ.T},bu (W.x D) Q l c->WV τ n l=some xs->∃Y:List (List Value),Y.flatten=c/\Y.length=n/\xs.length=n/\(∀y∈Y,y.length=τ.sz)/\∀(k:Nat) x,xs[k]? = some x->ax (W.x D) τ (Y.getD k []) x
 |0,[],c,xs,h,a=>by cases a;exact⟨[],(show c=[]from h).symm,rfl,rfl,(λ_ h=>nomatch h),λk x h=>by simp at h⟩
 |0,_::_,c,xs,h,a=>by simp only[WV]at a;cases a
 |n+1,l,c,xs,h,a=>by
  simp only[WV]at a
  split at a
  .next x l' hx=>
   split at a
   .next ys f=>
    cases a
    obtain⟨c1,c2,rfl,h1,h2⟩:=zgL τ h hx
    obtain⟨Y,e1,e2,g,i,j⟩:=KG h2 f
    refine⟨c1::Y,by rw[cT,e1],by rw[aU,e2],by rw[aU,g],λy d=>?_,λk z b=>?_⟩
    .rcases aJ.mp d with rfl|d
     .exact ax.len h1
     .exact i y d
    .cases k with
     |zero=>simp only[eM,bH]at b;subst b;exact h1
     |succ k=>simp only[cR]at b;exact j k z b
   .cases a
  .cases a
theorem QZ{place:Nat->Option (Nat×Nat)}(a:∀x p,e.ev C x=some p->cL W Q p (zd F x)):∀{parts:List (Nat×Operand)} {l r:List Lf} {c:List Value},bu W Q l c->Jw C e place parts l=some r->∃c',qH place (zd F) parts c=some c'/\bu W Q r c'
 | [],l,r,c,h,hf=>by cases hf;exact⟨c,rfl,h⟩
 |(i,x)::ps,l,r,c,h,hf=>by
  unfold Jw at hf
  split at hf
  .next off size v hp hv=>
   split at hf
   .next l' d=>
    have b:=Zc (a _ _ hv) d
    split at hf
    .next c1 hw f=>
     obtain⟨c2,h1,h2⟩:=h.put b f
     obtain⟨g,j,m⟩:=QZ a h2 hf
     refine⟨g,?_,m⟩
     simp only[qH,hp,yf,bM,b.len,hw,h1]
     exact j
    .cases hf
   .cases hf
  .cases hf
theorem zhF(a:∀x p,e.ev C x=some p->cL W Q p (zd F x)):∀{l:List Operand} {ls:List Lf},SA C e l=some ls->bu W Q ls (qv (zd F) l)
 | [],ls,h=>by cases h;rfl
 |x::r,ls,h=>by
  unfold SA at h
  split at h
  .next y l b hl=>
   cases h
   exact⟨[zd F x],qv (zd F) r,rfl,a _ _ b,zhF a hl⟩
  .cases h
theorem lT{a b o:Nat}{l x y:List Value}(h:y8 a (xr o l)=some x)(g:y8 b (xr (o+a) l)=some y):y8 (a+b) (xr o l)=some (x++y):=by
 rw[y7,yR]at h g |-
 split at h
 .next h1=>
  cases h
  split at g
  .next h2=>
   cases g
   rw[bZ]at h1 h2
   rw[aG (by rw[bZ];omega),List.take_add,List.drop_drop]
  .cases g
 .cases h
theorem AJ{t:TypeId}{x:Operand}{a:Pv}(hs:L6 (W.x D) Q C e F s)(hb:∀p,zd F x=.pointer (some p)->p.block<s.next->s'.get p.block=s.get p.block)(ha:cL (W.x D) Q a (zd F x))(h:pq C e t a k=some r) :
 ∃p v,uI Tryz.prog t (zd F x) s'=.ok (.value v) s'/\cL (W.x D) Q p v/\k p=some r:=by
 unfold pq at h
 split at h
 .next j off=>
  obtain⟨q,P,hx⟩:=ha
  simp only[List.cons.injEq,fA]at hx
  split at h
  .next l ho=>
   obtain⟨p,hp,h⟩:=yN h
   obtain⟨q',c,Y,u,E,hc,hl⟩:=hs.cel _ _ ho
   rw[P]at u;cases u
   have hg:=hb _ hx E
   obtain⟨v,h1,h2⟩:=VK hl hp
   refine⟨p,v,?_,h2,h⟩
   simp only[uI,wc,hx,hg,hc,h1];rfl
  .cases h
 .next t' w τ y off=>
  obtain⟨b,o,n,cap,L,T,M,hk,I,hx⟩:=ha
  simp only[List.cons.injEq,fA]at hx
  obtain⟨p,hp,h⟩:=yN h
  have G:=hs.kn.s _ _ _ _ M
  cases G with
  |nil c hv hl=>cases hv
  |block b' off' H c hv f z hcap hc=>
   cases hv
   obtain⟨v,h1,h2⟩:=VK (vE (Q:=Q) I) hp
   refine⟨p,v,?_,h2,h⟩
   have d:=hc T hk
   have hg:=hb _ hx z
   have key:jv (z3 Tryz.prog t) (o+T*w+off) c=some v:=by
    unfold jv at h1 |-
    split at h1
    .exact W3 d h1
    .next X=>
     split at h1
     .next V B=>
      cases h1
      rw[zai d B]
     .cases h1
    .cases h1
   simp only[uI,wc,hx,hg,f,key];rfl
 .next j w i off=>
  obtain⟨q,P,hx⟩:=ha
  simp only[List.cons.injEq,fA]at hx
  split at h
  .next t' w' τ l ho=>
   split at h
   .next hw=>
    obtain rfl:=aK hw
    obtain⟨y,S,h⟩:=zT h
    obtain⟨p,hp,h⟩:=yN h
    obtain⟨q',a,cap,u,hv,hl⟩:=hs.lst _ _ _ _ _ ho
    rw[P]at u;cases u
    obtain⟨N,O,g⟩:=kz S
    obtain⟨c,Y,L,ea,E,f,d,I⟩:=hl _ _ g
    have hg:=hb _ hx E
    obtain⟨v,h1,h2⟩:=VK (vE (Q:=Q) I) hp
    refine⟨p,v,?_,h2,h⟩
    have key:jv (z3 Tryz.prog t) (i.toNat*w'+off) c=some v:=by
     unfold jv at h1 |-
     split at h1
     .exact W3 d h1
     .next X=>
      split at h1
      .next V B=>
       cases h1
       rw[zai d B]
      .cases h1
     .cases h1
    simp only[uI,wc,hx,hg,f,key];rfl
   .cases h
  .cases h
 .next t' w τ l=>
  obtain⟨b,o,n,cap,L,hx,M,hn,I⟩:=ha
  simp only[List.cons.injEq,fA]at hx
  split at h
  .next m R=>
   split at h
   .next A=>
    simp only[aF]at A
    have hm:=aK A.1
    have hw:=aK A.2
    have G:=hs.kn.s _ _ _ _ M
    cases G with
    |nil c hv hl=>cases hv
    |block b' off' H c hv f z hcap hc=>
     cases hv
     have hg:=hb _ hx z
     have key:∀(n i:Nat) (r:ρ) (k:List Lf->Option ρ),R0 l n i k=some r->∃ls cs,y8 (n*w) (xr (o+i*w) c)=some cs/\bu (W.x D) Q ls cs/\k ls=some r:=by
      intro n
      induction n with
      |zero=>intro i r k h;exact⟨[],[],by rw[eF];rfl,rfl,h⟩
      |succ n U=>
       intro i r k h
       simp only[R0]at h
       obtain⟨y,S,h⟩:=zT h
       obtain⟨N,O,g⟩:=kz S
       simp only[Int.toNat_natCast]at g
       obtain⟨ls,cs,g1,g2,K⟩:=U _ _ _ h
       have hil:i<l.length:=(aM.mp g).1
       have d:=hc i Oz
       have J:=I _ _ g
       refine⟨Zo τ y++ls,_,?_,(vE J).append g2,K⟩
       rw[dM,eG,Nat.add_comm (n*w) w]
       refine lT d ?_
       rw[show o+i*w+w=o+(i+1)*w by rw[dM,eG,Nat.add_assoc]]
       exact g1
     obtain⟨ls,cs,g1,g2,K⟩:=key _ _ _ _ h
     rw[hm,eF,bM]at g1
     refine⟨.agg ls,.agg ⟨cs⟩,?_,⟨cs,rfl,g2⟩,K⟩
     simp only[uI,wc,hx,hg,f,R,jv,g1];rfl
   .cases h
  .cases h
 .cases h
theorem zaW{t:TypeId}{f:Nat}{a p:Pv}{v:Value}(ha:cL W Q a v)(h:ZW t f a=some p)(s:St):∃u,ju Tryz.prog t v f s=.ok (.value u) s/\cL W Q p u:=by
 unfold ZW at h
 split at h
 .next j off n ho=>
  cases h
  obtain⟨q,c,hx⟩:=ha
  simp only[List.cons.injEq,fA]at hx
  subst hx
  exact⟨_,by simp only[ju,ho];rfl,q,c,by simp only[Nat.add_assoc]⟩
 .next t' w τ x off n ho=>
  cases h
  obtain⟨b,o,m,cap,L,l,g,hk,d,hx⟩:=ha
  simp only[List.cons.injEq,fA]at hx
  subst hx
  exact⟨_,by simp only[ju,ho];rfl,b,o,m,cap,L,l,g,hk,d,by simp only[Nat.add_assoc]⟩
 .next j w i off n ho=>
  cases h
  obtain⟨q,c,hx⟩:=ha
  simp only[List.cons.injEq,fA]at hx
  subst hx
  exact⟨_,by simp only[ju,ho];rfl,q,c,by simp only[Nat.add_assoc]⟩
 .cases h
end
end Go.Proofs.YtocnbjjmmgolfaaGreat
