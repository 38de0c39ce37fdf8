/- The evaluator: what writes, calls, loops, functions. -/
import Derived.Test.YtocnbjjmmgolfaaGreatA13
set_option linter.unusedSimpArgs false
set_option linter.unusedVariables false
set_option linter.unusedSectionVars false
namespace Go.Proofs.YtocnbjjmmgolfaaGreat
open Go Go.M Go.Proofs.C14
inductive LS
 |hole|own (k:Nat)|ptr (j off:Nat)|nil|lst
inductive Src
 |s (t:Nat)|o (j i:Nat)
structure OwnS where
 src:Src
 t:Nat
 w:Nat
 e:Ty
structure Hi where
 frz:List Nat
 cst:List Nat
 vars:List (Nat×Bool×List LS)
 objs:List (Nat×List LS)
 own:List OwnS
 ts:List Ty
 fuel:Nat
 un:Bool:=false
def lsK(b:Nat)(srcs:List (Option Nat)):LS→Lf→Option (List Lf)
 | .hole,l=>some [l]
 | .own k,.own j=>match zF srcs k with
  |some (some i)=>match Nat.beq i j with
   |true=>some []
   |false=>none
  |_=>none
 | .own k,.nil=>match zF srcs k with
  |some none=>some []
  |_=>none
 | .ptr j off,.ptr a off'=>match Nat.beq a j&&Nat.beq off' off&&Nat.blt j b with
  |true=>some []
  |false=>none
 | .nil,.nil=>some []
 |_,_=>none
def ZN(c:Nat)(srcs:List (Option Nat)):List LS→List Lf→Option (List Lf)
 | [],[]=>some []
 |x::r,y::s=>match lsK c srcs x y,ZN c srcs r s with
  |some a,some b=>some (a++b)
  |_,_=>none
 |_,_=>none
def zfS(c:Nat)(C:Cx)(e:En)(srcs:List (Option Nat)):List (Nat×Bool×List LS)→Option (List Lf)
 | []=>some []
 |(t,g,f)::r=>match e.get C t with
  |some p=>match unQ p with
   |some (d,l)=>match d==g,ZN c srcs f l,zfS c C e srcs r with
    |true,some a,some b=>some (a++b)
    |_,_,_=>none
   |none=>none
  |none=>none
def objK1(b:Nat)(srcs:List (Option Nat))(a:List LS):Ob→Option (List Lf)
 | .cells l=>ZN b srcs a l
 | .list t w τ l=>match a with
  | [.lst]=>some [.sl t w τ l]
  |_=>none
 |_=>none
def zgp(c:Nat)(e:En)(srcs:List (Option Nat)):List (Nat×List LS)→Option (List Lf)
 | []=>some []
 |(j,d)::r=>match zF e.objs j with
  |some o=>match objK1 c srcs d o,zgp c e srcs r with
   |some a,some b=>some (a++b)
   |_,_=>none
  |none=>none
def zcb(e:En):List OwnS→List (Option Nat)→Option (List Lf)
 | [],[]=>some []
 |o::r,j::s=>match j with
  |none=>match Nat.beq o.e.sz o.w,zcb e r s with
   |true,some b=>some (.sl o.t o.w o.e []::b)
   |_,_=>none
  |some j=>match zF e.objs j,zcb e r s with
   |some (.list t w τ l),some b=>some (.sl t w τ l::b)
   |_,_=>none
 |_,_=>none
def srcLf(C:Cx)(e:En):Src→Option Lf
 | .s t=>match e.get C t with
  |some (.one l)=>some l
  |_=>none
 | .o j i=>match zF e.objs j with
  |some (.cells l)=>zF l i
  |_=>none
def srcsK(C:Cx)(e:En):List OwnS→Option (List (Option Nat))
 | []=>some []
 |o::r=>match srcLf C e o.src,srcsK C e r with
  |some (.own j),some b=>some (some j::b)
  |some .nil,some b=>some (none::b)
  |_,_=>none
def rdL:(ts:List Ty)→List Lf→Option (Tp ts)
 | [],[]=>some ()
 | [a],[x]=>ve a [x]
 |a::b::ts,x::l=>match ve a [x],rdL (b::ts) l with
  |some v,some w=>some (v,w)
  |_,_=>none
 |_,_=>none
def mkL:(ts:List Ty)→Tp ts→List Lf
 | [],_=>[]
 | [a],x=>Zp a x
 |a::b::ts,x=>Zp a x.1++mkL (b::ts) x.2
def Xs(a:Nat):LS→List Lf→Lf×List Lf
 | .hole,x::l=>(x,l)
 | .hole,[]=>(.nil,[])
 | .own k,l=>(.own (a+k),l)
 | .ptr j off,l=>(.ptr j off,l)
 | .nil,l=>(.nil,l)
 | .lst,l=>(.nil,l)
def kV(a:Nat):List LS→List Lf→List Lf×List Lf
 | [],l=>([],l)
 |x::r,l=>((Xs a x l).1::(kV a r (Xs a x l).2).1,(kV a r (Xs a x l).2).2)
def Vp(a:Nat):List (Nat×Bool×List LS)→List Lf→List (Nat×Pv)×List Lf
 | [],l=>([],l)
 |(t,g,b)::r,l=>((t,pvQ (g,(kV a b l).1))::(Vp a r (kV a b l).2).1,(Vp a r (kV a b l).2).2)
def um(b:Nat)(a:List LS)(l:List Lf):Ob×List Lf:=match a with
 | [.lst]=>match l with
  | .sl t w e x::r=>(.list t w e x,r)
  |_=>(.dead,l)
 |_=>(.cells (kV b a l).1,(kV b a l).2)
def X5(a:Nat):List (Nat×List LS)→List Ob→List Lf→List Ob×List Lf
 | [],o,l=>(o,l)
 |(j,b)::r,o,l=>X5 a r (zE o j (um a b l).1) (um a b l).2
def X4:List OwnS→List Lf→List Ob
 |o::r,.sl t w e l::s=>.list t w e l::X4 r s
 |_::r,_::s=>.dead::X4 r s
 |_,_=>[]
def K4(n:Nat):List (Option Nat)→Bool
 | []=>false
 |some m::l=>Nat.beq m n||K4 n l
 |none::l=>K4 n l
def ZL:List (Option Nat)→Bool
 | []=>true
 |some m::l=> !K4 m l&&ZL l
 |none::l=>ZL l
def zcw{α:Type}(n:Nat)(l:List (Nat×α)):Bool:=match find l n with
 |some _=>true
 |none=>false
def Zr(h:Hi)(srcs:List (Option Nat)):List Ob→Nat→List Ob
 | [],_=>[]
 |o::l,i=>(match zcw i h.objs with
  |true=>.dead
  |false=>match K4 i srcs with
   |true=>.dead
   |false=>match o with
    | .dead=>.dead
    |_=>.const)::Zr h srcs l (i+1)
def kM:Ob→Bool
 | .const=>true
 |_=>false
def XP:List Ob→List Ob→Bool
 | [],_=>true
 |p::r,o::s=>(!kM p||kM o)&&XP r s
 |p::r,[]=> !kM p&&XP r []
def mkE(h:Hi)(c:Nat)(skel:List Ob)(x:Tp h.ts):En:=
 let a:=Vp c h.vars (mkL h.ts x)
 let b:=X5 c h.objs skel a.2
 {slots:=a.1,objs:=b.1++X4 h.own b.2}
def W3(n:Nat):List (Option Nat)→Bool
 | []=>true
 |some j::r=>Nat.ble n j&&W3 n r
 |none::r=>W3 n r
def objN(srcs:List (Option Nat)):List (Nat×List LS)→Bool
 | []=>true
 |(j,_)::r=> !K4 j srcs&&objN srcs r
def zgr(h:Hi)(d lent:Nat)(C:Cx)(e:En)(srcs:List (Option Nat)):Option (Tp h.ts):=match zfS d C e srcs h.vars,zgp d e srcs h.objs,zcb e h.own srcs with
 |some a,some b,some c=>match ZL srcs&&W3 lent srcs&&objN srcs h.objs with
  |true=>rdL h.ts (a++(b++c))
  |false=>none
 |_,_,_=>none
def srcB(skel:List Ob):List (Option Nat)→Bool
 | []=>true
 |some j::r=>(match zF skel j with
  |some .const=>false
  |_=>true)&&srcB skel r
 |none::r=>srcB skel r
def XC(C:Cx)(e:En):List Nat→List (Nat×Pv)
 | []=>[]
 |t::r=>match find e.slots t with
  |some p=>(t,p)::XC C e r
  |none=>XC C e r
def gG:List Ob→List Ob→List Ob
 | .const::r,c::s=>c::gG r s
 |o::r,_::s=>o::gG r s
 |r,[]=>r
 | [],_=>[]
def unO:List Ob→List Ob→List Ob
 |o::r,c::s=>(match c with
  | .const=>o
  |c=>c)::unO r s
 | [],c::s=>(match c with
  | .const=>.dead
  |c=>c)::unO [] s
 |_,[]=>[]
def En.leave(cst:List (Nat×Pv))(objs:List Ob)(e:En):En:={slots:=e.slots++cst,objs:=unO objs e.objs}
def frzS(C:Cx)(e:En):List Nat→Option En
 | []=>some e
 |t::r=>match e.get C t with
  |some p=>match e.frzP C [p]with
   |some e=>frzS C e r
   |none=>none
  |none=>none
def vM(l:List Int):Nat→List Int
 |0=>[]
 |p+1=>if p=0 then [l.getD 0 0]else if l.getD p 0=l.getD (p-1) 0 then vM l p else vM l p++[l.getD p 0]
def cpZ(l:List Int):Option (List Int):=if 0<l.length∧l.length≤65536 then some (vM l l.length)else none
noncomputable def zi(n:Nat):Nat:=Classical.choose (⟨n,rfl⟩:∃m,m=n)
theorem zC(n:Nat):zi n=n:=Classical.choose_spec (⟨n,rfl⟩:∃m,m=n)
def backK(h:Hi)(C:Cx)(skel:List Ob)(e:En):Option (Tp h.ts):=match frzS C e h.frz with
 |some e=>match srcsK C e h.own with
  |some srcs=>match XP skel e.objs&&srcB skel srcs with
   |true=>zgr h C.n C.lent C e srcs
   |false=>none
  |none=>none
 |none=>none
section
variable{ρ:Type}
noncomputable def loopK(h:Hi)(C:Cx)(e:En)(B:Cx→(En→En)→(En→Option ρ)→En→Option ρ):Option ρ:=match frzS C e h.frz with
 |some e=>match srcsK C e h.own with
  |some srcs=>
   let a:=yD e.objs 0
   let skel:=Zr h srcs e.objs 0
   let cst:=XC C e h.cst
   let b:Cx:={slots:=cst++C.slots,objs:=gG e.objs C.objs,n:=a,lent:=C.lent}
   match zgr h a C.lent C e srcs with
   |some x=>zj (fun again x=>B b (En.leave cst e.objs) (fun c=>match backK h b skel c with
    |some y=>again y
    |none=>none) (mkE h a skel x)) (zi h.fuel) x
   |none=>none
  |none=>none
 |none=>none
end
def wH:List Ob→List Ob→Bool
 |o::r,p::s=>(!kM p||kM o)&&wH r s
 | [],p::s=> !kM p&&wH [] s
 |_,[]=>true
section
variable(Γ:TypeId→Option Ty)(T:FuncId→Option Con)(Hs:FuncId→List Hi){ρ:Type}
abbrev Inl(ρ:Type):=FuncId→List Ob→Nat→List Pv→List Ob→(Pv→List Ob→Option ρ)→Option ρ
variable(inl:Inl ρ)(rc:Nat)(C:Cx)
def zcU{α:Type}(l:List α)(a b:Int):Option (List α):=if 0≤a∧a<l.length∧b=a+1 then some (l.eraseIdx a.toNat)else none
def En.frzAs(e:En)(j:Nat)(r:List Int)(k:En→Pv→Option ρ):Option ρ:=k (e.setO j .dead) (.one (.sl 3 1 (.int .i64) r))
def aslB(p:Pv)(lo hi:Option Operand):Bool:=match p,lo,hi with
 | .one (.ptr _ _),none,none=>true
 |_,_,_=>false
def lendB(g:FuncId)(ps:List Pv):Bool:=Nat.beq g 50&&ps.any fun p=>match p with
 | .one (.own _)=>true
 |_=>false
def maskP:(τ:Ty)→τ.T→Option Pv
 | .tup (.sl _ _ _) .bool,x=>some (.tup [(false,[.unk]),(false,[.bool x.2])])
 |_,_=>none
noncomputable def callK(st:Bool)(e:En)(d:Option Nat)(g:FuncId)(ops:List Operand)(caps:List Lf)(k:En→Option ρ):Option ρ:=match e.evs C ops with
 |some ps=>match T g with
  |some con=>match caps,e.frzP C ps,(st||Nat.ble con.room rc)&&con.res.okT with
   | [],some e1,true=>match e1.evs C ops with
    |some ps1=>match rdP con.ar ps1 with
     |some x=>(con.fn x).bind fun r=>match lendB g ps with
      |true=>kO (maskP con.res r) fun p=>e.set C d p k
      |false=>e1.set C d (toP con.res r) k
     |none=>none
    |none=>none
   |_,_,_=>none
  |none=>match Nat.beq g 108 with
   |true=>match ps,caps with
    | [.one (.int .u64 a)],[]=>if 0≤a∧a≤12 then e.set C d .any k else none
    |_,_=>none
   |false=>match Nat.beq g 307 with
    |true=>match ps,caps with
     | [.one (.own j),.one (.int .i64 a),.one (.int .i64 b)],[]=>match zF e.objs j,Nat.ble C.lent j with
      |some (.list 3 1 (.int .i64) l),true=>(zcU l a b).bind fun r=>e.frzAs j r fun e v=>e.set C d v k
      |_,_=>none
     |_,_=>none
    |false=>match Nat.beq g 78 with
     |true=>match ps,caps with
      | [.one (.own j)],[]=>match zF e.objs j,Nat.ble C.lent j with
       |some (.list 3 1 (.int .i64) l),true=>(cpZ l).bind fun r=>e.frzAs j r fun e v=>e.set C d v k
       |_,_=>none
      |_,_=>none
     |false=>inl g (gG e.objs C.objs) C.lent (ps++caps.map .one) e.objs fun v o=>match wH e.objs o with
      |true=>En.set C {e with objs:=o} d v k
      |false=>none
 |none=>none
noncomputable def zdp(e:En)(d:Option Nat)(t:TypeId)(x y:Pv)(k:En→Option ρ):Option ρ:=match elK Γ t with
 |some (a,sz,τ,_)=>match y with
  | .one (.own i)=>match zF e.objs i with
   |some (.list t' w' τ' m)=>if h:t'=a∧w'=sz∧τ'=τ then match m with
    | []=>none
    |_::_=>match Nat.ble C.lent i with
     |false=>none
     |true=>match x with
      | .one .nil=>(app [] (wZ h.2.2 m)).bind fun r=>En.new C (e.setO i .dead) d (.list a sz τ r) .own k
      | .one (.own j)=>match Nat.beq j i || !Nat.ble C.lent j,zF e.objs j with
       |false,some (.list t2 b τ2 l)=>if h2:t2=a∧b=sz∧τ2=τ then(app (wZ h2.2.2 l) (wZ h.2.2 m)).bind fun r=>En.new C ((e.setO i .dead).setO j .dead) d (.list a sz τ r) .own k
        else none
       |_,_=>none
      |_=>none
    else none
   |_=>none
  | .one (.sl t' w' τ' m)=>if h:t'=a∧w'=sz∧τ'=τ then match x with
   | .one (.own j)=>match Nat.ble C.lent j&&Nat.ble 1 sz,zF e.objs j with
    |true,some (.list t2 b τ2 l)=>if h2:t2=a∧b=sz∧τ2=τ then(app (wZ h2.2.2 l) (wZ h.2.2 m)).bind fun r=>En.new C (e.setO j .dead) d (.list a sz τ r) .own k
     else none
    |_,_=>none
   |_=>none
   else none
  |_=>none
 |none=>none
def sndL:List (Nat×Operand)→List Operand
 | []=>[]
 |(_,x)::r=>x::sndL r
def bndK(e:En)(i:Int):Option Operand→Option Int
 |none=>some i
 |some x=>match e.ev C x with
  |some (.one (.int _ i))=>some i
  |_=>none
def zfun:List Value→Option (List Lf)
 | [.nilFunc]=>some [.nilf]
 |_=>none
def zallK(τ:Option Ty)(c:List Value):Option (List Lf):=match τ with
 |some τ=>gN τ c
 |none=>zfun c
noncomputable def v5(e:En)(d:Option Nat)(o:Op)(k:En→Option ρ):Option ρ:=match o with
 | .store t x v=>match e.ev C x,e.ev C v with
  |some (.one (.ptr j off)),some v=>match zF e.objs j,jD v with
   |some (.cells c),some l=>match zbU c off l,qZ Tryz.prog t with
    |some c',some n=>match Nat.beq (wid l) n&&Nat.ble C.lent j with
     |true=>En.set C (e.setO j (.cells c')) d Pv.undef k
     |false=>none
    |_,_=>none
   |_,_=>none
  |some (.one (.op j w i off)),some v=>match zF e.objs j,jD v with
   |some (.list t' w' τ m),some l=>match qZ Tryz.prog t,Nat.beq w' w&&Nat.ble C.lent j with
    |some n,true=>(idx m i).bind fun x=>match zbU (Zp τ x) off l,Nat.beq (wid l) n with
     |some c',true=>match ve τ c' with
      |some y=>En.set C (e.setO j (.list t' w' τ (zE m i.toNat y))) d Pv.undef k
      |none=>none
     |_,_=>none
    |_,_=>none
   |_,_=>none
  |_,_=>none
 | .box _ x=>match e.ev C x with
  |some v=>match jD v with
   |some l=>En.new C e d (.cells l) (.ptr · 0) k
   |none=>none
  |none=>none
 | .alloc t=>match jn Tryz.prog t with
  |some c=>match zallK (Γ t) c with
   |some l=>En.new C e d (.cells l) (.ptr · 0) k
   |none=>none
  |_=>none
 | .buildSlice t n parts=>match elK Γ t,e.evs C (sndL parts.toList)with
  |some (h,sz,τ,z),some ps=>match e.frzP C ps with
   |some e=>match Nat.ble (n*sz) 16777216,Je C e (fun i=>some (i*sz,sz)) parts.toList (repLf z n)with
    |true,some c=>match WH τ n c with
     |some l=>En.new C e d (.list h sz τ l) .own k
     |none=>none
    |_,_=>none
   |none=>none
  |_,_=>none
 | .makeSlice t l c=>match elK Γ t,e.ev C l,e.ev C c with
  |some (h,sz,τ,z),some (.one (.int .i64 a)),some (.one (.int .i64 b))=>match ve τ z with
   |some y=>if 0≤a∧a=b∧a≤65536 then En.new C e d (.list h sz τ (List.replicate a.toNat y)) .own k else none
   |none=>none
  |_,_,_=>none
 | .slice t x lo hi none=>match e.ev C x with
  |some p=>match aslB p lo hi with
   |true=>kO (aslK t p) fun v=>e.set C d v k
   |false=>match e.frzP C [p]with
    |some e=>match e.ev C x,Tryz.prog.underlying t with
     |some (.one (.sl t' w τ l)),some (.slice h)=>match bndK C e 0 lo,bndK C e l.length hi,Tryz.prog.info? h with
      |some a,some b,some inf=>match Nat.beq inf.size w&&Nat.beq t' h with
       |true=>(xK l a b).bind fun r=>e.set C d (.one (.sl t' w τ r)) k
       |false=>none
      |_,_,_=>none
     |_,_=>none
    |none=>none
  |none=>none
 | .slice t x none (some hi) (some mx)=>match e.ev C x,e.ev C hi,e.ev C mx,Tryz.prog.underlying t with
  |some (.one (.sl t' w τ l)),some (.one (.int .i64 a)),some (.one (.int .i64 b)),some (.slice h)=>match Tryz.prog.info? h with
   |some inf=>match Nat.beq inf.size w&&Nat.beq t' h with
    |true=>if a=b then(xK l 0 a).bind fun r=>e.set C d (.one (.sl t' w τ r)) k else none
    |false=>none
   |none=>none
  |_,_,_,_=>none
 | .call c=>match c.callee with
  | .value f=>match e.ev C f with
   |some (.one (.fn g))=>match xH Tryz.prog g && !Nat.ble zu g with
    |true=>callK T inl rc C (match f with | .func _=>true|_=>false) e d g c.args.toList [] k
    |false=>none
   |some (.clo g caps)=>match (xH Tryz.prog g && !Nat.ble zu g)&&(caps.all fun x=>Nat.beq x.w 1)with
    |true=>callK T inl rc C false e d g c.args.toList caps k
    |false=>none
   |some (.one (.cl g js))=>match xH Tryz.prog g && !Nat.ble zu g with
    |true=>callK T inl rc C false e d g c.args.toList (js.map (.ptr · 0)) k
    |false=>none
   |some (.one (.yl j))=>match e.evs C c.args.toList,e.obj C j with
    |some ps,some (.loop _ _ pars _ _ .ready none)=>match Nat.beq (yD ps 0) (yD pars 0)with
     |true=>inl (zu+j) (gG e.objs C.objs) C.lent ps e.objs fun v o=>match wH e.objs o with
      |true=>En.set C {e with objs:=o} d v k
      |false=>none
     |false=>none
    |_,_=>none
   |_=>none
  | .builtin .append=>match c.argTypes.toList,c.args.toList with
   |t::t2::_,[x,y]=>match Tryz.prog.underlying t2,e.ev C x,e.ev C y with
    |some (.slice _),some x,some y=>zdp Γ C e d t x y k
    |_,_,_=>none
   |_,_=>none
  | .builtin .copy=>match c.argTypes.toList,c.args.toList with
   |t::_,[x,y]=>match e.ev C x,e.ev C y,Tryz.prog.underlying t with
    |some (.one (.own j)),some (.one (.sl t' w τ l2)),some (.slice h)=>match zF e.objs j,Nat.ble C.lent j&&Nat.ble 1 w,Tryz.prog.info? h with
     |some (.list t2 q τ2 l),true,some inf=>if t2=t'∧q=w∧τ2=τ∧inf.size=w then(if l.length=l2.length∧0<l2.length then En.set C (e.setO j (.list t' w τ l2)) d (.one (.int .i64 l2.length)) k else none)else none
     |_,_,_=>none
    |_,_,_=>none
   |_,_=>none
  | .builtin .min=>match c.args.toList with
   | [x,y]=>match e.ev C x,e.ev C y with
    |some (.one (.int .i64 a)),some (.one (.int .i64 b))=>e.set C d (.one (.int .i64 (min a b))) k
    |_,_=>none
   |_=>none
  | .builtin .max=>match c.args.toList with
   | [x,y]=>match e.ev C x,e.ev C y with
    |some (.one (.int .i64 a)),some (.one (.int .i64 b))=>e.set C d (.one (.int .i64 (max a b))) k
    |_,_=>none
   |_=>none
  |_=>KF Γ C e o fun v=>e.set C d v k
 |_=>KF Γ C e o fun v=>e.set C d v k
def zfQ(ops:List Oper)(e:En)(o:Oper)(run skip:En→Option ρ):Option ρ:=match o.guard with
 |none=>run e
 |some (j,w)=>match zF ops j with
  |some q=>match q.dst with
   |some d=>match e.get C d with
    |some (.one (.bool b))=>if b=true then(match w with
     |true=>run (e.mark (.tmp d) true)
     |false=>skip (e.mark (.tmp d) true))
     else(match w with
      |true=>skip (e.mark (.tmp d) false)
      |false=>run (e.mark (.tmp d) false))
    |some .undef=>skip e
    |_=>none
   |none=>skip e
  |none=>skip e
noncomputable def opsK(ops:List Oper):List Oper→En→(En→Option ρ)→Option ρ
 | [],e,k=>k e
 |o::r,e,k=>zfQ C ops e o (fun e=>v5 Γ T inl rc C e o.dst o.op fun e=>opsK ops r e k) fun e=>e.set C o.dst Pv.undef fun e=>opsK ops r e k
def plainL:Lf→Bool
 | .op _ _ _ _ | .sp _ _ _ _ | .asl _ _ | .unk=>false
 |_=>true
def plainP:Pv→Bool
 | .one l=>plainL l
 | .any=>false
 |_=>true
def KH(e:En):Option Pv→Bool
 |some (.one (.ptr j _))=>match e.obj C j with
  |some (.cells _)=>true
  |_=>false
 |some (.one (.own j))=>match e.obj C j with
  |some (.list _ _ _ _)=>true
  |_=>false
 |some p=>plainP p
 |none=>false
def opB:Option Pv→Bool
 |some (.one (.op _ _ _ _))=>true
 |_=>false
def YK{ρ:Type}(ops:List Oper)(e:En):List Nat→(Unit→Option ρ)→Option ρ
 | [],k=>k ()
 |i::r,k=>match zF ops i with
  |some o=>match o.op with
   | .load _ x=>match e.ev C x with
    |some (.one (.op j _ n _))=>match e.obj C j with
     |some (.list _ _ _ l)=>(idx l n).bind fun _=>YK ops e r k
     |_=>none
    |_=>YK ops e r k
   |_=>YK ops e r k
  |none=>YK ops e r k
def Vk(ops:List Oper)(e:En):List Nat→Bool
 | []=>true
 |i::r=>(match zF ops i with
  |some o=>match o.op with
   | .load _ x=>opB (e.ev C x)||KH C e (e.ev C x)
   | .slice _ x _ _ none=>KH C e (e.ev C x)
   | .alloc _ | .buildSlice _ _ _=>match o.dst with
    |some t=>KH C e (e.get C t)
    |none=>true
   |_=>true
  |none=>true)&&Vk ops e r
def zcJ(ops:List Oper)(e:En)(j:Nat):List Nat→Bool
 | []=>true
 |i::r=>(match zF ops i with
  |some o=>match o.op with
   | .load _ x=>match e.ev C x with
    |some (.one (.ptr i _))=> !Nat.beq i j
    |some (.one (.op i _ _ _))=> !Nat.beq i j
    |_=>true
   | .slice _ x _ _ none=>match e.ev C x with
    |some (.one (.ptr i _))=> !Nat.beq i j
    |some (.one (.own i))=> !Nat.beq i j
    |_=>true
   | .alloc _ | .buildSlice _ _ _=>match o.dst with
    |some t=>match e.get C t with
     |some (.one (.ptr i _))=> !Nat.beq i j
     |some (.one (.own i))=> !Nat.beq i j
     |_=>true
    |none=>true
   |_=>true
  |none=>true)&&zcJ ops e j r
def apOK(ops:List Oper)(e:En)(fr:List Nat):Op→Bool
 | .call c=>match c.callee,c.args.toList with
  | .builtin .append,[x,_]=>match e.ev C x with
   |some (.one (.own j))=>match zF e.objs j with
    |some (.list _ _ _ _)=>zcJ C ops e j fr&&Nat.ble C.lent j
    |_=>false
   |some (.one .nil)=>true
   |_=>false
  |_,_=>false
 |_=>false
def stOK(ops:List Oper)(e:En)(fr:List Nat):Op→Bool
 | .store _ x _=>match e.ev C x with
  |some (.one (.ptr j _))=>zcJ C ops e j fr
  |_=>false
 |_=>false
def cpOp(e:En):Op→Bool
 | .call c=>match c.callee,c.args.toList with
  | .builtin .append,[x,y]=>match e.ev C x,e.ev C y with
   |some (.one (.own j)),some (.one (.sl _ _ _ _))=>match zF e.objs j with
    |some (.list _ _ _ [])=>true
    |_=>false
   |_,_=>false
  |_,_=>false
 |_=>false
def newOp:Op→Bool
 | .box _ _ | .alloc _ | .buildSlice _ _ _=>true
 |_=>false
def bsOp:Op→Bool
 | .buildSlice _ _ _=>true
 |_=>false
def alOp:Op→Bool
 | .alloc _=>true
 |_=>false
def zec:Op→Bool
 | .slice _ _ _ _ none=>true
 |_=>false
def zgU(o:Op):Bool:=match o with
 | .call c=>match c.callee with
  | .value (.func g)=>(T g).isSome
  |_=>false
 |_=>false
def inOp:Op→Bool
 | .call c=>match c.callee with
  | .value _=>true
  |_=>false
 |_=>false
def Wm:List Ob→List Ob
 | []=>[]
 | .dead::r=>.dead::Wm r
 |_::r=>.const::Wm r
def uI:Nat→List Ob→List Ob
 |0,l=>l
 |_+1,[]=>[]
 |n+1,_::l=>uI n l
def noC:List Ob→Bool
 | []=>true
 |o::l=> !kM o&&noC l
noncomputable def inlD(e:En)(d:Option Nat)(o:Op)(k:En→Option ρ):Option ρ:=match o with
 | .call c=>match c.callee with
  | .value f=>match e.ev C f,e.evs C c.args.toList with
   |some (.clo g caps),some ps=>match (xH Tryz.prog g && !Nat.ble zu g)&&(caps.all fun x=>Nat.beq x.w 1)with
    |true=>inl g (gG e.objs C.objs) (yD e.objs 0) (ps++caps.map .one) (Wm e.objs) fun v o=>match noC (uI (yD e.objs 0) o)with
     |true=>En.set C {e with objs:=e.objs++uI (yD e.objs 0) o} d v k
     |false=>none
    |false=>none
   |some (.one (.fn g)),some ps=>match (xH Tryz.prog g && !Nat.ble zu g)&&(T g).isNone with
    |true=>inl g (gG e.objs C.objs) (yD e.objs 0) ps (Wm e.objs) fun v o=>match noC (uI (yD e.objs 0) o)with
     |true=>En.set C {e with objs:=e.objs++uI (yD e.objs 0) o} d v k
     |false=>none
    |false=>none
   |_,_=>none
  |_=>none
 |_=>none
structure Apd where
 t:TypeId
 x:Operand
 hi:Operand
 x2:Operand
 lo:Operand
 a:Nat
 b:Nat
 d:Option Nat
def apdP(ops:List Oper)(o:Oper):List Drawn→Option Apd
 |g::c::_=>match o.op,o.dst with
  | .slice t x none (some hi) none,some a=>match zF ops g.ix,zF ops c.ix with
   |some d,some e=>match d.op,d.dst,d.guard,g.how with
    | .slice t2 x2 (some lo) none none,some b,none,.fresh=>match e.op,e.guard,c.how,c.free with
     | .call ⟨.builtin .append,ag,ts⟩,none,.whole,[]=>match ag.toList,ts.toList with
      | [.tmp a',.tmp b'],t'::f::_=>match Nat.beq a a'&&Nat.beq b b' && !Nat.beq a b&&Nat.beq t t'&&Nat.beq t t2&&Nat.beq t f with
       |true=>some ⟨t,x,hi,x2,lo,a,b,e.dst⟩
       |false=>none
      |_,_=>none
     |_,_,_,_=>none
    |_,_,_,_=>none
   |_,_=>none
  |_,_=>none
 |_=>none
def cutZ{α:Type}(l:List α)(i n:Int):Option (List α):=if 0≤i∧i<n∧n≤l.length then some (l.take i.toNat++l.drop n.toNat)else none
noncomputable def apdK(e:En)(p:Apd)(k:En→Option ρ):Option ρ:=match elK Γ p.t,e.ev C p.x,e.ev C p.hi with
 |some (c,sz,_,_),some (.one (.own j)),some (.one (.int .i64 i))=>match zF e.objs j,Nat.ble C.lent j with
  |some (.list t' w' τ' l),true=>match Nat.beq t' c&&Nat.beq w' sz with
   |true=>e.set C (some p.a) .any fun e=>match e.ev C p.x2,e.ev C p.lo with
    |some (.one (.own f)),some (.one (.int .i64 n))=>match Nat.beq j f with
     |true=>e.set C (some p.b) .any fun e=>(cutZ l i n).bind fun r=>(e.setO j .dead).set C p.d (.one (.sl t' w' τ' r)) k
     |false=>none
    |_,_=>none
   |false=>none
  |_,_=>none
 |_,_,_=>none
def cvOp:Op→Bool
 | .convert _ _ _=>true
 |_=>false
noncomputable def wG(ops:List Oper):List Drawn→En→(En→Option ρ)→Option ρ
 | [],e,k=>k e
 |d::r,e,k=>match zF ops d.ix with
  |some o=>zfQ C ops e o (fun e=>match d.how with
   | .light=>match zec o.op with
    |true=>v5 Γ T inl rc C e o.dst o.op fun e=>wG ops r e k
    |false=>KF Γ C e o.op fun v=>e.set C o.dst v fun e=>wG ops r e k
   | .whole=>match d.free with
    | []=>v5 Γ T inl rc C e o.dst o.op fun e=>wG ops r e k
    |_=>match Vk C ops e d.free&&(newOp o.op||zec o.op||zgU T o.op||stOK C ops e d.free o.op||apOK C ops e d.free o.op)with
     |true=>YK C ops e d.free fun _=>v5 Γ T inl rc C e o.dst o.op fun e=>wG ops r e k
     |false=>match Vk C ops e d.free&&inOp o.op with
      |true=>YK C ops e d.free fun _=>inlD T inl C e o.dst o.op fun e=>wG ops r e k
      |false=>none
   | .fresh=>match apdP ops o r with
    |some p=>match r with
     |_::_::r2=>apdK Γ C e p fun e=>wG ops r2 e k
     |_=>none
    |none=>match newOp o.op||zec o.op||zgU T o.op||cpOp C e o.op with
     |true=>v5 Γ T inl rc C e o.dst o.op fun e=>wG ops r e k
     |false=>match inOp o.op with
      |true=>inlD T inl C e o.dst o.op fun e=>wG ops r e k
      |false=>match cvOp o.op with
       |true=>KF Γ C e o.op fun v=>e.set C o.dst v fun e=>wG ops r e k
       |false=>none
   | .new=>match (bsOp o.op||alOp o.op)&&o.dst.isSome with
    |true=>v5 Γ T inl rc C e o.dst o.op fun e=>wG ops r e k
    |false=>none) fun e=>e.set C o.dst Pv.undef fun e=>wG ops r e k
  |none=>none
def nlK:Code→Nat
 | .seq a b=>nlK a+nlK b
 | .cond _ a b=>nlK a+nlK b
 | .block _ b=>nlK b
 | .loop b=>nlK b+1
 | .scope b=>nlK b
 |_=>0
def outK(w:En→En):List (Nat×(En→Option ρ))→List (Nat×(En→Option ρ))
 | []=>[]
 |(i,k)::r=>(i,fun e=>k (w e))::outK w r
variable(N:Nat)
noncomputable def qV:Code→Cx→List Hi→List (Nat×(En→Option ρ))→(En→Option ρ)→(En→Option ρ)→En→Option ρ
 | .skip,_,_,_,_,k,e=>k e
 | .label _,_,_,_,_,k,e=>k e
 | .seq a b,C,hs,j,d,k,e=>qV a C hs j d (qV b C (hs.drop (nlK a)) j d k) e
 | .cond c a b,C,hs,j,d,k,e=>match e.ev C c with
  |some (.one (.bool x))=>if x=true then qV a C hs j d k (e.mark c true)else qV b C (hs.drop (nlK a)) j d k (e.mark c false)
  |_=>none
 | .block i b,C,hs,j,d,k,e=>qV b C hs ((i,k)::j) d k e
 | .exit i,_,_,j,_,_,e=>match find j i with
  |some k=>k e
  |none=>none
 | .ret,_,_,_,d,_,e=>d e
 | .scope b,C,hs,j,d,k,e=>qV b C hs j d k e
 | .region _ ops false,C,_,_,_,k,e=>opsK Γ T inl rc C ops.toList ops.toList e k
 | .region _ ops true,C,_,_,_,k,e=>match Zt ops.toList (plan ops.toList)with
  |true=>wG Γ T inl rc C ops.toList (plan ops.toList) e k
  |false=>none
 | .loop b,C,hs,j,d,_,e=>match hs with
  |h::hs=>match h.un with
   |true=>zj (fun again e=>qV b C hs j d again e) h.fuel e
   |false=>loopK h C e fun C w again e=>qV b C hs (outK w j) (fun e=>d (w e)) again e
  | []=>none
 | .rangeFunc f ps x y,C,_,j,d,k,e=>match e.ev C f with
  |some (.clo g caps)=>match ((xH Tryz.prog g && !Nat.ble zu g)&&(caps.all fun x=>Nat.beq x.w 1))&&((Nat.ble N 65534&&Yt N f)&&(q7 N x&&q7 N y))&&(xT x&&xT y&&kB x&&kB y)with
   |true=>inl g (gG (e.objs++[.loop N (e.slots++C.slots) ps.toList x y .ready none]) C.objs) C.lent (.one (.yl (yD e.objs 0))::caps.map .one) (e.objs++[.loop N (e.slots++C.slots) ps.toList x y .ready none]) fun _ o=>match zF o (yD e.objs 0),wH (e.objs++[.loop N (e.slots++C.slots) ps.toList x y .ready none]) o with
    |some (.loop _ _ _ _ _ .ready none),true=>k {e with objs:=zE o (yD e.objs 0) .dead}
    |some (.loop _ _ _ _ _ .done (some .ret)),true=>d {e with objs:=zE o (yD e.objs 0) .dead}
    |_,_=>none
   |false=>none
  |_=>none
 |_,_,_,_,_,_,_=>none
def qQ(rc:Nat):Op→Nat
 | .box _ _ | .alloc _ | .buildSlice _ _ _ | .makeSlice _ _ _=>1
 | .call c=>match c.callee with
  | .builtin _=>1
  | .value (.func g)=>match T g with
   |some con=>con.room
   |none=>rc
  |_=>rc
 |_=>0
def zbI(rc:Nat):List Oper→Nat
 | []=>0
 |o::r=>qQ T rc o.op+zbI rc r
def XQ(rc:Nat)(ops:List Oper):List Drawn→Nat
 | []=>0
 |d::r=>(match zF ops d.ix with
  |some o=>qQ T rc o.op
  |none=>0)+XQ rc ops r
def xV(rc:Nat):Code→List Hi→Nat
 | .seq a b,hs=>xV rc a hs+xV rc b (hs.drop (nlK a))
 | .cond _ a b,hs=>xV rc a hs+xV rc b (hs.drop (nlK a))
 | .block _ b,hs=>xV rc b hs
 | .scope b,hs=>xV rc b hs
 | .loop b,hs=>match hs with
  |h::hs=>h.fuel*xV rc b hs
  | []=>0
 | .region _ ops false,_=>zbI T rc ops.toList
 | .region _ ops true,_=>XQ T rc ops.toList (plan ops.toList)
 | .rangeFunc _ _ _ _,_=>rc+1
 |_,_=>0
noncomputable def resK(C:Cx)(e:En):List ResultVar→Option (List Pv)
 | []=>some []
 | .tmp t::r=>match e.get C t,resK C e r with
  |some p,some l=>some (p::l)
  |_,_=>none
 | .cell t ty::r=>match e.get C t,resK C e r with
  |some (.one (.ptr j off)),some l=>match e.obj C j with
   |some (.cells c)=>match zfd (zV Tryz.prog ty) off c with
    |some p=>some (p::l)
    |none=>none
   |_=>none
  |_,_=>none
def unQs:List Pv→Option (List (Bool×List Lf))
 | []=>some []
 |p::r=>match unQ p,unQs r with
  |some q,some l=>some (q::l)
  |_,_=>none
noncomputable def endK(C:Cx)(rs:List ResultVar)(e:En)(k:Pv→List Ob→Option ρ):Option ρ:=match resK C e rs with
 |some [p]=>k p e.objs
 |some l=>match unQs l with
  |some q=>k (.tup q) e.objs
  |none=>none
 |none=>none
def numS{α:Type}:Nat→List α→List (Nat×α)
 |_,[]=>[]
 |n,x::l=>(n,x)::numS (n+1) l
def hdN:List Nat→Nat
 | []=>0
 |n::_=>n
def putPs:List Nat→List Pv→List (Nat×Pv)→List (Nat×Pv)
 |t::ts,p::ps,l=>putPs ts ps (putS l t p)
 |_,_,l=>l
noncomputable def rndS(rc rc1:Nat)(inl:Inl ρ)(j:Nat)(a:List Ob)(lent:Nat)(args:List Pv)(objs:List Ob)(k:Pv→List Ob→Option ρ):Option ρ:=match En.obj {slots:=[],objs:=a,n:=yD objs 0,lent:=lent} {slots:=[],objs:=objs} j,zF objs j with
 |some (.loop N slots ps x y .ready none),some old=>match Nat.beq (yD args 0) (yD ps 0)&&Nat.ble lent j&&Nat.ble (xV T rc1 x []+xV T rc1 y []) rc with
  |true=>qV Γ T inl rc1 N x {slots:=[],objs:=a,n:=yD objs 0,lent:=lent} [] [] (fun _=>none) (fun e=>qV Γ T inl rc1 N y {slots:=[],objs:=a,n:=yD objs 0,lent:=lent} [] []
   (fun e=>k (.one (.bool false)) (zE e.objs j (.loop N [] ps x y .done (some .ret)))) (fun e=>k (.one (.bool true)) (zE e.objs j old)) e) {slots:=putPs ps args slots,objs:=zE objs j .dead}
  |false=>none
 |_,_=>none
noncomputable def funS(rc rc1:Nat)(inl:Inl ρ):Inl ρ:=fun g a lent args objs k=>match Nat.ble zu g with
 |true=>rndS Γ T rc rc1 inl (g-zu) a lent args objs k
 |false=>match Tryz.prog.funcs[g]? with
  |some fn=>match fn.body with
   |some c=>match vG fn c (yD args 0) && !Nat.ble zu g&&Nat.ble (xV T rc1 c (Hs g)) rc with
    |true=>qV Γ T inl rc1 fn.ntmps c {slots:=[],objs:=a,n:=yD objs 0,lent:=lent} (Hs g) [] (fun e=>endK {slots:=[],objs:=a,n:=yD objs 0,lent:=lent} fn.results.toList e k) (fun e=>endK {slots:=[],objs:=a,n:=yD objs 0,lent:=lent} fn.results.toList e k) {slots:=numS 0 args,objs:=objs}
    |false=>none
   |none=>none
  |none=>none
noncomputable def zcI:List Nat→Inl ρ
 | []=>fun _ _ _ _ _ _=>none
 |rc::rs=>funS Γ T Hs rc (hdN rs) (zcI rs)
end
noncomputable def outP(τ:Ty)(p:Pv)(o:List Ob):Option τ.T:=match (En.mk [(0,p)] o).frzP ⟨[],[],0,0⟩ [p]with
 |some ⟨[(_,p)],_⟩=>KA τ p
 |_=>none
noncomputable def zK(Γ:TypeId→Option Ty)(T:FuncId→Option Con)(Hs:FuncId→List Hi)(rs:List Nat)(g:FuncId)(ar:List Ty)(τ:Ty)(x:Tp ar):Option τ.T:=
 zcI Γ T Hs rs g [] 0 (toPs ar x) [] (outP τ)
abbrev Qs:=List (Value×Nat)
def JsR(Q:Qs):List Nat→List Value→Prop
 | [],c=>c=[]
 |j::r,c=>∃q c',Q[j]? = some q∧c=.pointer (some ⟨q.2,0,none⟩)::c'∧JsR Q r c'
def LfR(W:Wd)(Q:Qs):Lf→List Value→Prop
 | .int k x,c=>c=[.int k x]
 | .bool b,c=>c=[.bool b]
 | .rat q,c=>Rep W .rat c q
 | .sl t w e l,c=>Rep W (.sl t w e) c l
 | .nil,c=>c=[.slice none 0 0]
 | .nilf,c=>c=[.nilFunc]
 | .own j,c=>∃q,Q[j]? = some q∧c=[q.1]∧∃a n k,q.1=.slice a n k
 | .ptr j off,c=>∃q,Q[j]? = some q∧c=[.pointer (some ⟨q.2,off,none⟩)]
 | .ep t w e x off,c=>∃b o n cap L k,W.S t w (.slice (some ⟨b,o,none⟩) n cap) L∧k<L.length∧Rep W e (L.getD k []) x∧c=[.pointer (some ⟨b,o+k*w+off,none⟩)]
 | .op j w i off,c=>∃q,Q[j]? = some q∧c=[.pointer (some ⟨q.2,i.toNat*w+off,none⟩)]
 | .fn f,c=>c=[.func (.func f) #[] #[]]
 | .nilp,c=>c=[.pointer none]
 | .cl f js,c=>∃cs,c=[.func (.func f) ⟨[]⟩ ⟨cs⟩]∧JsR Q js cs
 | .yl j,c=>∃q,Q[j]? = some q∧c=[.func (.yield q.2) ⟨[]⟩ ⟨[]⟩]
 | .sp t w e l,c=>∃b o n cap L,c=[.pointer (some ⟨b,o,none⟩)]∧W.S t w (.slice (some ⟨b,o,none⟩) n cap) L∧L.length=l.length∧∀k x,l[k]? = some x→Rep W e (L.getD k []) x
 | .asl j n,c=>∃q,Q[j]? = some q∧c=[.slice (some ⟨q.2,0,none⟩) n (2*n)]
 | .unk,c=>∃v,c=[v]∧Go.M.plainCell v=true
def LsR(W:Wd)(Q:Qs):List Lf→List Value→Prop
 | [],c=>c=[]
 |x::l,c=>∃c1 a,c=c1++a∧LfR W Q x c1∧LsR W Q l a
def QR(W:Wd)(Q:Qs)(p:Bool×List Lf)(v:Value):Prop:=match p.1 with
 |true=>∃c,v=.agg ⟨c⟩∧LsR W Q p.2 c
 |false=>∃x,p.2=[x]∧LfR W Q x [v]
def TsR(W:Wd)(Q:Qs):List (Bool×List Lf)→List Value→Prop
 | [],vs=>vs=[]
 |p::l,vs=>∃v r,vs=v::r∧QR W Q p v∧TsR W Q l r
def PvR(W:Wd)(Q:Qs):Pv→Value→Prop
 | .undef,v=>v=undef
 | .any,_=>True
 | .one x,v=>LfR W Q x [v]
 | .agg l,v=>∃c,v=.agg ⟨c⟩∧LsR W Q l c
 | .tup l,v=>∃vs,v=.tuple ⟨vs⟩∧TsR W Q l vs
 | .clo f l,v=>∃cs,v=.func (.func f) ⟨[]⟩ ⟨cs⟩∧LsR W Q l cs
def QLe(Q Q':Qs):Prop:=∀(i:Nat) (q:Value×Nat),Q[i]? = some q→Q'[i]? = some q
theorem QLe.rfl{Q:Qs}:QLe Q Q:=fun _ _ h=>h
theorem QLe.app{Q A:Qs}:QLe Q (Q++A):=fun i q h=>by
 rw[bY (aM.mp h).1];exact h
theorem QLe.take{Q:Qs}{n:Nat}:QLe (Q.take n) Q:=fun i q h=>by
 rw[List.getElem?_take]at h
 split at h
 ·exact h
 ·cases h
theorem QLe.trans{Q Q' a:Qs}(h:QLe Q Q')(g:QLe Q' a):QLe Q a:=fun i q x=>g i q (h i q x)
theorem JsR.mono{Q Q':Qs}(a:QLe Q Q'):∀{js:List Nat} {c:List Value},JsR Q js c→JsR Q' js c
 | [],_,h=>h
 |_::_,_,⟨q,c',h1,h2,b⟩=>⟨q,c',a _ _ h1,h2,b.mono a⟩
section
variable{W W':Wd}{Q Q':Qs}
theorem LfR.mono(d:WLe W W')(a:QLe Q Q'){x:Lf}{c:List Value}(h:LfR W Q x c):LfR W' Q' x c:=by
 cases x with
 |int|bool|nil|nilf|nilp|fn|unk=>exact h
 |cl f js=>obtain⟨cs,e,h⟩:=h;exact⟨cs,e,h.mono a⟩
 |yl j=>obtain⟨q,h1,h2⟩:=h;exact⟨q,a _ _ h1,h2⟩
 |asl j n=>obtain⟨q,h1,h2⟩:=h;exact⟨q,a _ _ h1,h2⟩
 |sp t w e l=>obtain⟨b,o,n,cap,L,e1,h1,h2,g⟩:=h;exact⟨b,o,n,cap,L,e1,d.s _ _ _ _ h1,h2,fun k x hx=>Rep.mono d (g k x hx)⟩
 |rat q=>exact Rep.mono d (τ:=.rat) h
 |sl t w e l=>exact Rep.mono d (τ:=.sl t w e) h
 |own j=>obtain⟨q,h1,h2⟩:=h;exact⟨q,a _ _ h1,h2⟩
 |ptr j off=>obtain⟨q,h1,h2⟩:=h;exact⟨q,a _ _ h1,h2⟩
 |op j w i off=>obtain⟨q,h1,h2⟩:=h;exact⟨q,a _ _ h1,h2⟩
 |ep t w e x off=>obtain⟨b,o,n,cap,L,k,h1,h2,g,m⟩:=h;exact⟨b,o,n,cap,L,k,d.s _ _ _ _ h1,h2,Rep.mono d g,m⟩
theorem LsR.mono(d:WLe W W')(b:QLe Q Q'){l:List Lf}{c:List Value}(h:LsR W Q l c):LsR W' Q' l c:=by
 induction l generalizing c with
 |nil=>exact h
 |cons x l f=>obtain⟨c1,a,e,h1,h2⟩:=h;exact⟨c1,a,e,h1.mono d b,f h2⟩
theorem QR.mono(d:WLe W W')(a:QLe Q Q'){p:Bool×List Lf}{v:Value}(h:QR W Q p v):QR W' Q' p v:=by
 obtain⟨b,l⟩:=p
 cases b with
 |true=>obtain⟨c,e,h⟩:=h;exact⟨c,e,h.mono d a⟩
 |false=>obtain⟨x,e,h⟩:=h;exact⟨x,e,h.mono d a⟩
theorem TsR.mono(d:WLe W W')(b:QLe Q Q'){l:List (Bool×List Lf)}{c:List Value}(h:TsR W Q l c):TsR W' Q' l c:=by
 induction l generalizing c with
 |nil=>exact h
 |cons x l f=>obtain⟨c1,a,e,h1,h2⟩:=h;exact⟨c1,a,e,h1.mono d b,f h2⟩
theorem PvR.mono(b:WLe W W')(a:QLe Q Q'){p:Pv}{v:Value}(h:PvR W Q p v):PvR W' Q' p v:=by
 cases p with
 |undef=>exact h
 |any=>trivial
 |one x=>exact LfR.mono b a h
 |agg l=>obtain⟨c,e,h⟩:=h;exact⟨c,e,h.mono b a⟩
 |tup l=>obtain⟨c,e,h⟩:=h;exact⟨c,e,h.mono b a⟩
 |clo f l=>obtain⟨c,e,h⟩:=h;exact⟨c,e,h.mono b a⟩
theorem LfR.len{x:Lf}{c:List Value}(h:LfR W Q x c):c.length=x.w:=by
 cases x with
 |unk=>obtain⟨v,rfl,_⟩:=h;rfl
 |int|bool|nil|nilf|nilp|fn=>rw[show c=_ from h];rfl
 |cl f js=>obtain⟨cs,rfl,h⟩:=h;rfl
 |yl j=>obtain⟨q,h1,rfl⟩:=h;rfl
 |asl j n=>obtain⟨q,h1,rfl⟩:=h;rfl
 |sp t w e l=>obtain⟨b,o,n,cap,L,rfl,h⟩:=h;rfl
 |rat q=>exact Rep.len (τ:=.rat) h
 |sl t w e l=>exact Rep.len (τ:=.sl t w e) h
 |own j=>obtain⟨q,h1,rfl,_⟩:=h;rfl
 |ptr j off=>obtain⟨q,h1,rfl⟩:=h;rfl
 |op j w i off=>obtain⟨q,h1,rfl⟩:=h;rfl
 |ep t w e x off=>obtain⟨b,o,n,cap,L,k,h1,h2,h3,rfl⟩:=h;rfl
theorem LsR.len{l:List Lf}{c:List Value}(h:LsR W Q l c):c.length=wid l:=by
 induction l generalizing c with
 |nil=>rw[show c=[]from h];rfl
 |cons x l a=>obtain⟨c1,c2,rfl,h1,h2⟩:=h;rw[aQ,h1.len,a h2];rfl
theorem LfR.plain{x:Lf}{c:List Value}(h:LfR W Q x c):c.all Go.M.plainCell=true:=by
 cases x with
 |unk=>obtain⟨v,rfl,h⟩:=h;simpa using h
 |int|bool|nil|nilf|nilp|fn=>rw[show c=_ from h];rfl
 |cl f js=>obtain⟨cs,rfl,h⟩:=h;rfl
 |yl j=>obtain⟨q,h1,rfl⟩:=h;rfl
 |asl j n=>obtain⟨q,h1,rfl⟩:=h;rfl
 |sp t w e l=>obtain⟨b,o,n,cap,L,rfl,h⟩:=h;rfl
 |rat q=>exact Rep.plain (τ:=.rat) h
 |sl t w e l=>exact Rep.plain (τ:=.sl t w e) h
 |own j=>
  obtain⟨q,h1,rfl,a,n,k,h2⟩:=h
  rw[h2];rfl
 |ptr j off=>obtain⟨q,h1,rfl⟩:=h;rfl
 |op j w i off=>obtain⟨q,h1,rfl⟩:=h;rfl
 |ep t w e x off=>obtain⟨b,o,n,cap,L,k,h1,h2,h3,rfl⟩:=h;rfl
theorem LsR.plain{l:List Lf}{c:List Value}(h:LsR W Q l c):c.all Go.M.plainCell=true:=by
 induction l generalizing c with
 |nil=>rw[show c=[]from h];rfl
 |cons x l a=>obtain⟨c1,c2,rfl,h1,h2⟩:=h;rw[List.all_append,h1.plain,a h2];rfl
theorem LsR.append{l a:List Lf}{c c':List Value}(h:LsR W Q l c)(d:LsR W Q a c'):LsR W Q (l++a) (c++c'):=by
 induction l generalizing c with
 |nil=>rw[show c=[]from h];exact d
 |cons x l e=>obtain⟨c1,b,rfl,h1,h2⟩:=h;exact⟨c1,b++c',bD ..,h1,e h2⟩
theorem LsR.one{x:Lf}{c:List Value}(h:LfR W Q x c):LsR W Q [x] c:=⟨c,[],(bM _).symm,h,rfl⟩
theorem LsR.one'{x:Lf}{c:List Value}(h:LsR W Q [x] c):LfR W Q x c:=by
 obtain⟨c1,a,rfl,h1,h2⟩:=h
 rw[show a=[]from h2,bM];exact h1
theorem LsR.skip{l r:List Lf}{n:Nat}{c:List Value}(h:LsR W Q l c)(hs:Wz l n=some r):LsR W Q r (c.drop n)∧n≤c.length:=by
 induction l generalizing c n with
 |nil=>
  cases n with
  |zero=>cases hs;exact⟨h,cJ _⟩
  |succ n=>cases hs
 |cons x l a=>
  cases n with
  |zero=>cases hs;exact⟨h,cJ _⟩
  |succ n=>
   obtain⟨c1,c2,rfl,h1,h2⟩:=h
   simp only[Wz]at hs
   split at hs
   ·next hb=>
    have hb:=aR hb
    have hl:=h1.len
    obtain⟨g1,g2⟩:=a h2 hs
    rw[List.drop_append,hl,List.drop_eq_nil_of_le Oz,cI]
    exact⟨g1,by rw[aQ];omega⟩
   ·cases hs
theorem LsR.grab{l r:List Lf}{n:Nat}{c:List Value}(h:LsR W Q l c)(hs:zgJ l n=some r):LsR W Q r (c.take n)∧n≤c.length:=by
 induction l generalizing c n r with
 |nil=>
  cases n with
  |zero=>cases hs;exact⟨rfl,cJ _⟩
  |succ n=>cases hs
 |cons x l b=>
  cases n with
  |zero=>cases hs;exact⟨rfl,cJ _⟩
  |succ n=>
   obtain⟨c1,c2,rfl,h1,h2⟩:=h
   simp only[zgJ]at hs
   split at hs
   ·next hb=>
    have hb:=aR hb
    have hl:=h1.len
    split at hs
    ·next r' a=>
     cases hs
     obtain⟨g1,g2⟩:=b h2 a
     rw[List.take_append,hl,dC Oz]
     exact⟨⟨c1,_,rfl,h1,g1⟩,by rw[aQ];omega⟩
    ·cases hs
   ·cases hs
theorem lput_eq:∀(n:Nat) (vs c:List Value),n+vs.length≤c.length→yO n vs c=some (c.take n++(vs++c.drop (n+vs.length))):=by
 have lover_eq:∀(vs c:List Value),vs.length≤c.length→xO vs c=some (vs++c.drop vs.length):=by
  intro vs
  induction vs with
  |nil=>intro c _;rfl
  |cons v vs a=>
   intro c hc
   cases c with
   |nil=>simp at hc
   |cons x c=>simp only[xO,a c (by simpa using hc)];rfl
 intro n
 induction n with
 |zero=>intro vs c h;simp only[yO];rw[lover_eq vs c Oz];simp
 |succ n a=>
  intro vs c h
  cases c with
  |nil=>simp at h
  |cons x c=>
   simp only[yO]
   rw[a vs c (by simp only[aW]at h;omega)]
   simp only[List.take_succ_cons,bV,show n+1+vs.length=n+vs.length+1 by omega,fA]
theorem LsR.put{l r new:List Lf}{n:Nat}{c vs:List Value}(h:LsR W Q l c)(hv:LsR W Q new vs)(hs:zbU l n new=some r):∃c',yO n vs c=some c'∧LsR W Q r c':=by
 suffices d:n+vs.length≤c.length∧LsR W Q r (c.take n++(vs++c.drop (n+vs.length)))from⟨_,lput_eq _ _ _ d.1,d.2⟩
 have b:=hv.len
 induction l generalizing c n r with
 |nil=>
  cases n with
  |zero=>
   simp only[zbU]at hs
   split at hs
   ·next e a=>
    cases hs
    obtain⟨g1,g2⟩:=h.skip a
    rw[←b]at g1 g2
    refine⟨by omega,?_⟩
    rw[cA,List.take_zero,cI]
    exact hv.append g1
   ·cases hs
  |succ n=>cases hs
 |cons x l f=>
  cases n with
  |zero=>
   simp only[zbU]at hs
   split at hs
   ·next e a=>
    cases hs
    obtain⟨g1,g2⟩:=h.skip a
    rw[←b]at g1 g2
    refine⟨by omega,?_⟩
    rw[cA,List.take_zero,cI]
    exact hv.append g1
   ·cases hs
  |succ n=>
   obtain⟨c1,c2,rfl,h1,h2⟩:=h
   simp only[zbU]at hs
   split at hs
   ·next hb=>
    have hb:=aR hb
    have hl:=h1.len
    split at hs
    ·next e a=>
     cases hs
     obtain⟨g1,g2⟩:=f h2 a
     refine⟨by rw[aQ];omega,?_⟩
     rw[List.take_append,hl,dC Oz,List.drop_append,hl,List.drop_eq_nil_of_le (by omega:c1.length≤n+1+vs.length),cI,bD]
     refine⟨c1,_,rfl,h1,?_⟩
     rw[show n+1+vs.length-x.w=n+1-x.w+vs.length by omega]
     exact g2
    ·cases hs
   ·cases hs
theorem VB{sh:Option (Option Nat)}{off:Nat}{l:List Lf}{c:List Value}{p:Pv}(h:LsR W Q l c)(hc:zfd sh off l=some p):∃v,jk sh off c=some v∧PvR W Q p v:=by
 unfold zfd at hc
 split at hc
 ·split at hc
  ·next x r hs=>
   obtain⟨g1,g2⟩:=h.skip hs
   obtain⟨c1,c2,e,h1,h2⟩:=g1
   split at hc
   ·next d=>
    cases hc
    have hl:=h1.len
    rw[d]at hl
    obtain⟨v,rfl⟩:=List.length_eq_one_iff.mp hl
    refine⟨v,?_,h1⟩
    simp only[jk,zJ]
    have:(c.drop off)[0]? = some v:=by rw[e];rfl
    rw[dX]at this
    exact this
   ·cases hc
  ·cases hc
 ·next n=>
  split at hc
  ·next r hs=>
   split at hc
   ·next g hg=>
    cases hc
    obtain⟨g1,g2⟩:=h.skip hs
    obtain⟨a,b⟩:=g1.grab hg
    refine⟨.agg ⟨(c.drop off).take n⟩,?_,⟨_,rfl,a⟩⟩
    simp only[jk,y7,yU,aF b]
   ·cases hc
  ·cases hc
 ·cases hc
theorem vA:{τ:Ty}→{c:List Value}→{x:τ.T}→Rep W τ c x→LsR W Q (Zp τ x) c
 | .int k,_,_,h=>LsR.one h
 | .bool,_,_,h=>LsR.one h
 | .rat,_,_,h=>LsR.one h
 | .sl t w e,_,_,h=>LsR.one h
 | .one a,_,_,h=>vA (τ:=a) h
 | .pair a b,_,_,⟨c1,c2,e,h1,h2⟩=>e▸(vA h1).append (vA h2)
 | .tup _ _,_,_,h=>h.elim
 | .tup3 _ _ _,_,_,h=>h.elim
theorem nil_sl{t w:Nat}{e:Ty}{D:Hp'}{W:Wd}:Rep (W.x D) (.sl t w e) [.slice none 0 0] ([]:List e.T):=sl0
theorem castL_rep{t w:Nat}{e a:Ty}(h:a=e){l:List a.T}{c:List Value}(hl:Rep W (.sl t w a) c l):Rep W (.sl t w e) c (wZ h l):=by subst h;exact hl
end
theorem zgg{W:Wd}{D:Hp'}{Q:Qs}(τ:Ty):∀{l r:List Lf} {c:List Value} {x:τ.T},LsR (W.x D) Q l c→qh τ l=some (x,r)→∃c1 f,c=c1++f∧Rep (W.x D) τ c1 x∧LsR (W.x D) Q r f:=by
 induction τ with
 |int k=>
  intro l r c x h d
  cases l with
  |nil=>simp only[qh]at d;cases d
  |cons y l=>
   cases y with
   |int k' z=>
    simp only[qh]at d
    split at d
    ·next hk=>cases d;subst hk;obtain⟨c1,f,e,h1,h2⟩:=h;exact⟨c1,f,e,h1,h2⟩
    ·cases d
   |_=>simp only[qh]at d;cases d
 |bool=>
  intro l r c x h d
  cases l with
  |nil=>simp only[qh]at d;cases d
  |cons y l=>
   cases y with
   |bool z=>simp only[qh]at d;cases d;obtain⟨c1,f,e,h1,h2⟩:=h;exact⟨c1,f,e,h1,h2⟩
   |_=>simp only[qh]at d;cases d
 |rat=>
  intro l r c x h d
  cases l with
  |nil=>simp only[qh]at d;cases d
  |cons y l=>
   cases y with
   |rat z=>simp only[qh]at d;cases d;obtain⟨c1,f,e,h1,h2⟩:=h;exact⟨c1,f,e,h1,h2⟩
   |_=>simp only[qh]at d;cases d
 |sl t w τ i=>
  intro l r c x h d
  cases l with
  |nil=>simp only[qh]at d;cases d
  |cons y l=>
   cases y with
   |sl t' w' τ' z=>
    simp only[qh]at d
    split at d
    ·next hk=>
     obtain⟨c1,f,e,h1,h2⟩:=h
     simp only[bF,Prod.mk.injEq]at d
     obtain⟨rfl,rfl⟩:=d
     obtain⟨rfl,rfl,he⟩:=hk
     exact⟨c1,f,e,castL_rep he h1,h2⟩
    ·cases d
   |nil=>
    simp only[qh]at d
    cases d
    obtain⟨c1,f,e,h1,h2⟩:=h
    exact⟨c1,f,e,by rw[show c1=_ from h1];exact nil_sl,h2⟩
   |_=>simp only[qh]at d;cases d
 |one a i=>intro l r c x h d;simp only[qh]at d;exact i h d
 |pair a b iha ihb=>
  intro l r c x h d
  simp only[qh]at d
  split at d
  ·next y r1 o=>
   obtain⟨c1,f,rfl,h1,h2⟩:=iha h o
   split at d
   ·next z r2 p=>
    cases d
    obtain⟨g,j,rfl,m,n⟩:=ihb h2 p
    exact⟨c1++g,j,(bD ..).symm,⟨c1,g,rfl,h1,m⟩,n⟩
   ·cases d
  ·cases d
 |tup a b=>intro l r c x h d;cases l<;>(try rename_i y _;cases y)<;>(simp only[qh]at d;cases d)
 |tup3 a b c=>intro l r c x h d;cases l<;>(try rename_i y _;cases y)<;>(simp only[qh]at d;cases d)
theorem yR{α ρ:Type}{o:Option α}{k:α→Option ρ}{r:ρ}(h:kO o k=some r):∃x,o=some x∧k x=some r:=by
 cases o with
 |none=>cases h
 |some x=>exact⟨x,rfl,h⟩
theorem zP{α ρ:Type}{o:Option α}{k:α→Option ρ}{r:ρ}(h:o.bind k=some r):∃x,o=some x∧k x=some r:=by
 cases o with
 |none=>cases h
 |some x=>exact⟨x,rfl,h⟩
structure See(W:Wd)(Q:Qs)(C:Cx)(e:En)(F:FF)(s:St):Prop where
 ev:∀x p,e.ev C x=some p→PvR W Q p (zd F x)
 cel:∀j l,e.obj C j=some (.cells l)→∃q c t,Q[j]? = some q∧q.2<s.next∧s.get q.2=some (.cells c t)∧LsR W Q l c
 lst:∀j t w τ l,e.obj C j=some (.list t w τ l)→∃q a cap,Q[j]? = some q∧q.1=.slice a l.length cap∧∀(k:Nat) (x:τ.T),l[k]? = some x→∃c tt L,a=some ⟨q.2,0,none⟩∧q.2<s.next∧s.get q.2=some (.cells c tt)∧y8 w (xw (k*w) c)=some L∧Rep W τ L x
 kn:Knw s W
section
variable{W:Wd}{D:Hp'}{Q:Qs}{C:Cx}{e:En}{F:FF}{s s':St}{ρ:Type}{r:ρ}{k:Pv→Option ρ}
theorem cmp_ok{o:BinOp}{a b:Int}{c:Bool}(h:cmpZ o a b=some c):yW o a b=some (.bool c):=by
 unfold cmpZ at h
 split at h<;>cases h
 ·simp only[yW,qd];congr 2;rw[←decide_not];exact decide_eq_decide.mpr Oz
 ·simp only[yW,qd]
 ·simp only[yW,qd];congr 2;rw[←decide_not];exact decide_eq_decide.mpr Oz
 ·simp only[yW,qd]
 ·simp only[yW,q6]
 ·simp only[yW,q6];congr 2;rw[←decide_not]
theorem zfV{x z:Int}(h:uZ x=some z):z=x∧InU x:=by
 unfold uZ at h
 split at h
 ·next hx=>cases h;exact⟨rfl,by unfold InU;omega⟩
 ·cases h
theorem bin_ok{sk:St}(j:Knw sk W){o:BinOp}{t:TypeId}{x y:Pv}{v w:Value}(hx:PvR W Q x v)(g:PvR W Q y w)(h:binK o t x y k=some r)(s:St) :
 ∃p u,qO Tryz.prog o t v w s=.ok (.value u) s∧PvR W Q p u∧k p=some r:=by
 unfold binK at h
 split at h
 ·next a b=>
  cases hx;cases g
  split at h
  ·next c hc=>exact⟨.one (.bool c),.bool c,by simp only[qO,qY,cmp_ok hc];rfl,rfl,h⟩
  ·split at h
   ·obtain⟨z,f,h⟩:=zP h
    obtain⟨rfl,d⟩:=wD f
    exact⟨.one (.int .i64 (a+b)),.int .i64 (a+b),by simp only[qO,qY,yW,YN d];rfl,rfl,h⟩
   ·obtain⟨z,f,h⟩:=zP h
    obtain⟨rfl,d⟩:=wD f
    exact⟨.one (.int .i64 (a-b)),.int .i64 (a-b),by simp only[qO,qY,yW,YN d];rfl,rfl,h⟩
   ·obtain⟨z,f,h⟩:=zP h
    obtain⟨rfl,d⟩:=wD f
    exact⟨.one (.int .i64 (a*b)),.int .i64 (a*b),by simp only[qO,qY,yW,YN d];rfl,rfl,h⟩
   ·split at h
    ·cases h
    ·next hb=>exact⟨.one (.int .i64 (a.tmod b)),.int .i64 (a.tmod b),by simp only[qO,qY,yW,Go.binOp,Op.intDiv,aD hb];rfl,rfl,h⟩
   ·split at h
    ·cases h
    ·next hb=>
     obtain⟨z,f,h⟩:=zP h
     obtain⟨rfl,d⟩:=wD f
     exact⟨.one (.int .i64 (a.tdiv b)),.int .i64 (a.tdiv b),by simp only[qO,qY,yW,Go.binOp,Op.intDiv,aD hb,Yn d];rfl,rfl,h⟩
   ·split at h
    ·next hb=>
     obtain⟨z,f,h⟩:=zP h
     obtain⟨rfl,d⟩:=wD f
     have n:min b.toNat 64=b.toNat:=by omega
     exact⟨.one (.int .i64 (a*2 ^ b.toNat)),.int .i64 (a*2 ^ b.toNat),by simp only[qO,qY,yW,Go.binOp,Op.shift,aD (show ¬b<0 by omega),show IntKind.i64.bits=64 from rfl,n,Yn d];rfl,rfl,h⟩
    ·cases h
   ·split at h
    ·next hb=>exact⟨.one (.int .i64 (a.fdiv (2 ^ min b.toNat 64))),.int .i64 (a.fdiv (2 ^ min b.toNat 64)),by simp only[qO,qY,yW,Go.binOp,Op.shift,aD (show ¬b<0 by omega),show IntKind.i64.bits=64 from rfl];rfl,rfl,h⟩
    ·cases h
   ·exact⟨.one (.int .i64 (zdq a b)),.int .i64 (zdq a b),by simp only[qO,qY,yW,Go.binOp,Op.intBits];rfl,rfl,h⟩
   ·exact⟨.one (.int .i64 (orI a b)),.int .i64 (orI a b),by simp only[qO,qY,yW,Go.binOp,Op.intBits];rfl,rfl,h⟩
   ·cases h
 ·next a b=>
  cases hx;cases g
  split at h
  ·exact⟨.one (.bool (decide (a<b))),.bool (decide (a<b)),by simp only[qO,qY,Go.binOp,Op.intCmp];rfl,rfl,h⟩
  ·refine⟨.one (.bool (decide (a=b))),.bool (decide (a=b)),?_,rfl,h⟩
   simp only[qO,qY,Go.binOp,Op.intCmp]
   by_cases e:a=b
   ·have:(a==b)=true:=by simpa using e
    simp[e];rfl
   ·have:(a==b)=false:=by simpa using e
    simp[this,e];rfl
  ·obtain⟨z,f,h⟩:=zP h
   obtain⟨rfl,d⟩:=zfV f
   refine⟨.one (.int .u64 (a*b)),.int .u64 (a*b),?_,rfl,h⟩
   simp only[qO,qY,Go.binOp,Op.intArith]
   rw[aD Uz,Q7 d]
   rfl
  ·split at h
   ·cases h
   ·next hb=>exact⟨.one (.int .u64 (a.tmod b)),.int .u64 (a.tmod b),by simp only[qO,qY,Go.binOp,Op.intDiv,aD hb];rfl,rfl,h⟩
  ·split at h
   ·cases h
   ·next hb=>
    obtain⟨z,f,h⟩:=zP h
    obtain⟨rfl,d⟩:=zfV f
    exact⟨.one (.int .u64 (a.tdiv b)),.int .u64 (a.tdiv b),by simp only[qO,qY,Go.binOp,Op.intDiv,aD hb,Q7 d];rfl,rfl,h⟩
  ·cases h
 ·next a b=>
  cases hx;cases g
  split at h
  ·next hu=>
   split at h
   ·exact⟨.one (.bool (a==b)),.bool (a==b),by simp only[qO,eqM,hu,eqV];rfl,rfl,h⟩
   ·exact⟨.one (.bool (!(a==b))),.bool (!(a==b)),by simp only[qO,eqM,hu,eqV];rfl,rfl,h⟩
   ·cases h
  ·cases h
 ·next t' w' τ' l=>
  split at h
  ·next el hu=>
   split at h
   ·next hl=>
    obtain⟨a,cap,L,e1,m,hLn,_⟩:=(show Rep W (.sl t' w' τ') [v] l from hx)
    obtain⟨b,off,c,rfl,_⟩:=(j.s _ _ _ _ m).at (i:=0) (k:=0) rfl Oz
    refine⟨.one (.bool false),.bool false,?_,rfl,h⟩
    rw[(List.cons.inj e1).1,(List.cons.inj (show [w]=[.slice none 0 0]from g)).1]
    simp only[qO,eqM,hu,eqV]
    rfl
   ·cases h
  ·cases h
 ·cases h
theorem zgj:∀{l:List Lf} {js:List Nat} {c:List Value},LsR W Q l c→zgk l=some js→JsR Q js c
 | [],js,c,h,hj=>by cases hj;exact h
 | .ptr j 0::r,js,c,⟨c1,a,e,⟨q,h1,h2⟩,b⟩,hj=>by
  simp only[zgk]at hj
  split at hj
  ·next l hl=>cases hj;subst h2;exact⟨q,a,h1,e,zgj b hl⟩
  ·cases hj
theorem Ze{x:Pv}{l:List Lf}{v:Value}(hx:PvR W Q x v)(hl:jD x=some l):LsR W Q l (yp v):=by
 unfold jD at hl
 split at hl
 ·next y=>
  cases hl
  have hc:yp v=[v]:=by
   have hp:=LfR.plain (c:=[v]) hx
   cases v<;>first|rfl|(simp[Go.M.plainCell]at hp)
  rw[hc]
  exact LsR.one hx
 ·cases hl;obtain⟨c,rfl,hx⟩:=hx;exact hx
 ·next f l=>
  split at hl
  ·next js a=>
   cases hl
   obtain⟨cs,rfl,hx⟩:=hx
   exact LsR.one ⟨cs,rfl,zgj hx a⟩
  ·cases hl
 ·cases hl
theorem zleaf_ok{W:Wd}{D:Hp'}{Q:Qs}(τ:Ty):∀{c:List Value} {l:List Lf} {r:List Value},jm τ c=some (l,r)→∃c1,c=c1++r∧LsR (W.x D) Q l c1:=by
 induction τ with
 |int k=>
  intro c l r h
  simp only[jm]at h
  unfold zI at h
  split at h
  ·split at h
   ·next hk=>cases h;subst hk;exact⟨[_],rfl,LsR.one rfl⟩
   ·cases h
  ·cases h
 |bool=>
  intro c l r h
  simp only[jm]at h
  unfold zB at h
  split at h<;>cases h
  exact⟨[_],rfl,LsR.one rfl⟩
 |rat=>
  intro c l r h
  simp only[jm]at h
  unfold zR at h
  split at h<;>cases h
  exact⟨[_,_,_,_],rfl,LsR.one (x:=.rat 0) rat0⟩
 |sl t w τ d=>
  intro c l r h
  simp only[jm]at h
  unfold zS at h
  split at h<;>cases h
  exact⟨[_],rfl,LsR.one rfl⟩
 |one a d=>intro c l r h;simp only[jm]at h;exact d h
 |pair a b iha ihb=>
  intro c l r h
  simp only[jm]at h
  split at h
  ·next x r1 hx=>
   obtain⟨c1,rfl,h1⟩:=iha hx
   split at h
   ·next y r2 g=>
    cases h
    obtain⟨f,rfl,h2⟩:=ihb g
    exact⟨c1++f,(bD ..).symm,h1.append h2⟩
   ·cases h
  ·cases h
 |tup a b=>intro c l r h;simp only[jm]at h;cases h
 |tup3 a b c=>intro c l r h;simp only[jm]at h;cases h
theorem jO{τ:Ty}{c:List Value}{l:List Lf}(h:gN τ c=some l):LsR (W.x D) Q l c:=by
 unfold gN at h
 split at h
 ·next l' hl=>
  cases h
  obtain⟨c1,rfl,h1⟩:=zleaf_ok (D:=D) (W:=W) (Q:=Q) τ hl
  rw[bM];exact h1
 ·cases h
theorem KB{τ:Ty}:∀{n:Nat} {l:List Lf} {c:List Value} {xs:List τ.T},LsR (W.x D) Q l c→WH τ n l=some xs→∃Y:List (List Value),Y.flatten=c∧Y.length=n∧xs.length=n∧(∀y∈Y,y.length=τ.sz)∧∀(k:Nat) x,xs[k]? = some x→Rep (W.x D) τ (Y.getD k []) x
 |0,[],c,xs,h,a=>by cases a;exact⟨[],(show c=[]from h).symm,rfl,rfl,(fun _ h=>nomatch h),fun k x h=>by simp at h⟩
 |0,_::_,c,xs,h,a=>by simp only[WH]at a;cases a
 |n+1,l,c,xs,h,a=>by
  simp only[WH]at a
  split at a
  ·next x l' hx=>
   split at a
   ·next ys f=>
    cases a
    obtain⟨c1,c2,rfl,h1,h2⟩:=zgg τ h hx
    obtain⟨Y,e1,e2,g,i,j⟩:=KB h2 f
    refine⟨c1::Y,by rw[cU,e1],by rw[aW,e2],by rw[aW,g],fun y d=>?_,fun k z b=>?_⟩
    ·rcases aL.mp d with rfl|d
     ·exact Rep.len h1
     ·exact i y d
    ·cases k with
     |zero=>simp only[eP,bF]at b;subst b;exact h1
     |succ k=>simp only[cQ]at b;exact j k z b
   ·cases a
  ·cases a
theorem QQ{place:Nat→Option (Nat×Nat)}(a:∀x p,e.ev C x=some p→PvR W Q p (zd F x)):∀{parts:List (Nat×Operand)} {l r:List Lf} {c:List Value},LsR W Q l c→Je C e place parts l=some r→∃c',qK place (zd F) parts c=some c'∧LsR W Q r c'
 | [],l,r,c,h,hf=>by cases hf;exact⟨c,rfl,h⟩
 |(i,x)::ps,l,r,c,h,hf=>by
  unfold Je at hf
  split at hf
  ·next off size v hp hv=>
   split at hf
   ·next l' d=>
    have b:=Ze (a _ _ hv) d
    split at hf
    ·next c1 n f=>
     obtain⟨c2,h1,h2⟩:=h.put b f
     obtain⟨g,j,m⟩:=QQ a h2 hf
     refine⟨g,?_,m⟩
     simp only[qK,hp,yd,bK,b.len,n,h1]
     exact j
    ·cases hf
   ·cases hf
  ·cases hf
theorem zgZ(a:∀x p,e.ev C x=some p→PvR W Q p (zd F x)):∀{l:List Operand} {b:List Lf},zha C e l=some b→LsR W Q b (qB (zd F) l)
 | [],b,h=>by cases h;rfl
 |x::r,b,h=>by
  unfold zha at h
  split at h
  ·next y l c hl=>
   cases h
   exact⟨[zd F x],qB (zd F) r,rfl,a _ _ c,zgZ a hl⟩
  ·cases h
theorem ltake_two{a b o:Nat}{l x y:List Value}(h:y8 a (xw o l)=some x)(g:y8 b (xw (o+a) l)=some y):y8 (a+b) (xw o l)=some (x++y):=by
 rw[y7,yU]at h g ⊢
 split at h
 ·next h1=>
  cases h
  split at g
  ·next h2=>
   cases g
   rw[bZ]at h1 h2
   rw[aF (by rw[bZ];omega),List.take_add,List.drop_drop]
  ·cases g
 ·cases h
theorem load_ok{t:TypeId}{x:Operand}{a:Pv}(hs:See (W.x D) Q C e F s)(hb:∀p,zd F x=.pointer (some p)→p.block<s.next→s'.get p.block=s.get p.block)(ha:PvR (W.x D) Q a (zd F x))(h:loadK C e t a k=some r) :
 ∃p v,uF Tryz.prog t (zd F x) s'=.ok (.value v) s'∧PvR (W.x D) Q p v∧k p=some r:=by
 unfold loadK at h
 split at h
 ·next j off=>
  obtain⟨q,P,hx⟩:=ha
  simp only[List.cons.injEq,fB]at hx
  split at h
  ·next l ho=>
   obtain⟨p,hp,h⟩:=yR h
   obtain⟨q',c,tt,u,E,hc,hl⟩:=hs.cel _ _ ho
   rw[P]at u;cases u
   have hg:=hb _ hx E
   obtain⟨v,h1,h2⟩:=VB hl hp
   refine⟨p,v,?_,h2,h⟩
   simp only[uF,vY,hx,hg,hc,h1];rfl
  ·cases h
 ·next t' w τ y off=>
  obtain⟨b,o,n,cap,L,U,M,hk,I,hx⟩:=ha
  simp only[List.cons.injEq,fB]at hx
  obtain⟨p,hp,h⟩:=yR h
  have G:=hs.kn.s _ _ _ _ M
  cases G with
  |nil c hv hl=>cases hv
  |block b' off' cap' c hv f z hcap hc=>
   cases hv
   obtain⟨v,h1,h2⟩:=VB (vA (Q:=Q) I) hp
   refine⟨p,v,?_,h2,h⟩
   have d:=hc U hk
   have hg:=hb _ hx z
   have key:jk (zV Tryz.prog t) (o+U*w+off) c=some v:=by
    unfold jk at h1 ⊢
    split at h1
    ·exact WM d h1
    ·next Z=>
     split at h1
     ·next Y B=>
      cases h1
      rw[J1 d B]
     ·cases h1
    ·cases h1
   simp only[uF,vY,hx,hg,f,key];rfl
 ·next j w i off=>
  obtain⟨q,P,hx⟩:=ha
  simp only[List.cons.injEq,fB]at hx
  split at h
  ·next t' w' τ l ho=>
   split at h
   ·next T=>
    obtain rfl:=aJ T
    obtain⟨y,S,h⟩:=zP h
    obtain⟨p,hp,h⟩:=yR h
    obtain⟨q',a,cap,u,hv,hl⟩:=hs.lst _ _ _ _ _ ho
    rw[P]at u;cases u
    obtain⟨N,O,g⟩:=qF S
    obtain⟨c,tt,L,ea,E,f,d,I⟩:=hl _ _ g
    have hg:=hb _ hx E
    obtain⟨v,h1,h2⟩:=VB (vA (Q:=Q) I) hp
    refine⟨p,v,?_,h2,h⟩
    have key:jk (zV Tryz.prog t) (i.toNat*w'+off) c=some v:=by
     unfold jk at h1 ⊢
     split at h1
     ·exact WM d h1
     ·next Z=>
      split at h1
      ·next Y B=>
       cases h1
       rw[J1 d B]
      ·cases h1
     ·cases h1
    simp only[uF,vY,hx,hg,f,key];rfl
   ·cases h
  ·cases h
 ·next t' w τ l=>
  obtain⟨b,o,n,cap,L,hx,M,hn,I⟩:=ha
  simp only[List.cons.injEq,fB]at hx
  split at h
  ·next m R=>
   split at h
   ·next A=>
    simp only[aG]at A
    have V:=aJ A.1
    have T:=aJ A.2
    have G:=hs.kn.s _ _ _ _ M
    cases G with
    |nil c hv hl=>cases hv
    |block b' off' cap' c hv f z hcap hc=>
     cases hv
     have hg:=hb _ hx z
     have key:∀(n i:Nat) (r:ρ) (k:List Lf→Option ρ),zaz l n i k=some r→∃H cs,y8 (n*w) (xw (o+i*w) c)=some cs∧LsR (W.x D) Q H cs∧k H=some r:=by
      intro n
      induction n with
      |zero=>intro i r k h;exact⟨[],[],by rw[eF];rfl,rfl,h⟩
      |succ n X=>
       intro i r k h
       simp only[zaz]at h
       obtain⟨y,S,h⟩:=zP h
       obtain⟨N,O,g⟩:=qF S
       simp only[Int.toNat_natCast]at g
       obtain⟨H,cs,g1,g2,K⟩:=X _ _ _ h
       have hil:i<l.length:=(aM.mp g).1
       have d:=hc i Oz
       have J:=I _ _ g
       refine⟨Zp τ y++H,_,?_,(vA J).append g2,K⟩
       rw[dM,dQ,Nat.add_comm (n*w) w]
       refine ltake_two d ?_
       rw[show o+i*w+w=o+(i+1)*w by rw[dM,dQ,Nat.add_assoc]]
       exact g1
     obtain⟨H,cs,g1,g2,K⟩:=key _ _ _ _ h
     rw[V,eF,bK]at g1
     refine⟨.agg H,.agg ⟨cs⟩,?_,⟨cs,rfl,g2⟩,K⟩
     simp only[uF,vY,hx,hg,f,R,jk,g1];rfl
   ·cases h
  ·cases h
 ·cases h
theorem zaD{t:TypeId}{f:Nat}{a p:Pv}{v:Value}(ha:PvR W Q a v)(h:ZU t f a=some p)(s:St):∃u,jj Tryz.prog t v f s=.ok (.value u) s∧PvR W Q p u:=by
 unfold ZU at h
 split at h
 ·next j off n ho=>
  cases h
  obtain⟨q,c,hx⟩:=ha
  simp only[List.cons.injEq,fB]at hx
  subst hx
  exact⟨_,by simp only[jj,ho];rfl,q,c,by simp only[Nat.add_assoc]⟩
 ·next t' w τ x off n ho=>
  cases h
  obtain⟨b,o,m,cap,L,l,g,hk,d,hx⟩:=ha
  simp only[List.cons.injEq,fB]at hx
  subst hx
  exact⟨_,by simp only[jj,ho];rfl,b,o,m,cap,L,l,g,hk,d,by simp only[Nat.add_assoc]⟩
 ·next j w i off n ho=>
  cases h
  obtain⟨q,c,hx⟩:=ha
  simp only[List.cons.injEq,fB]at hx
  subst hx
  exact⟨_,by simp only[jj,ho];rfl,q,c,by simp only[Nat.add_assoc]⟩
 ·cases h
end
end Go.Proofs.YtocnbjjmmgolfaaGreat
