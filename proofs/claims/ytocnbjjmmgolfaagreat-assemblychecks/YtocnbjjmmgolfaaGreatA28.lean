/- The evaluator: what writes, calls, loops, functions. -/
/- What the evaluator's values stand for. -/
import Derived.Test.YtocnbjjmmgolfaaGreatA27
namespace Go.Proofs.YtocnbjjmmgolfaaGreat
open Go Go.M Go.Proofs.C14
inductive LS
  |hole|own (k:Nat)|ptr (j off:Nat)|nil|lst
inductive Src
  |s (t:Nat)|o (j i:Nat)
structure OwnS where
  src:Src
  t:Nat
  w:Nat
  e:Ty
structure Hi where
  frz:List Nat
  cst:List Nat
  vars:List (Nat×Bool×List LS)
  objs:List (Nat×List LS)
  own:List OwnS
  ts:List Ty
  fuel:Nat
  un:Bool:=false
def lsK(n0:Nat)(srcs:List (Option Nat)):LS→Lf→Option (List Lf)
  | .hole,l=>some [l]
  | .own k,.own j=>match zM srcs k with
    |some (some i)=>match Nat.beq i j with
      |true=>some []
      |false=>none
    |_=>none
  | .own k,.nil=>match zM srcs k with
    |some none=>some []
    |_=>none
  | .ptr j off,.ptr j' off'=>match Nat.beq j' j&&Nat.beq off' off&&Nat.blt j n0 with
    |true=>some []
    |false=>none
  | .nil,.nil=>some []
  |_,_=>none
def lssK(n0:Nat)(srcs:List (Option Nat)):List LS→List Lf→Option (List Lf)
  | [],[]=>some []
  |x::r,y::s=>match lsK n0 srcs x y,lssK n0 srcs r s with
    |some a,some b=>some (a++b)
    |_,_=>none
  |_,_=>none
def varsK(n0:Nat)(C:Cx)(e:En)(srcs:List (Option Nat)):List (Nat×Bool×List LS)→Option (List Lf)
  | []=>some []
  |(t,g,ls)::r=>match e.get C t with
    |some p=>match unQ p with
      |some (g',l)=>match g'==g,lssK n0 srcs ls l,varsK n0 C e srcs r with
        |true,some a,some b=>some (a++b)
        |_,_,_=>none
      |none=>none
    |none=>none
def objK1(n0:Nat)(srcs:List (Option Nat))(ls:List LS):Ob→Option (List Lf)
  | .cells l=>lssK n0 srcs ls l
  | .list t w τ l=>match ls with
    | [.lst]=>some [.sl t w τ l]
    |_=>none
  |_=>none
def objsK(n0:Nat)(e:En)(srcs:List (Option Nat)):List (Nat×List LS)→Option (List Lf)
  | []=>some []
  |(j,ls)::r=>match zM e.objs j with
    |some o=>match objK1 n0 srcs ls o,objsK n0 e srcs r with
      |some a,some b=>some (a++b)
      |_,_=>none
    |none=>none
def ownK(e:En):List OwnS→List (Option Nat)→Option (List Lf)
  | [],[]=>some []
  |o::r,j::s=>match j with
    |none=>match Nat.beq o.e.sz o.w,ownK e r s with
      |true,some b=>some (.sl o.t o.w o.e []::b)
      |_,_=>none
    |some j=>match zM e.objs j,ownK e r s with
      |some (.list t w τ l),some b=>some (.sl t w τ l::b)
      |_,_=>none
  |_,_=>none
def srcLf(C:Cx)(e:En):Src→Option Lf
  | .s t=>match e.get C t with
    |some (.one l)=>some l
    |_=>none
  | .o j i=>match zM e.objs j with
    |some (.cells l)=>zM l i
    |_=>none
def srcsK(C:Cx)(e:En):List OwnS→Option (List (Option Nat))
  | []=>some []
  |o::r=>match srcLf C e o.src,srcsK C e r with
    |some (.own j),some b=>some (some j::b)
    |some .nil,some b=>some (none::b)
    |_,_=>none
def rdL:(ts:List Ty)→List Lf→Option (Tp ts)
  | [],[]=>some ()
  | [a],[x]=>qe a [x]
  |a::b::ts,x::l=>match qe a [x],rdL (b::ts) l with
    |some v,some w=>some (v,w)
    |_,_=>none
  |_,_=>none
def mkL:(ts:List Ty)→Tp ts→List Lf
  | [],_=>[]
  | [a],x=>flat a x
  |a::b::ts,x=>flat a x.1++mkL (b::ts) x.2
def fillLS(n0:Nat):LS→List Lf→Lf×List Lf
  | .hole,x::l=>(x,l)
  | .hole,[]=>(.nil,[])
  | .own k,l=>(.own (n0+k),l)
  | .ptr j off,l=>(.ptr j off,l)
  | .nil,l=>(.nil,l)
  | .lst,l=>(.nil,l)
def xT(n0:Nat):List LS→List Lf→List Lf×List Lf
  | [],l=>([],l)
  |x::r,l=>((fillLS n0 x l).1::(xT n0 r (fillLS n0 x l).2).1,(xT n0 r (fillLS n0 x l).2).2)
def fillV(n0:Nat):List (Nat×Bool×List LS)→List Lf→List (Nat×Pv)×List Lf
  | [],l=>([],l)
  |(t,g,ls)::r,l=>((t,pvQ (g,(xT n0 ls l).1))::(fillV n0 r (xT n0 ls l).2).1,(fillV n0 r (xT n0 ls l).2).2)
def fillO1(n0:Nat)(ls:List LS)(l:List Lf):Ob×List Lf:=match ls with
  | [.lst]=>match l with
    | .sl t w e x::r=>(.list t w e x,r)
    |_=>(.dead,l)
  |_=>(.cells (xT n0 ls l).1,(xT n0 ls l).2)
def fillO(n0:Nat):List (Nat×List LS)→List Ob→List Lf→List Ob×List Lf
  | [],o,l=>(o,l)
  |(j,ls)::r,o,l=>fillO n0 r (zt o j (fillO1 n0 ls l).1) (fillO1 n0 ls l).2
def fillW:List OwnS→List Lf→List Ob
  |o::r,.sl t w e l::s=>.list t w e l::fillW r s
  |_::r,_::s=>.dead::fillW r s
  |_,_=>[]
def memS(n:Nat):List (Option Nat)→Bool
  | []=>false
  |some m::l=>Nat.beq m n||memS n l
  |none::l=>memS n l
def nodupS:List (Option Nat)→Bool
  | []=>true
  |some m::l=> !memS m l&&nodupS l
  |none::l=>nodupS l
def keyN{α:Type}(n:Nat)(l:List (Nat×α)):Bool:=match find l n with
  |some _=>true
  |none=>false
def skelK(h:Hi)(srcs:List (Option Nat)):List Ob→Nat→List Ob
  | [],_=>[]
  |o::l,i=>(match keyN i h.objs with
    |true=>.dead
    |false=>match memS i srcs with
      |true=>.dead
      |false=>match o with
        | .dead=>.dead
        |_=>.const)::skelK h srcs l (i+1)
def xK:Ob→Bool
  | .const=>true
  |_=>false
def sameK:List Ob→List Ob→Bool
  | [],_=>true
  |p::r,o::s=>(!xK p||xK o)&&sameK r s
  |p::r,[]=> !xK p&&sameK r []
def mkE(h:Hi)(n0:Nat)(skel:List Ob)(x:Tp h.ts):En:=
  let a:=fillV n0 h.vars (mkL h.ts x)
  let b:=fillO n0 h.objs skel a.2
  {slots:=a.1,objs:=b.1++fillW h.own b.2}
def lentS(n:Nat):List (Option Nat)→Bool
  | []=>true
  |some j::r=>Nat.ble n j&&lentS n r
  |none::r=>lentS n r
def objN(srcs:List (Option Nat)):List (Nat×List LS)→Bool
  | []=>true
  |(j,_)::r=> !memS j srcs&&objN srcs r
def normK(h:Hi)(n0 lent:Nat)(C:Cx)(e:En)(srcs:List (Option Nat)):Option (Tp h.ts):=match varsK n0 C e srcs h.vars,objsK n0 e srcs h.objs,ownK e h.own srcs with
  |some a,some b,some c=>match nodupS srcs&&lentS lent srcs&&objN srcs h.objs with
    |true=>rdL h.ts (a++(b++c))
    |false=>none
  |_,_,_=>none
def srcB(skel:List Ob):List (Option Nat)→Bool
  | []=>true
  |some j::r=>(match zM skel j with
    |some .const=>false
    |_=>true)&&srcB skel r
  |none::r=>srcB skel r
def cstK(C:Cx)(e:En):List Nat→List (Nat×Pv)
  | []=>[]
  |t::r=>match find e.slots t with
    |some p=>(t,p)::cstK C e r
    |none=>cstK C e r
def cobK:List Ob→List Ob→List Ob
  | .const::r,c::s=>c::cobK r s
  |o::r,_::s=>o::cobK r s
  |r,[]=>r
  | [],_=>[]
def unO:List Ob→List Ob→List Ob
  |o::r,c::s=>(match c with
    | .const=>o
    |c=>c)::unO r s
  | [],c::s=>(match c with
    | .const=>.dead
    |c=>c)::unO [] s
  |_,[]=>[]
def En.leave(cst:List (Nat×Pv))(objs:List Ob)(e:En):En:={slots:=e.slots++cst,objs:=unO objs e.objs}
def frzS(C:Cx)(e:En):List Nat→Option En
  | []=>some e
  |t::r=>match e.get C t with
    |some p=>match e.frzP C [p]with
      |some e=>frzS C e r
      |none=>none
    |none=>none
noncomputable def zb(n:Nat):Nat:=Classical.choose (⟨n,rfl⟩:∃m,m=n)
theorem zm(n:Nat):zb n=n:=Classical.choose_spec (⟨n,rfl⟩:∃m,m=n)
def backK(h:Hi)(C:Cx)(skel:List Ob)(e:En):Option (Tp h.ts):=match frzS C e h.frz with
  |some e=>match srcsK C e h.own with
    |some srcs=>match sameK skel e.objs&&srcB skel srcs with
      |true=>normK h C.n C.lent C e srcs
      |false=>none
    |none=>none
  |none=>none
section
variable{ρ:Type}
noncomputable def loopK(h:Hi)(C:Cx)(e:En)(B:Cx→(En→En)→(En→Option ρ)→En→Option ρ):Option ρ:=match frzS C e h.frz with
  |some e=>match srcsK C e h.own with
    |some srcs=>
      let n0:=zY e.objs 0
      let skel:=skelK h srcs e.objs 0
      let cst:=cstK C e h.cst
      let C1:Cx:={slots:=cst++C.slots,objs:=cobK e.objs C.objs,n:=n0,lent:=C.lent}
      match normK h n0 C.lent C e srcs with
      |some x=>zd (fun again x=>B C1 (En.leave cst e.objs) (fun e'=>match backK h C1 skel e' with
        |some y=>again y
        |none=>none) (mkE h n0 skel x)) (zb h.fuel) x
      |none=>none
    |none=>none
  |none=>none
end
def constB:List Ob→List Ob→Bool
  |o::r,p::s=>(!xK p||xK o)&&constB r s
  | [],p::s=> !xK p&&constB [] s
  |_,[]=>true
section
variable(Γ:TypeId→Option Ty)(T:FuncId→Option Con)(Hs:FuncId→List Hi){ρ:Type}
abbrev Inl(ρ:Type):=FuncId→List Ob→Nat→List Pv→List Ob→(Pv→List Ob→Option ρ)→Option ρ
variable(inl:Inl ρ)(rc:Nat)(C:Cx)
def delZ{α:Type}(l:List α)(a b:Int):Option (List α):=if 0≤a∧a<l.length∧b=a+1 then some (l.eraseIdx a.toNat)else none
def En.frzAs(e:En)(j:Nat)(r:List Int)(k:En→Pv→Option ρ):Option ρ:=k (e.setO j .dead) (.one (.sl 3 1 (.int .i64) r))
def aslB(p:Pv)(lo hi:Option Operand):Bool:=match p,lo,hi with
  | .one (.ptr _ _),none,none=>true
  |_,_,_=>false
def lendB(g:FuncId)(ps:List Pv):Bool:=Nat.beq g 50&&ps.any fun p=>match p with
  | .one (.own _)=>true
  |_=>false
def maskP:(τ:Ty)→τ.T→Option Pv
  | .tup (.sl _ _ _) .bool,x=>some (.tup [(false,[.unk]),(false,[.bool x.2])])
  |_,_=>none
noncomputable def callK(st:Bool)(e:En)(d:Option Nat)(g:FuncId)(ops:List Operand)(caps:List Lf)(k:En→Option ρ):Option ρ:=match e.evs C ops with
  |some ps=>match T g with
    |some con=>match caps,e.frzP C ps,(st||Nat.ble con.room rc)&&con.res.okT with
      | [],some e1,true=>match e1.evs C ops with
        |some ps1=>match rdP con.ar ps1 with
          |some x=>(con.fn x).bind fun r=>match lendB g ps with
            |true=>kO (maskP con.res r) fun p=>e.set C d p k
            |false=>e1.set C d (toP con.res r) k
          |none=>none
        |none=>none
      |_,_,_=>none
    |none=>match Nat.beq g 108 with
      |true=>match ps,caps with
        | [.one (.int .u64 a)],[]=>if 0≤a∧a≤12 then e.set C d .any k else none
        |_,_=>none
      |false=>match Nat.beq g 307 with
        |true=>match ps,caps with
          | [.one (.own j),.one (.int .i64 a),.one (.int .i64 b)],[]=>match zM e.objs j,Nat.ble C.lent j with
            |some (.list 3 1 (.int .i64) l),true=>(delZ l a b).bind fun r=>e.frzAs j r fun e v=>e.set C d v k
            |_,_=>none
          |_,_=>none
        |false=>inl g (cobK e.objs C.objs) C.lent (ps++caps.map .one) e.objs fun v o=>match constB e.objs o with
          |true=>En.set C {e with objs:=o} d v k
          |false=>none
  |none=>none
noncomputable def appK(e:En)(d:Option Nat)(t:TypeId)(x y:Pv)(k:En→Option ρ):Option ρ:=match elK Γ t with
  |some (el,sz,τ,_)=>match y with
    | .one (.own i)=>match zM e.objs i with
      |some (.list t' w' τ' m)=>if h:t'=el∧w'=sz∧τ'=τ then match m with
        | []=>none
        |_::_=>match Nat.ble C.lent i with
         |false=>none
         |true=>match x with
          | .one .nil=>(app [] (castL h.2.2 m)).bind fun r=>En.new C (e.setO i .dead) d (.list el sz τ r) .own k
          | .one (.own j)=>match Nat.beq j i || !Nat.ble C.lent j,zM e.objs j with
            |false,some (.list t2 w2 τ2 l)=>if h2:t2=el∧w2=sz∧τ2=τ then(app (castL h2.2.2 l) (castL h.2.2 m)).bind fun r=>En.new C ((e.setO i .dead).setO j .dead) d (.list el sz τ r) .own k
              else none
            |_,_=>none
          |_=>none
        else none
      |_=>none
    | .one (.sl t' w' τ' m)=>if h:t'=el∧w'=sz∧τ'=τ then match x with
      | .one (.own j)=>match Nat.ble C.lent j&&Nat.ble 1 sz,zM e.objs j with
        |true,some (.list t2 w2 τ2 l)=>if h2:t2=el∧w2=sz∧τ2=τ then(app (castL h2.2.2 l) (castL h.2.2 m)).bind fun r=>En.new C (e.setO j .dead) d (.list el sz τ r) .own k
          else none
        |_,_=>none
      |_=>none
      else none
    |_=>none
  |none=>none
def sndL:List (Nat×Operand)→List Operand
  | []=>[]
  |(_,x)::r=>x::sndL r
def bndK(e:En)(i:Int):Option Operand→Option Int
  |none=>some i
  |some x=>match e.ev C x with
    |some (.one (.int _ i))=>some i
    |_=>none
def zfun:List Value→Option (List Lf)
  | [.nilFunc]=>some [.nilf]
  |_=>none
def zallK(τ:Option Ty)(c:List Value):Option (List Lf):=match τ with
  |some τ=>zleaves τ c
  |none=>zfun c
noncomputable def effK(e:En)(d:Option Nat)(o:Op)(k:En→Option ρ):Option ρ:=match o with
  | .store t x v=>match e.ev C x,e.ev C v with
    |some (.one (.ptr j off)),some v=>match zM e.objs j,leavesOf v with
      |some (.cells c),some l=>match putL c off l,sizeF Tryz.prog t with
        |some c',some n=>match Nat.beq (wid l) n&&Nat.ble C.lent j with
          |true=>En.set C (e.setO j (.cells c')) d Pv.undef k
          |false=>none
        |_,_=>none
      |_,_=>none
    |some (.one (.op j w i off)),some v=>match zM e.objs j,leavesOf v with
      |some (.list t' w' τ ls),some l=>match sizeF Tryz.prog t,Nat.beq w' w&&Nat.ble C.lent j with
        |some n,true=>(idx ls i).bind fun x=>match putL (flat τ x) off l,Nat.beq (wid l) n with
          |some c',true=>match qe τ c' with
            |some y=>En.set C (e.setO j (.list t' w' τ (zt ls i.toNat y))) d Pv.undef k
            |none=>none
          |_,_=>none
        |_,_=>none
      |_,_=>none
    |_,_=>none
  | .box _ x=>match e.ev C x with
    |some v=>match leavesOf v with
      |some l=>En.new C e d (.cells l) (.ptr · 0) k
      |none=>none
    |none=>none
  | .alloc t=>match zeroF Tryz.prog t with
    |some c=>match zallK (Γ t) c with
      |some l=>En.new C e d (.cells l) (.ptr · 0) k
      |none=>none
    |_=>none
  | .buildSlice t n parts=>match elK Γ t,e.evs C (sndL parts.toList)with
    |some (el,sz,τ,z),some ps=>match e.frzP C ps with
      |some e=>match Nat.ble (n*sz) 16777216,fillK C e (fun i=>some (i*sz,sz)) parts.toList (repLf z n)with
        |true,some c=>match readN τ n c with
          |some l=>En.new C e d (.list el sz τ l) .own k
          |none=>none
        |_,_=>none
      |none=>none
    |_,_=>none
  | .makeSlice t l c=>match elK Γ t,e.ev C l,e.ev C c with
    |some (el,sz,τ,z),some (.one (.int .i64 a)),some (.one (.int .i64 b))=>match qe τ z with
      |some y=>if 0≤a∧a=b∧a≤65536 then En.new C e d (.list el sz τ (List.replicate a.toNat y)) .own k else none
      |none=>none
    |_,_,_=>none
  | .slice t x lo hi none=>match e.ev C x with
    |some p=>match aslB p lo hi with
     |true=>kO (aslK t p) fun v=>e.set C d v k
     |false=>match e.frzP C [p]with
      |some e=>match e.ev C x,Tryz.prog.underlying t with
        |some (.one (.sl t' w τ l)),some (.slice el)=>match bndK C e 0 lo,bndK C e l.length hi,Tryz.prog.info? el with
          |some a,some b,some inf=>match Nat.beq inf.size w&&Nat.beq t' el with
            |true=>(xq l a b).bind fun r=>e.set C d (.one (.sl t' w τ r)) k
            |false=>none
          |_,_,_=>none
        |_,_=>none
      |none=>none
    |none=>none
  | .slice t x none (some hi) (some mx)=>match e.ev C x,e.ev C hi,e.ev C mx,Tryz.prog.underlying t with
    |some (.one (.sl t' w τ l)),some (.one (.int .i64 a)),some (.one (.int .i64 b)),some (.slice el)=>match Tryz.prog.info? el with
      |some inf=>match Nat.beq inf.size w&&Nat.beq t' el with
        |true=>if a=b then(xq l 0 a).bind fun r=>e.set C d (.one (.sl t' w τ r)) k else none
        |false=>none
      |none=>none
    |_,_,_,_=>none
  | .call c=>match c.callee with
    | .value f=>match e.ev C f with
      |some (.one (.fn g))=>match funcF Tryz.prog g && !Nat.ble zo g with
        |true=>callK T inl rc C (match f with | .func _=>true|_=>false) e d g c.args.toList [] k
        |false=>none
      |some (.clo g caps)=>match (funcF Tryz.prog g && !Nat.ble zo g)&&(caps.all fun x=>Nat.beq x.w 1)with
        |true=>callK T inl rc C false e d g c.args.toList caps k
        |false=>none
      |some (.one (.cl g js))=>match funcF Tryz.prog g && !Nat.ble zo g with
        |true=>callK T inl rc C false e d g c.args.toList (js.map (.ptr · 0)) k
        |false=>none
      |some (.one (.yl j))=>match e.evs C c.args.toList,e.obj C j with
        |some ps,some (.loop _ _ pars _ _ .ready none)=>match Nat.beq (zY ps 0) (zY pars 0)with
          |true=>inl (zo+j) (cobK e.objs C.objs) C.lent ps e.objs fun v o=>match constB e.objs o with
            |true=>En.set C {e with objs:=o} d v k
            |false=>none
          |false=>none
        |_,_=>none
      |_=>none
    | .builtin .append=>match c.argTypes.toList,c.args.toList with
      |t::t2::_,[x,y]=>match Tryz.prog.underlying t2,e.ev C x,e.ev C y with
        |some (.slice _),some x,some y=>appK Γ C e d t x y k
        |_,_,_=>none
      |_,_=>none
    | .builtin .copy=>match c.argTypes.toList,c.args.toList with
      |t::_,[x,y]=>match e.ev C x,e.ev C y,Tryz.prog.underlying t with
        |some (.one (.own j)),some (.one (.sl t' w τ l2)),some (.slice el)=>match zM e.objs j,Nat.ble C.lent j&&Nat.ble 1 w,Tryz.prog.info? el with
          |some (.list t2 w2 τ2 l),true,some inf=>if t2=t'∧w2=w∧τ2=τ∧inf.size=w then(if l.length=l2.length∧0<l2.length then En.set C (e.setO j (.list t' w τ l2)) d (.one (.int .i64 l2.length)) k else none)else none
          |_,_,_=>none
        |_,_,_=>none
      |_,_=>none
    | .builtin .min=>match c.args.toList with
      | [x,y]=>match e.ev C x,e.ev C y with
        |some (.one (.int .i64 a)),some (.one (.int .i64 b))=>e.set C d (.one (.int .i64 (min a b))) k
        |_,_=>none
      |_=>none
    | .builtin .max=>match c.args.toList with
      | [x,y]=>match e.ev C x,e.ev C y with
        |some (.one (.int .i64 a)),some (.one (.int .i64 b))=>e.set C d (.one (.int .i64 (max a b))) k
        |_,_=>none
      |_=>none
    |_=>pureK Γ C e o fun v=>e.set C d v k
  |_=>pureK Γ C e o fun v=>e.set C d v k
def wantK(ops:List Oper)(e:En)(o:Oper)(run skip:En→Option ρ):Option ρ:=match o.guard with
  |none=>run e
  |some (j,w)=>match zM ops j with
    |some q=>match q.dst with
      |some d=>match e.get C d with
        |some (.one (.bool b))=>if b=true then(match w with
            |true=>run (e.mark (.tmp d) true)
            |false=>skip (e.mark (.tmp d) true))
          else(match w with
            |true=>skip (e.mark (.tmp d) false)
            |false=>run (e.mark (.tmp d) false))
        |some .undef=>skip e
        |_=>none
      |none=>skip e
    |none=>skip e
noncomputable def opsK(ops:List Oper):List Oper→En→(En→Option ρ)→Option ρ
  | [],e,k=>k e
  |o::r,e,k=>wantK C ops e o (fun e=>effK Γ T inl rc C e o.dst o.op fun e=>opsK ops r e k) fun e=>e.set C o.dst Pv.undef fun e=>opsK ops r e k
def plainL:Lf→Bool
  | .op _ _ _ _ | .sp _ _ _ _ | .asl _ _ | .unk=>false
  |_=>true
def plainP:Pv→Bool
  | .one l=>plainL l
  | .any=>false
  |_=>true
def ptrOK(e:En):Option Pv→Bool
  |some (.one (.ptr j _))=>match e.obj C j with
    |some (.cells _)=>true
    |_=>false
  |some (.one (.own j))=>match e.obj C j with
    |some (.list _ _ _ _)=>true
    |_=>false
  |some p=>plainP p
  |none=>false
def opB:Option Pv→Bool
  |some (.one (.op _ _ _ _))=>true
  |_=>false
def freeI{ρ:Type}(ops:List Oper)(e:En):List Nat→(Unit→Option ρ)→Option ρ
  | [],k=>k ()
  |i::r,k=>match zM ops i with
    |some o=>match o.op with
      | .load _ x=>match e.ev C x with
        |some (.one (.op j _ n _))=>match e.obj C j with
          |some (.list _ _ _ l)=>(idx l n).bind fun _=>freeI ops e r k
          |_=>none
        |_=>freeI ops e r k
      |_=>freeI ops e r k
    |none=>freeI ops e r k
def freeK(ops:List Oper)(e:En):List Nat→Bool
  | []=>true
  |i::r=>(match zM ops i with
    |some o=>match o.op with
      | .load _ x=>opB (e.ev C x)||ptrOK C e (e.ev C x)
      | .slice _ x _ _ none=>ptrOK C e (e.ev C x)
      | .alloc _ | .buildSlice _ _ _=>match o.dst with
        |some t=>ptrOK C e (e.get C t)
        |none=>true
      |_=>true
    |none=>true)&&freeK ops e r
def freeN(ops:List Oper)(e:En)(j:Nat):List Nat→Bool
  | []=>true
  |i::r=>(match zM ops i with
    |some o=>match o.op with
      | .load _ x=>match e.ev C x with
        |some (.one (.ptr i _))=> !Nat.beq i j
        |some (.one (.op i _ _ _))=> !Nat.beq i j
        |_=>true
      | .slice _ x _ _ none=>match e.ev C x with
        |some (.one (.ptr i _))=> !Nat.beq i j
        |some (.one (.own i))=> !Nat.beq i j
        |_=>true
      | .alloc _ | .buildSlice _ _ _=>match o.dst with
        |some t=>match e.get C t with
          |some (.one (.ptr i _))=> !Nat.beq i j
          |some (.one (.own i))=> !Nat.beq i j
          |_=>true
        |none=>true
      |_=>true
    |none=>true)&&freeN ops e j r
def apOK(ops:List Oper)(e:En)(fr:List Nat):Op→Bool
  | .call c=>match c.callee,c.args.toList with
    | .builtin .append,[x,_]=>match e.ev C x with
      |some (.one (.own j))=>match zM e.objs j with
        |some (.list _ _ _ _)=>freeN C ops e j fr&&Nat.ble C.lent j
        |_=>false
      |some (.one .nil)=>true
      |_=>false
    |_,_=>false
  |_=>false
def stOK(ops:List Oper)(e:En)(fr:List Nat):Op→Bool
  | .store _ x _=>match e.ev C x with
    |some (.one (.ptr j _))=>freeN C ops e j fr
    |_=>false
  |_=>false
def cpOp(e:En):Op→Bool
  | .call c=>match c.callee,c.args.toList with
    | .builtin .append,[x,y]=>match e.ev C x,e.ev C y with
      |some (.one (.own j)),some (.one (.sl _ _ _ _))=>match zM e.objs j with
        |some (.list _ _ _ [])=>true
        |_=>false
      |_,_=>false
    |_,_=>false
  |_=>false
def newOp:Op→Bool
  | .box _ _ | .alloc _ | .buildSlice _ _ _=>true
  |_=>false
def bsOp:Op→Bool
  | .buildSlice _ _ _=>true
  |_=>false
def alOp:Op→Bool
  | .alloc _=>true
  |_=>false
def slOp:Op→Bool
  | .slice _ _ _ _ none=>true
  |_=>false
def conOp(o:Op):Bool:=match o with
  | .call c=>match c.callee with
    | .value (.func g)=>(T g).isSome
    |_=>false
  |_=>false
def inOp:Op→Bool
  | .call c=>match c.callee with
    | .value _=>true
    |_=>false
  |_=>false
def allC:List Ob→List Ob
  | []=>[]
  | .dead::r=>.dead::allC r
  |_::r=>.const::allC r
def dropO:Nat→List Ob→List Ob
  |0,l=>l
  |_+1,[]=>[]
  |n+1,_::l=>dropO n l
def noC:List Ob→Bool
  | []=>true
  |o::l=> !xK o&&noC l
noncomputable def inlD(e:En)(d:Option Nat)(o:Op)(k:En→Option ρ):Option ρ:=match o with
  | .call c=>match c.callee with
    | .value f=>match e.ev C f,e.evs C c.args.toList with
      |some (.clo g caps),some ps=>match (funcF Tryz.prog g && !Nat.ble zo g)&&(caps.all fun x=>Nat.beq x.w 1)with
        |true=>inl g (cobK e.objs C.objs) (zY e.objs 0) (ps++caps.map .one) (allC e.objs) fun v o=>match noC (dropO (zY e.objs 0) o)with
          |true=>En.set C {e with objs:=e.objs++dropO (zY e.objs 0) o} d v k
          |false=>none
        |false=>none
      |some (.one (.fn g)),some ps=>match (funcF Tryz.prog g && !Nat.ble zo g)&&(T g).isNone with
        |true=>inl g (cobK e.objs C.objs) (zY e.objs 0) ps (allC e.objs) fun v o=>match noC (dropO (zY e.objs 0) o)with
          |true=>En.set C {e with objs:=e.objs++dropO (zY e.objs 0) o} d v k
          |false=>none
        |false=>none
      |_,_=>none
    |_=>none
  |_=>none
structure Apd where
  t:TypeId
  x:Operand
  hi:Operand
  x2:Operand
  lo:Operand
  a:Nat
  b:Nat
  d:Option Nat
def apdP(ops:List Oper)(o:Oper):List Drawn→Option Apd
  |d2::d3::_=>match o.op,o.dst with
    | .slice t x none (some hi) none,some a=>match zM ops d2.ix,zM ops d3.ix with
      |some o2,some o3=>match o2.op,o2.dst,o2.guard,d2.how with
        | .slice t2 x2 (some lo) none none,some b,none,.fresh=>match o3.op,o3.guard,d3.how,d3.free with
          | .call ⟨.builtin .append,ag,ts⟩,none,.whole,[]=>match ag.toList,ts.toList with
            | [.tmp a',.tmp b'],t'::t2'::_=>match Nat.beq a a'&&Nat.beq b b' && !Nat.beq a b&&Nat.beq t t'&&Nat.beq t t2&&Nat.beq t t2' with
              |true=>some ⟨t,x,hi,x2,lo,a,b,o3.dst⟩
              |false=>none
            |_,_=>none
          |_,_,_,_=>none
        |_,_,_,_=>none
      |_,_=>none
    |_,_=>none
  |_=>none
def cutZ{α:Type}(l:List α)(i n:Int):Option (List α):=if 0≤i∧i<n∧n≤l.length then some (l.take i.toNat++l.drop n.toNat)else none
noncomputable def apdK(e:En)(p:Apd)(k:En→Option ρ):Option ρ:=match elK Γ p.t,e.ev C p.x,e.ev C p.hi with
  |some (el,sz,_,_),some (.one (.own j)),some (.one (.int .i64 i))=>match zM e.objs j,Nat.ble C.lent j with
    |some (.list t' w' τ' l),true=>match Nat.beq t' el&&Nat.beq w' sz with
      |true=>e.set C (some p.a) .any fun e=>match e.ev C p.x2,e.ev C p.lo with
        |some (.one (.own j2)),some (.one (.int .i64 n))=>match Nat.beq j j2 with
          |true=>e.set C (some p.b) .any fun e=>(cutZ l i n).bind fun r=>(e.setO j .dead).set C p.d (.one (.sl t' w' τ' r)) k
          |false=>none
        |_,_=>none
      |false=>none
    |_,_=>none
  |_,_,_=>none
def cvOp:Op→Bool
  | .convert _ _ _=>true
  |_=>false
noncomputable def drawK(ops:List Oper):List Drawn→En→(En→Option ρ)→Option ρ
  | [],e,k=>k e
  |d::r,e,k=>match zM ops d.ix with
    |some o=>wantK C ops e o (fun e=>match d.how with
        | .light=>match slOp o.op with
          |true=>effK Γ T inl rc C e o.dst o.op fun e=>drawK ops r e k
          |false=>pureK Γ C e o.op fun v=>e.set C o.dst v fun e=>drawK ops r e k
        | .whole=>match d.free with
         | []=>effK Γ T inl rc C e o.dst o.op fun e=>drawK ops r e k
         |_=>match freeK C ops e d.free&&(newOp o.op||slOp o.op||conOp T o.op||stOK C ops e d.free o.op||apOK C ops e d.free o.op)with
          |true=>freeI C ops e d.free fun _=>effK Γ T inl rc C e o.dst o.op fun e=>drawK ops r e k
          |false=>match freeK C ops e d.free&&inOp o.op with
            |true=>freeI C ops e d.free fun _=>inlD T inl C e o.dst o.op fun e=>drawK ops r e k
            |false=>none
        | .fresh=>match apdP ops o r with
         |some p=>match r with
          |_::_::r2=>apdK Γ C e p fun e=>drawK ops r2 e k
          |_=>none
         |none=>match newOp o.op||slOp o.op||conOp T o.op||cpOp C e o.op with
          |true=>effK Γ T inl rc C e o.dst o.op fun e=>drawK ops r e k
          |false=>match inOp o.op with
            |true=>inlD T inl C e o.dst o.op fun e=>drawK ops r e k
            |false=>match cvOp o.op with
              |true=>pureK Γ C e o.op fun v=>e.set C o.dst v fun e=>drawK ops r e k
              |false=>none
        | .new=>match (bsOp o.op||alOp o.op)&&o.dst.isSome with
          |true=>effK Γ T inl rc C e o.dst o.op fun e=>drawK ops r e k
          |false=>none) fun e=>e.set C o.dst Pv.undef fun e=>drawK ops r e k
    |none=>none
def nlK:Code→Nat
  | .seq a b=>nlK a+nlK b
  | .cond _ a b=>nlK a+nlK b
  | .block _ b=>nlK b
  | .loop b=>nlK b+1
  | .scope b=>nlK b
  |_=>0
def outK(w:En→En):List (Nat×(En→Option ρ))→List (Nat×(En→Option ρ))
  | []=>[]
  |(i,k)::r=>(i,fun e=>k (w e))::outK w r
variable(N:Nat)
noncomputable def xm:Code→Cx→List Hi→List (Nat×(En→Option ρ))→(En→Option ρ)→(En→Option ρ)→En→Option ρ
  | .skip,_,_,_,_,k,e=>k e
  | .label _,_,_,_,_,k,e=>k e
  | .seq a b,C,hs,ks,kr,k,e=>xm a C hs ks kr (xm b C (hs.drop (nlK a)) ks kr k) e
  | .cond c a b,C,hs,ks,kr,k,e=>match e.ev C c with
    |some (.one (.bool x))=>if x=true then xm a C hs ks kr k (e.mark c true)else xm b C (hs.drop (nlK a)) ks kr k (e.mark c false)
    |_=>none
  | .block i b,C,hs,ks,kr,k,e=>xm b C hs ((i,k)::ks) kr k e
  | .exit i,_,_,ks,_,_,e=>match find ks i with
    |some k=>k e
    |none=>none
  | .ret,_,_,_,kr,_,e=>kr e
  | .scope b,C,hs,ks,kr,k,e=>xm b C hs ks kr k e
  | .region _ ops false,C,_,_,_,k,e=>opsK Γ T inl rc C ops.toList ops.toList e k
  | .region _ ops true,C,_,_,_,k,e=>match planB ops.toList (plan ops.toList)with
    |true=>drawK Γ T inl rc C ops.toList (plan ops.toList) e k
    |false=>none
  | .loop b,C,hs,ks,kr,_,e=>match hs with
    |h::hs=>match h.un with
      |true=>zd (fun again e=>xm b C hs ks kr again e) h.fuel e
      |false=>loopK h C e fun C w again e=>xm b C hs (outK w ks) (fun e=>kr (w e)) again e
    | []=>none
  | .rangeFunc f ps x y,C,_,ks,kr,k,e=>match e.ev C f with
    |some (.clo g caps)=>match ((funcF Tryz.prog g && !Nat.ble zo g)&&(caps.all fun x=>Nat.beq x.w 1))&&((Nat.ble N 65534&&tmpB N f)&&(xo N x&&xo N y))&&(yM x&&yM y&&xz x&&xz y)with
      |true=>inl g (cobK (e.objs++[.loop N (e.slots++C.slots) ps.toList x y .ready none]) C.objs) C.lent (.one (.yl (zY e.objs 0))::caps.map .one) (e.objs++[.loop N (e.slots++C.slots) ps.toList x y .ready none]) fun _ o=>match zM o (zY e.objs 0),constB (e.objs++[.loop N (e.slots++C.slots) ps.toList x y .ready none]) o with
        |some (.loop _ _ _ _ _ .ready none),true=>k {e with objs:=zt o (zY e.objs 0) .dead}
        |some (.loop _ _ _ _ _ .done (some .ret)),true=>kr {e with objs:=zt o (zY e.objs 0) .dead}
        |_,_=>none
      |false=>none
    |_=>none
  |_,_,_,_,_,_,_=>none
def xk(rc:Nat):Op→Nat
  | .box _ _ | .alloc _ | .buildSlice _ _ _ | .makeSlice _ _ _=>1
  | .call c=>match c.callee with
    | .builtin _=>1
    | .value (.func g)=>match T g with
      |some con=>con.room
      |none=>rc
    |_=>rc
  |_=>0
def roomS(rc:Nat):List Oper→Nat
  | []=>0
  |o::r=>xk T rc o.op+roomS rc r
def roomD(rc:Nat)(ops:List Oper):List Drawn→Nat
  | []=>0
  |d::r=>(match zM ops d.ix with
    |some o=>xk T rc o.op
    |none=>0)+roomD rc ops r
def yN(rc:Nat):Code→List Hi→Nat
  | .seq a b,hs=>yN rc a hs+yN rc b (hs.drop (nlK a))
  | .cond _ a b,hs=>yN rc a hs+yN rc b (hs.drop (nlK a))
  | .block _ b,hs=>yN rc b hs
  | .scope b,hs=>yN rc b hs
  | .loop b,hs=>match hs with
    |h::hs=>h.fuel*yN rc b hs
    | []=>0
  | .region _ ops false,_=>roomS T rc ops.toList
  | .region _ ops true,_=>roomD T rc ops.toList (plan ops.toList)
  | .rangeFunc _ _ _ _,_=>rc+1
  |_,_=>0
noncomputable def resK(C:Cx)(e:En):List ResultVar→Option (List Pv)
  | []=>some []
  | .tmp t::r=>match e.get C t,resK C e r with
    |some p,some l=>some (p::l)
    |_,_=>none
  | .cell t ty::r=>match e.get C t,resK C e r with
    |some (.one (.ptr j off)),some l=>match e.obj C j with
      |some (.cells c)=>match cutK (yH Tryz.prog ty) off c with
        |some p=>some (p::l)
        |none=>none
      |_=>none
    |_,_=>none
def unQs:List Pv→Option (List (Bool×List Lf))
  | []=>some []
  |p::r=>match unQ p,unQs r with
    |some q,some l=>some (q::l)
    |_,_=>none
noncomputable def endK(C:Cx)(rs:List ResultVar)(e:En)(k:Pv→List Ob→Option ρ):Option ρ:=match resK C e rs with
  |some [p]=>k p e.objs
  |some l=>match unQs l with
    |some q=>k (.tup q) e.objs
    |none=>none
  |none=>none
def numS{α:Type}:Nat→List α→List (Nat×α)
  |_,[]=>[]
  |n,x::l=>(n,x)::numS (n+1) l
def hdN:List Nat→Nat
  | []=>0
  |n::_=>n
def putPs:List Nat→List Pv→List (Nat×Pv)→List (Nat×Pv)
  |t::ts,p::ps,l=>putPs ts ps (putS l t p)
  |_,_,l=>l
noncomputable def rndS(rc rc1:Nat)(inl:Inl ρ)(j:Nat)(co:List Ob)(lent:Nat)(args:List Pv)(objs:List Ob)(k:Pv→List Ob→Option ρ):Option ρ:=match En.obj {slots:=[],objs:=co,n:=zY objs 0,lent:=lent} {slots:=[],objs:=objs} j,zM objs j with
  |some (.loop N slots ps x y .ready none),some old=>match Nat.beq (zY args 0) (zY ps 0)&&Nat.ble lent j&&Nat.ble (yN T rc1 x []+yN T rc1 y []) rc with
    |true=>xm Γ T inl rc1 N x {slots:=[],objs:=co,n:=zY objs 0,lent:=lent} [] [] (fun _=>none) (fun e=>xm Γ T inl rc1 N y {slots:=[],objs:=co,n:=zY objs 0,lent:=lent} [] []
        (fun e=>k (.one (.bool false)) (zt e.objs j (.loop N [] ps x y .done (some .ret)))) (fun e=>k (.one (.bool true)) (zt e.objs j old)) e) {slots:=putPs ps args slots,objs:=zt objs j .dead}
    |false=>none
  |_,_=>none
noncomputable def funS(rc rc1:Nat)(inl:Inl ρ):Inl ρ:=fun g co lent args objs k=>match Nat.ble zo g with
 |true=>rndS Γ T rc rc1 inl (g-zo) co lent args objs k
 |false=>match Tryz.prog.funcs[g]? with
  |some fn=>match fn.body with
    |some c=>match funcB fn c (zY args 0) && !Nat.beq g 18 && !Nat.ble zo g&&Nat.ble (yN T rc1 c (Hs g)) rc with
      |true=>xm Γ T inl rc1 fn.ntmps c {slots:=[],objs:=co,n:=zY objs 0,lent:=lent} (Hs g) [] (fun e=>endK {slots:=[],objs:=co,n:=zY objs 0,lent:=lent} fn.results.toList e k) (fun e=>endK {slots:=[],objs:=co,n:=zY objs 0,lent:=lent} fn.results.toList e k) {slots:=numS 0 args,objs:=objs}
      |false=>none
    |none=>none
  |none=>none
noncomputable def funK:List Nat→Inl ρ
  | []=>fun _ _ _ _ _ _=>none
  |rc::rs=>funS Γ T Hs rc (hdN rs) (funK rs)
end
noncomputable def outP(τ:Ty)(p:Pv)(o:List Ob):Option τ.T:=match (En.mk [(0,p)] o).frzP ⟨[],[],0,0⟩ [p]with
  |some ⟨[(_,p)],_⟩=>readP τ p
  |_=>none
noncomputable def zK(Γ:TypeId→Option Ty)(T:FuncId→Option Con)(Hs:FuncId→List Hi)(rs:List Nat)(g:FuncId)(ar:List Ty)(τ:Ty)(x:Tp ar):Option τ.T:=
  funK Γ T Hs rs g [] 0 (toPs ar x) [] (outP τ)
end Go.Proofs.YtocnbjjmmgolfaaGreat
namespace Go.Proofs.YtocnbjjmmgolfaaGreat
open Go Go.M Go.Proofs.C14
abbrev Qs:=List (Value×Nat)
def JsR(Q:Qs):List Nat→List Value→Prop
 | [],c=>c=[]
 |j::r,c=>∃q c',Q[j]? = some q∧c=.pointer (some ⟨q.2,0,none⟩)::c'∧JsR Q r c'
def LfR(W:Wd)(Q:Qs):Lf→List Value→Prop
 | .int k x,c=>c=[.int k x]
 | .bool b,c=>c=[.bool b]
 | .rat q,c=>Rep W .rat c q
 | .sl t w e l,c=>Rep W (.sl t w e) c l
 | .nil,c=>c=[.slice none 0 0]
 | .nilf,c=>c=[.nilFunc]
 | .own j,c=>∃q,Q[j]? = some q∧c=[q.1]∧∃a n k,q.1=.slice a n k
 | .ptr j off,c=>∃q,Q[j]? = some q∧c=[.pointer (some ⟨q.2,off,none⟩)]
 | .ep t w e x off,c=>∃b o n cap L k,W.S t w (.slice (some ⟨b,o,none⟩) n cap) L∧k<L.length∧Rep W e (L.getD k []) x∧c=[.pointer (some ⟨b,o+k*w+off,none⟩)]
 | .op j w i off,c=>∃q,Q[j]? = some q∧c=[.pointer (some ⟨q.2,i.toNat*w+off,none⟩)]
 | .fn f,c=>c=[.func (.func f) #[] #[]]
 | .nilp,c=>c=[.pointer none]
 | .cl f js,c=>∃cs,c=[.func (.func f) ⟨[]⟩ ⟨cs⟩]∧JsR Q js cs
 | .yl j,c=>∃q,Q[j]? = some q∧c=[.func (.yield q.2) ⟨[]⟩ ⟨[]⟩]
 | .sp t w e l,c=>∃b o n cap L,c=[.pointer (some ⟨b,o,none⟩)]∧W.S t w (.slice (some ⟨b,o,none⟩) n cap) L∧L.length=l.length∧∀k x,l[k]? = some x→Rep W e (L.getD k []) x
 | .asl j n,c=>∃q,Q[j]? = some q∧c=[.slice (some ⟨q.2,0,none⟩) n (2*n)]
 | .unk,c=>∃v,c=[v]∧Go.M.plainCell v=true
def LsR(W:Wd)(Q:Qs):List Lf→List Value→Prop
 | [],c=>c=[]
 |x::l,c=>∃c1 c2,c=c1++c2∧LfR W Q x c1∧LsR W Q l c2
def QR(W:Wd)(Q:Qs)(p:Bool×List Lf)(v:Value):Prop:=match p.1 with
 |true=>∃c,v=.agg ⟨c⟩∧LsR W Q p.2 c
 |false=>∃x,p.2=[x]∧LfR W Q x [v]
def TsR(W:Wd)(Q:Qs):List (Bool×List Lf)→List Value→Prop
 | [],vs=>vs=[]
 |p::l,vs=>∃v r,vs=v::r∧QR W Q p v∧TsR W Q l r
def PvR(W:Wd)(Q:Qs):Pv→Value→Prop
 | .undef,v=>v=undef
 | .any,_=>True
 | .one x,v=>LfR W Q x [v]
 | .agg l,v=>∃c,v=.agg ⟨c⟩∧LsR W Q l c
 | .tup l,v=>∃vs,v=.tuple ⟨vs⟩∧TsR W Q l vs
 | .clo f l,v=>∃cs,v=.func (.func f) ⟨[]⟩ ⟨cs⟩∧LsR W Q l cs
def QLe(Q Q':Qs):Prop:=∀(i:Nat) (q:Value×Nat),Q[i]? = some q→Q'[i]? = some q
theorem QLe.rfl{Q:Qs}:QLe Q Q:=fun _ _ h=>h
theorem QLe.app{Q A:Qs}:QLe Q (Q++A):=fun i q h=>by
 rw[List.getElem?_append_left (List.getElem?_eq_some_iff.mp h).1];exact h
theorem QLe.take{Q:Qs}{n:Nat}:QLe (Q.take n) Q:=fun i q h=>by
 rw[List.getElem?_take]at h
 split at h
 ·exact h
 ·cases h
theorem QLe.trans{Q Q' Q'':Qs}(h:QLe Q Q')(g:QLe Q' Q''):QLe Q Q'':=fun i q x=>g i q (h i q x)
theorem JsR.mono{Q Q':Qs}(hq:QLe Q Q'):∀{js:List Nat} {c:List Value},JsR Q js c→JsR Q' js c
 | [],_,h=>h
 |_::_,_,⟨q,c',h1,h2,h3⟩=>⟨q,c',hq _ _ h1,h2,h3.mono hq⟩
section
variable{W W':Wd}{Q Q':Qs}
theorem LfR.mono(hw:WLe W W')(hq:QLe Q Q'){x:Lf}{c:List Value}(h:LfR W Q x c):LfR W' Q' x c:=by
 cases x with
 |int|bool|nil|nilf|nilp|fn|unk=>exact h
 |cl f js=>obtain⟨cs,e,h⟩:=h;exact⟨cs,e,h.mono hq⟩
 |yl j=>obtain⟨q,h1,h2⟩:=h;exact⟨q,hq _ _ h1,h2⟩
 |asl j n=>obtain⟨q,h1,h2⟩:=h;exact⟨q,hq _ _ h1,h2⟩
 |sp t w e l=>obtain⟨b,o,n,cap,L,e1,h1,h2,h3⟩:=h;exact⟨b,o,n,cap,L,e1,hw.s _ _ _ _ h1,h2,fun k x hx=>Rep.mono hw (h3 k x hx)⟩
 |rat q=>exact Rep.mono hw (τ:=.rat) h
 |sl t w e l=>exact Rep.mono hw (τ:=.sl t w e) h
 |own j=>obtain⟨q,h1,h2⟩:=h;exact⟨q,hq _ _ h1,h2⟩
 |ptr j off=>obtain⟨q,h1,h2⟩:=h;exact⟨q,hq _ _ h1,h2⟩
 |op j w i off=>obtain⟨q,h1,h2⟩:=h;exact⟨q,hq _ _ h1,h2⟩
 |ep t w e x off=>obtain⟨b,o,n,cap,L,k,h1,h2,h3,h4⟩:=h;exact⟨b,o,n,cap,L,k,hw.s _ _ _ _ h1,h2,Rep.mono hw h3,h4⟩
theorem LsR.mono(hw:WLe W W')(hq:QLe Q Q'){l:List Lf}{c:List Value}(h:LsR W Q l c):LsR W' Q' l c:=by
 induction l generalizing c with
 |nil=>exact h
 |cons x l ih=>obtain⟨c1,c2,e,h1,h2⟩:=h;exact⟨c1,c2,e,h1.mono hw hq,ih h2⟩
theorem QR.mono(hw:WLe W W')(hq:QLe Q Q'){p:Bool×List Lf}{v:Value}(h:QR W Q p v):QR W' Q' p v:=by
 obtain⟨b,l⟩:=p
 cases b with
 |true=>obtain⟨c,e,h⟩:=h;exact⟨c,e,h.mono hw hq⟩
 |false=>obtain⟨x,e,h⟩:=h;exact⟨x,e,h.mono hw hq⟩
theorem TsR.mono(hw:WLe W W')(hq:QLe Q Q'){l:List (Bool×List Lf)}{c:List Value}(h:TsR W Q l c):TsR W' Q' l c:=by
 induction l generalizing c with
 |nil=>exact h
 |cons x l ih=>obtain⟨c1,c2,e,h1,h2⟩:=h;exact⟨c1,c2,e,h1.mono hw hq,ih h2⟩
theorem PvR.mono(hw:WLe W W')(hq:QLe Q Q'){p:Pv}{v:Value}(h:PvR W Q p v):PvR W' Q' p v:=by
 cases p with
 |undef=>exact h
 |any=>trivial
 |one x=>exact LfR.mono hw hq h
 |agg l=>obtain⟨c,e,h⟩:=h;exact⟨c,e,h.mono hw hq⟩
 |tup l=>obtain⟨c,e,h⟩:=h;exact⟨c,e,h.mono hw hq⟩
 |clo f l=>obtain⟨c,e,h⟩:=h;exact⟨c,e,h.mono hw hq⟩
theorem LfR.len{x:Lf}{c:List Value}(h:LfR W Q x c):c.length=x.w:=by
 cases x with
 |unk=>obtain⟨v,rfl,_⟩:=h;rfl
 |int|bool|nil|nilf|nilp|fn=>rw[show c=_ from h];rfl
 |cl f js=>obtain⟨cs,rfl,h⟩:=h;rfl
 |yl j=>obtain⟨q,h1,rfl⟩:=h;rfl
 |asl j n=>obtain⟨q,h1,rfl⟩:=h;rfl
 |sp t w e l=>obtain⟨b,o,n,cap,L,rfl,h⟩:=h;rfl
 |rat q=>exact Rep.len (τ:=.rat) h
 |sl t w e l=>exact Rep.len (τ:=.sl t w e) h
 |own j=>obtain⟨q,h1,rfl,_⟩:=h;rfl
 |ptr j off=>obtain⟨q,h1,rfl⟩:=h;rfl
 |op j w i off=>obtain⟨q,h1,rfl⟩:=h;rfl
 |ep t w e x off=>obtain⟨b,o,n,cap,L,k,h1,h2,h3,rfl⟩:=h;rfl
theorem LsR.len{l:List Lf}{c:List Value}(h:LsR W Q l c):c.length=wid l:=by
 induction l generalizing c with
 |nil=>rw[show c=[]from h];rfl
 |cons x l ih=>obtain⟨c1,c2,rfl,h1,h2⟩:=h;rw[List.length_append,h1.len,ih h2];rfl
theorem LfR.plain{x:Lf}{c:List Value}(h:LfR W Q x c):c.all Go.M.plainCell=true:=by
 cases x with
 |unk=>obtain⟨v,rfl,h⟩:=h;simpa using h
 |int|bool|nil|nilf|nilp|fn=>rw[show c=_ from h];rfl
 |cl f js=>obtain⟨cs,rfl,h⟩:=h;rfl
 |yl j=>obtain⟨q,h1,rfl⟩:=h;rfl
 |asl j n=>obtain⟨q,h1,rfl⟩:=h;rfl
 |sp t w e l=>obtain⟨b,o,n,cap,L,rfl,h⟩:=h;rfl
 |rat q=>exact Rep.plain (τ:=.rat) h
 |sl t w e l=>exact Rep.plain (τ:=.sl t w e) h
 |own j=>
  obtain⟨q,h1,rfl,a,n,k,h2⟩:=h
  rw[h2];rfl
 |ptr j off=>obtain⟨q,h1,rfl⟩:=h;rfl
 |op j w i off=>obtain⟨q,h1,rfl⟩:=h;rfl
 |ep t w e x off=>obtain⟨b,o,n,cap,L,k,h1,h2,h3,rfl⟩:=h;rfl
theorem LsR.plain{l:List Lf}{c:List Value}(h:LsR W Q l c):c.all Go.M.plainCell=true:=by
 induction l generalizing c with
 |nil=>rw[show c=[]from h];rfl
 |cons x l ih=>obtain⟨c1,c2,rfl,h1,h2⟩:=h;rw[List.all_append,h1.plain,ih h2];rfl
theorem LsR.append{l l':List Lf}{c c':List Value}(h:LsR W Q l c)(h':LsR W Q l' c'):LsR W Q (l++l') (c++c'):=by
 induction l generalizing c with
 |nil=>rw[show c=[]from h];exact h'
 |cons x l ih=>obtain⟨c1,c2,rfl,h1,h2⟩:=h;exact⟨c1,c2++c',List.append_assoc ..,h1,ih h2⟩
theorem LsR.one{x:Lf}{c:List Value}(h:LfR W Q x c):LsR W Q [x] c:=⟨c,[],(List.append_nil _).symm,h,rfl⟩
theorem LsR.one'{x:Lf}{c:List Value}(h:LsR W Q [x] c):LfR W Q x c:=by
 obtain⟨c1,c2,rfl,h1,h2⟩:=h
 rw[show c2=[]from h2,List.append_nil];exact h1
theorem LsR.skip{l r:List Lf}{n:Nat}{c:List Value}(h:LsR W Q l c)(hs:skipL l n=some r):LsR W Q r (c.drop n)∧n≤c.length:=by
 induction l generalizing c n with
 |nil=>
  cases n with
  |zero=>cases hs;exact⟨h,Nat.zero_le _⟩
  |succ n=>cases hs
 |cons x l ih=>
  cases n with
  |zero=>cases hs;exact⟨h,Nat.zero_le _⟩
  |succ n=>
   obtain⟨c1,c2,rfl,h1,h2⟩:=h
   simp only[skipL]at hs
   split at hs
   ·next hb=>
    have hb:=Nat.le_of_ble_eq_true hb
    have hl:=h1.len
    obtain⟨g1,g2⟩:=ih h2 hs
    rw[List.drop_append,hl,List.drop_eq_nil_of_le Oz,List.nil_append]
    exact⟨g1,by rw[List.length_append];omega⟩
   ·cases hs
theorem LsR.grab{l r:List Lf}{n:Nat}{c:List Value}(h:LsR W Q l c)(hs:grabL l n=some r):LsR W Q r (c.take n)∧n≤c.length:=by
 induction l generalizing c n r with
 |nil=>
  cases n with
  |zero=>cases hs;exact⟨rfl,Nat.zero_le _⟩
  |succ n=>cases hs
 |cons x l ih=>
  cases n with
  |zero=>cases hs;exact⟨rfl,Nat.zero_le _⟩
  |succ n=>
   obtain⟨c1,c2,rfl,h1,h2⟩:=h
   simp only[grabL]at hs
   split at hs
   ·next hb=>
    have hb:=Nat.le_of_ble_eq_true hb
    have hl:=h1.len
    split at hs
    ·next r' hr=>
     cases hs
     obtain⟨g1,g2⟩:=ih h2 hr
     rw[List.take_append,hl,List.take_of_length_le Oz]
     exact⟨⟨c1,_,rfl,h1,g1⟩,by rw[List.length_append];omega⟩
    ·cases hs
   ·cases hs
theorem lput_eq:∀(n:Nat) (vs c:List Value),n+vs.length≤c.length→xh n vs c=some (c.take n++(vs++c.drop (n+vs.length))):=by
 have lover_eq:∀(vs c:List Value),vs.length≤c.length→xO vs c=some (vs++c.drop vs.length):=by
  intro vs
  induction vs with
  |nil=>intro c _;rfl
  |cons v vs ih=>
   intro c hc
   cases c with
   |nil=>simp at hc
   |cons x c=>simp only[xO,ih c (by simpa using hc)];rfl
 intro n
 induction n with
 |zero=>intro vs c h;simp only[xh];rw[lover_eq vs c Oz];simp
 |succ n ih=>
  intro vs c h
  cases c with
  |nil=>simp at h
  |cons x c=>
   simp only[xh]
   rw[ih vs c (by simp only[List.length_cons]at h;omega)]
   simp only[List.take_succ_cons,List.cons_append,show n+1+vs.length=n+vs.length+1 by omega,List.drop_succ_cons]
theorem LsR.put{l r new:List Lf}{n:Nat}{c vs:List Value}(h:LsR W Q l c)(hv:LsR W Q new vs)(hs:putL l n new=some r):∃c',xh n vs c=some c'∧LsR W Q r c':=by
 suffices hh:n+vs.length≤c.length∧LsR W Q r (c.take n++(vs++c.drop (n+vs.length)))from⟨_,lput_eq _ _ _ hh.1,hh.2⟩
 have hvl:=hv.len
 induction l generalizing c n r with
 |nil=>
  cases n with
  |zero=>
   simp only[putL]at hs
   split at hs
   ·next r' hr=>
    cases hs
    obtain⟨g1,g2⟩:=h.skip hr
    rw[←hvl]at g1 g2
    refine⟨by omega,?_⟩
    rw[Nat.zero_add,List.take_zero,List.nil_append]
    exact hv.append g1
   ·cases hs
  |succ n=>cases hs
 |cons x l ih=>
  cases n with
  |zero=>
   simp only[putL]at hs
   split at hs
   ·next r' hr=>
    cases hs
    obtain⟨g1,g2⟩:=h.skip hr
    rw[←hvl]at g1 g2
    refine⟨by omega,?_⟩
    rw[Nat.zero_add,List.take_zero,List.nil_append]
    exact hv.append g1
   ·cases hs
  |succ n=>
   obtain⟨c1,c2,rfl,h1,h2⟩:=h
   simp only[putL]at hs
   split at hs
   ·next hb=>
    have hb:=Nat.le_of_ble_eq_true hb
    have hl:=h1.len
    split at hs
    ·next r' hr=>
     cases hs
     obtain⟨g1,g2⟩:=ih h2 hr
     refine⟨by rw[List.length_append];omega,?_⟩
     rw[List.take_append,hl,List.take_of_length_le Oz,List.drop_append,hl,List.drop_eq_nil_of_le (by omega:c1.length≤n+1+vs.length),List.nil_append,List.append_assoc]
     refine⟨c1,_,rfl,h1,?_⟩
     rw[show n+1+vs.length-x.w=n+1-x.w+vs.length by omega]
     exact g2
    ·cases hs
   ·cases hs
theorem cut_ok{sh:Option (Option Nat)}{off:Nat}{l:List Lf}{c:List Value}{p:Pv}(h:LsR W Q l c)(hc:cutK sh off l=some p):∃v,cutL sh off c=some v∧PvR W Q p v:=by
 unfold cutK at hc
 split at hc
 ·split at hc
  ·next x r hs=>
   obtain⟨g1,g2⟩:=h.skip hs
   obtain⟨c1,c2,e,h1,h2⟩:=g1
   split at hc
   ·next hw=>
    cases hc
    have hl:=h1.len
    rw[hw]at hl
    obtain⟨v,rfl⟩:=List.length_eq_one_iff.mp hl
    refine⟨v,?_,h1⟩
    simp only[cutL,zC]
    have:(c.drop off)[0]? = some v:=by rw[e];rfl
    rw[List.getElem?_drop]at this
    exact this
   ·cases hc
  ·cases hc
 ·next n=>
  split at hc
  ·next r hs=>
   split at hc
   ·next g hg=>
    cases hc
    obtain⟨g1,g2⟩:=h.skip hs
    obtain⟨g3,g4⟩:=g1.grab hg
    refine⟨.agg ⟨(c.drop off).take n⟩,?_,⟨_,rfl,g3⟩⟩
    simp only[cutL,y5,y6,if_pos g4]
   ·cases hc
  ·cases hc
 ·cases hc
theorem qD:{τ:Ty}→{c:List Value}→{x:τ.T}→Rep W τ c x→LsR W Q (flat τ x) c
 | .int k,_,_,h=>LsR.one h
 | .bool,_,_,h=>LsR.one h
 | .rat,_,_,h=>LsR.one h
 | .sl t w e,_,_,h=>LsR.one h
 | .one a,_,_,h=>qD (τ:=a) h
 | .pair a b,_,_,⟨c1,c2,e,h1,h2⟩=>e▸(qD h1).append (qD h2)
 | .tup _ _,_,_,h=>h.elim
 | .tup3 _ _ _,_,_,h=>h.elim
theorem nil_sl{t w:Nat}{e:Ty}{D:Hp'}{W:Wd}:Rep (W.x D) (.sl t w e) [.slice none 0 0] ([]:List e.T):=sl0
theorem castL_rep{t w:Nat}{e e':Ty}(h:e'=e){l:List e'.T}{c:List Value}(hl:Rep W (.sl t w e') c l):Rep W (.sl t w e) c (castL h l):=by subst h;exact hl
end
theorem read_ok{W:Wd}{D:Hp'}{Q:Qs}(τ:Ty):∀{l r:List Lf} {c:List Value} {x:τ.T},LsR (W.x D) Q l c→yY τ l=some (x,r)→∃c1 c2,c=c1++c2∧Rep (W.x D) τ c1 x∧LsR (W.x D) Q r c2:=by
 induction τ with
 |int k=>
  intro l r c x h hr
  cases l with
  |nil=>simp only[yY]at hr;cases hr
  |cons y l=>
   cases y with
   |int k' z=>
    simp only[yY]at hr
    split at hr
    ·next hk=>cases hr;subst hk;obtain⟨c1,c2,e,h1,h2⟩:=h;exact⟨c1,c2,e,h1,h2⟩
    ·cases hr
   |_=>simp only[yY]at hr;cases hr
 |bool=>
  intro l r c x h hr
  cases l with
  |nil=>simp only[yY]at hr;cases hr
  |cons y l=>
   cases y with
   |bool z=>simp only[yY]at hr;cases hr;obtain⟨c1,c2,e,h1,h2⟩:=h;exact⟨c1,c2,e,h1,h2⟩
   |_=>simp only[yY]at hr;cases hr
 |rat=>
  intro l r c x h hr
  cases l with
  |nil=>simp only[yY]at hr;cases hr
  |cons y l=>
   cases y with
   |rat z=>simp only[yY]at hr;cases hr;obtain⟨c1,c2,e,h1,h2⟩:=h;exact⟨c1,c2,e,h1,h2⟩
   |_=>simp only[yY]at hr;cases hr
 |sl t w τ ih=>
  intro l r c x h hr
  cases l with
  |nil=>simp only[yY]at hr;cases hr
  |cons y l=>
   cases y with
   |sl t' w' τ' z=>
    simp only[yY]at hr
    split at hr
    ·next hk=>
     obtain⟨c1,c2,e,h1,h2⟩:=h
     simp only[Option.some.injEq,Prod.mk.injEq]at hr
     obtain⟨rfl,rfl⟩:=hr
     obtain⟨rfl,rfl,he⟩:=hk
     exact⟨c1,c2,e,castL_rep he h1,h2⟩
    ·cases hr
   |nil=>
    simp only[yY]at hr
    cases hr
    obtain⟨c1,c2,e,h1,h2⟩:=h
    exact⟨c1,c2,e,by rw[show c1=_ from h1];exact nil_sl,h2⟩
   |_=>simp only[yY]at hr;cases hr
 |one a ih=>intro l r c x h hr;simp only[yY]at hr;exact ih h hr
 |pair a b iha ihb=>
  intro l r c x h hr
  simp only[yY]at hr
  split at hr
  ·next y r1 hy=>
   obtain⟨c1,c2,rfl,h1,h2⟩:=iha h hy
   split at hr
   ·next z r2 hz=>
    cases hr
    obtain⟨c3,c4,rfl,h3,h4⟩:=ihb h2 hz
    exact⟨c1++c3,c4,(List.append_assoc ..).symm,⟨c1,c3,rfl,h1,h3⟩,h4⟩
   ·cases hr
  ·cases hr
 |tup a b=>intro l r c x h hr;cases l<;>(try rename_i y _;cases y)<;>(simp only[yY]at hr;cases hr)
 |tup3 a b c=>intro l r c x h hr;cases l<;>(try rename_i y _;cases y)<;>(simp only[yY]at hr;cases hr)
end Go.Proofs.YtocnbjjmmgolfaaGreat
