/- An abstract machine over the model's code: a deterministic interpreter on a heap of its own. -/
import Derived.Test.YtocnbjjmmgolfaaGreatA00
import Derived.Defers
set_option linter.unusedSimpArgs false
set_option linter.unusedVariables false
set_option linter.unusedSectionVars false
namespace Go.M
inductive Tr(α:Type) where
 |nil
 |node (v:Option α) (l r:Tr α)
namespace Tr
variable{α:Type}
def get:Tr α->Nat->Option α
 | .nil,_=>none
 | .node v l r,n=>
  match n with
  |0=>v
  |k+1=>match k % 2 with
   |0=>l.get (k / 2)
   |_=>r.get (k / 2)
def put:Nat->Tr α->Nat->Option α->Tr α
 |0,t,_,_=>t
 |d+1,t,n,x=>
  match t with
  | .nil=>match n with
   |0=>.node x .nil .nil
   |k+1=>match k % 2 with
    |0=>.node none (put d .nil (k / 2) x) .nil
    |_=>.node none .nil (put d .nil (k / 2) x)
  | .node v l r=>match n with
   |0=>.node x l r
   |k+1=>match k % 2 with
    |0=>.node v (put d l (k / 2) x) r
    |_=>.node v l (put d r (k / 2) x)
end Tr
def zH{α:Type}:List α->Nat->Option α
 | [],_=>none
 |x::l,n=>match n with
  |0=>some x
  |k+1=>zH l k
def y8{α:Type}:Nat->List α->Option (List α)
 |0,_=>some []
 |_+1,[]=>none
 |n+1,x::l=>match y8 n l with
  |some r=>some (x::r)
  |none=>none
def xr{α:Type}:Nat->List α->List α
 |0,l=>l
 |_+1,[]=>[]
 |n+1,_::l=>xr n l
def xI{α:Type}:List α->List α->Option (List α)
 | [],l=>some l
 |_::_,[]=>none
 |v::vs,_::l=>match xI vs l with
  |some r=>some (v::r)
  |none=>none
def yK{α:Type}:Nat->List α->List α->Option (List α)
 |0,vs,l=>xI vs l
 |_+1,_,[]=>none
 |n+1,vs,x::l=>match yK n vs l with
  |some r=>some (x::r)
  |none=>none
def yD{α:Type}:List α->Nat->Nat
 | [],n=>n
 |_::l,n=>yD l (n+1)
def qv{α β:Type}(f:α->β):List α->List β
 | []=>[]
 |x::l=>f x::qv f l
def Rl:Fn->Bool
 | .func n=>Nat.beq n 138
 | .yield _=>true
 |_=>false
structure Fr where
 size:Nat
 tmps:Tr Value
structure Lp where
 fr:Fr
 params:List Tmp
 assign:Code
 body:Code
 state:LoopState
 pend:Option Code
inductive ak where
 |cells (c:List Value) (elem:TypeId)
 |map (es:Array MapEntry) (clock:Nat)
 |loop (lp:Lp)
structure St where
 next:Nat
 bar:Nat
 prot:List Nat
 heap:Tr ak
inductive cE(α:Type) where
 |ok (a:α) (s:St)
 |panic (v:Value) (s:St)
 |stuck
def depth:Nat:=48
def St.may(s:St)(b:Nat):Bool:=Nat.ble s.bar b && !s.prot.any (Nat.beq b)
def St.get(s:St)(b:Nat):Option ak:=s.heap.get b
def St.put(s:St)(b:Nat)(o:Option ak):St:={s with heap:=s.heap.put depth b o}
def St.new(s:St)(o:ak):St:={next:=s.next+1,bar:=s.bar,prot:=s.prot,heap:=s.heap.put depth s.next (some o)}
def St.room(s:St):Bool:=Nat.blt s.next 281474976710655
def cE.map{α β:Type}(f:α->β):cE α->cE β
 | .ok a s=>.ok (f a) s
 | .panic v s=>.panic v s
 | .stuck=>.stuck
def k6{α:Type}(P:Program):Sem α->St->cE α
 | .pure a,s=>.ok a s
 | .load _ a k,s=>
  match s.get a.block with
  |some (.cells c _)=>match a.spot with
   |none=>match zH c a.off with
    |some v=>k6 P (k v) s
    |none=>.stuck
   |some _=>.stuck
  |_=>.stuck
 | .store _ a v k,s=>
  match v with
  | .agg _ | .tuple _=>.stuck
  |v=>
   match s.get a.block with
   |some (.cells c e)=>match a.spot with
    |none=>
     match s.may a.block,yK a.off [v] c with
     |true,some c=>k6 P k (s.put a.block (some (.cells c e)))
     |_,_=>.stuck
    |some _=>.stuck
   |_=>.stuck
 | .new o k,s=>
  match s.room,o with
  |true,.cells c e _=>k6 P (k s.next) (s.new (.cells c.toList e))
  |true,.map es c=>k6 P (k s.next) (s.new (.map es c))
  |_,_=>.stuck
 | .shape _ _,_=>.stuck
 | .freeze _ _ _,_=>.stuck
 | .frozen _ _,_=>.stuck
 | .getObj r k,s=>
  match s.get r with
  |some (.map es c)=>k6 P (k (.map es c)) s
  |_=>.stuck
 | .setObj r o k,s=>
  match s.get r with
  |some (.map _ _)=>
   match o with
   | .map es c=>match s.may r with
    |true=>k6 P k (s.put r (some (.map es c)))
    |false=>.stuck
   |_=>.stuck
  |_=>.stuck
 | .choose q k,s=>match q.forced with
  |true=>k6 P (k 0) s
  |false=>.stuck
 | .sys _ _,_=>.stuck
 | .program k,s=>k6 P (k P) s
 | .mark _ k,s=>k6 P k s
 | .halt (.panic v),s=>.panic v s
 | .halt _,_=>.stuck
def di(v:Value)(s:St):cE Next:=.ok (.value v) s
def YE(c a b:Value)(s:St):cE Next:=
 match c with
 | .bool true=>di a s
 | .bool false=>di b s
 |_=>.stuck
def z3(P:Program)(t:TypeId):Option (Option Nat):=
 match P.underlying t,P.info? t with
 |some (.struct _),some i=>some (some i.size)
 |some (.array _ _),some i=>some (some i.size)
 |some _,some _=>some none
 |_,_=>none
def jv(sh:Option (Option Nat))(off:Nat)(c:List Value):Option Value:=
 match sh with
 |some none=>zH c off
 |some (some n)=>match y8 n (xr off c)with
  |some l=>some (.agg ⟨l⟩)
  |none=>none
 |none=>none
def wc(P:Program)(t:TypeId)(x:Value)(s:St):Option Value:=
 match x with
 | .pointer (some ⟨b,off,none⟩)=>
  match s.get b with
  |some (.cells c _)=>jv (z3 P t) off c
  |_=>none
 |_=>none
def uI(P:Program)(t:TypeId)(x:Value)(s:St):cE Next:=
 match wc P t x s with
 |some v=>di v s
 |none=>.stuck
def plainCell:Value->Bool
 | .agg _ | .tuple _=>false
 |_=>true
def yr:Value->List Value
 | .agg cs=>cs.toList
 |v=>[v]
def xu(b off:Nat)(vs:List Value)(s:St):cE Next:=
 match s.get b with
 |some (.cells c e)=>
  match vs.all plainCell&&s.may b,yK off vs c with
  |true,some c=>.ok .skip (s.put b (some (.cells c e)))
  |_,r=>match vs,r with
   | [],some _=>.ok .skip s
   |_,_=>.stuck
 |_=>.stuck
def Xl(P:Program)(t:TypeId)(x v:Value)(s:St):cE Next:=
 match x,P.info? t with
 | .pointer (some ⟨b,off,none⟩),some i=>
  match Nat.beq (yD (yr v) 0) i.size with
  |true=>xu b off (yr v) s
  |false=>.stuck
 |_,_=>.stuck
def XN(e:TypeId)(c:List Value)(s:St):cE Next:=
 match s.room with
 |true=>di (.pointer (some ⟨s.next,0,none⟩)) (s.new (.cells c e))
 |false=>.stuck
def gJ(P:Program)(e:TypeId)(s:St):cE Next:=
 match P.info? e with
 |some i=>match i.zero with
  |some z=>XN e (yr z) s
  |none=>.stuck
 |none=>.stuck
def ZI(P:Program)(t:TypeId)(f:Nat):Option Nat:=
 match P.underlying t with
 |some (.struct fields)=>match zH fields.toList f with
  |some fd=>match P.info? fd.type with
   |some i=>match i.size with
    |0=>none
    |_+1=>some fd.offset
   |none=>none
  |none=>none
 |_=>none
def ju(P:Program)(t:TypeId)(x:Value)(f:Nat)(s:St):cE Next:=
 match x,ZI P t f with
 | .pointer (some ⟨b,off,none⟩),some n=>di (.pointer (some ⟨b,off+n,none⟩)) s
 |_,_=>.stuck
def wM(P:Program)(t:TypeId):Option (Bool×Nat×Nat):=
 match P.underlying t with
 |some (.slice e)=>match P.info? e with
  |some i=>some (true,0,i.size)
  |none=>none
 |some (.array n e)=>match P.info? e with
  |some i=>some (false,n,i.size)
  |none=>none
 |_=>none
def xl(n len b off sz:Nat)(s:St):cE Next:=
 match Nat.blt n len with
 |true=>di (.pointer (some ⟨b,off+n*sz,none⟩)) s
 |false=>.stuck
def kS(P:Program)(t:TypeId)(x i:Value)(s:St):cE Next:=
 match i with
 | .int _ (.ofNat n)=>match wM P t,x with
  |some (true,_,sz),.slice (some ⟨b,off,none⟩) len _=>xl n len b off sz s
  |some (false,len,sz),.pointer (some ⟨b,off,none⟩)=>xl n len b off sz s
  |_,_=>.stuck
 |_=>.stuck
def fG:Int->Int->Bool
 | .ofNat a,.ofNat b=>Nat.ble a b
 | .ofNat _,.negSucc _=>false
 | .negSucc _,.ofNat _=>true
 | .negSucc a,.negSucc b=>Nat.ble b a
def lG:Int->Int->Bool
 | .ofNat a,.ofNat b=>Nat.beq a b
 | .negSucc a,.negSucc b=>Nat.beq a b
 |_,_=>false
def Vn:Int->Bool
 | .ofNat a=>Nat.ble a 9223372036854775807
 | .negSucc a=>Nat.ble a 9223372036854775807
def wd(n:Int):Option Value:=
 match Vn n with
 |true=>some (.int .i64 n)
 |false=>none
def yT(op:BinOp)(a b:Int):Option Value:=
 match op with
 | .add=>wd (a+b)
 | .sub=>wd (a-b)
 | .mul=>wd (a*b)
 | .eql=>some (.bool (lG a b))
 | .neq=>some (.bool !(lG a b))
 | .lss=>some (.bool !(fG b a))
 | .leq=>some (.bool (fG a b))
 | .gtr=>some (.bool !(fG a b))
 | .geq=>some (.bool (fG b a))
 |_=>none
def Li(d:TypeDesc)(x y:Value):Option Bool:=
 match d with
 | .bool=>match x,y with
  | .bool a,.bool b=>some (a==b)
  |_,_=>none
 | .pointer _=>match x,y with
  | .pointer none,.pointer b=>some b.isNone
  | .pointer (some _),.pointer none=>some false
  |_,_=>none
 | .slice _=>match x,y with
  | .slice none _ _,.slice b _ _=>some b.isNone
  | .slice (some _) _ _,.slice none _ _=>some false
  |_,_=>none
 | .map _ _=>match x,y with
  | .map none,.map b=>some b.isNone
  | .map (some _),.map none=>some false
  |_,_=>none
 | .func _ _ _=>match x,y with
  | .nilFunc,.nilFunc=>some true
  | .nilFunc,.func _ _ _=>some false
  | .func _ _ _,.nilFunc=>some false
  |_,_=>none
 |_=>none
def tK(P:Program)(op:BinOp)(t:TypeId)(x y:Value)(s:St):cE Next:=
 match P.underlying t with
 |some d=>match Li d x y,op with
  |some b,.eql=>di (.bool b) s
  |some b,.neq=>di (.bool !b) s
  |_,_=>.stuck
 |none=>.stuck
def qU(P:Program)(op:BinOp)(t:TypeId)(k k':IntKind)(a b:Int)(s:St):cE Next:=
 match k,k' with
 | .i64,.i64=>match yT op a b with
  |some v=>di v s
  |none=>(k6 P (binOp op t (.int .i64 a) (.int .i64 b)) s).map .value
 |k,k'=>(k6 P (binOp op t (.int k a) (.int k' b)) s).map .value
def qM(P:Program)(op:BinOp)(t:TypeId)(x y:Value)(s:St):cE Next:=
 match x,y with
 | .int k a,.int k' b=>qU P op t k k' a b s
 |x,y=>tK P op t x y s
def BS(P:Program)(op:UnOp)(x:Value)(s:St):cE Next:=
 match x with
 | .bool b=>match op with
  | .not=>di (.bool !b) s
  |_=>.stuck
 | .int k n=>(k6 P (Op.unary op (.int k n)) s).map .value
 |_=>.stuck
def vF(x:Value)(i:Nat)(s:St):cE Next:=
 match x with
 | .tuple vs=>match zH vs.toList i with
  |some v=>di v s
  |none=>.stuck
 |_=>.stuck
def K3(x:Value)(s:St):cE Next:=
 match x with
 | .pointer (some a)=>di (.pointer (some a)) s
 | .func (.func f) a b=>di (.func (.func f) a b) s
 |_=>.stuck
def iN(P:Program)(t:TypeId)(x:Value)(s:St):cE Next:=
 match P.underlying t,x with
 |some (.array (n+1) _),.slice (some ⟨b,off,none⟩) len _=>match Nat.ble (n+1) len with
  |true=>di (.pointer (some ⟨b,off,none⟩)) s
  |false=>.stuck
 |_,_=>.stuck
def uP(e:TypeId)(c:List Value)(n:Nat)(s:St):cE Next:=
 match s.room with
 |true=>di (.slice (some ⟨s.next,0,none⟩) n (2*n+1)) (s.new (.cells c e))
 |false=>.stuck
def vG(P:Program)(src dst:TypeId)(x:Value)(s:St):cE Next:=
 match P.underlying src,P.underlying dst with
 |some _,some (.int k)=>match x with
  | .int _ n=>di (.int k (k.wrap n)) s
  |_=>.stuck
 |_,_=>.stuck
def ZV(P:Program)(t:TypeId)(x:Value)(f:Nat)(s:St):cE Next:=
 match x,P.underlying t with
 | .agg cs,some (.struct fields)=>match zH fields.toList f with
  |some fd=>match jv (z3 P fd.type) fd.offset cs.toList with
   |some v=>di v s
   |none=>.stuck
  |none=>.stuck
 |_,_=>.stuck
def wK(P:Program)(t:TypeId)(x i:Value)(s:St):cE Next:=
 match i with
 | .int _ (.ofNat n)=>match x,P.underlying t with
  | .agg cs,some (.array len e)=>match Nat.blt n len,P.info? e with
   |true,some inf=>match jv (z3 P e) (n*inf.size) cs.toList with
    |some v=>di v s
    |none=>.stuck
   |_,_=>.stuck
  | .string b,some .string=>match zH b.data.toList n with
   |some c=>di (.int .u8 c.toNat) s
   |none=>.stuck
  |_,_=>.stuck
 |_=>.stuck
def qh(v:Option Value)(a:Nat):Option Nat:=
 match v with
 |none=>some a
 |some (.int _ (.ofNat n))=>some n
 |_=>none
def xR(sz:Nat)(a:Option Addr)(len c:Nat)(known:Bool)(lo hi mx:Option Value)(s:St):cE Next:=
 match qh lo 0,qh hi len,qh mx c with
 |some l,some h,some m=>
  match Nat.ble l h&&Nat.ble h m&&Nat.ble m c&&(hi.isSome || !mx.isSome)with
  |true=>match known||mx.isSome with
   |true=>di (.slice (if Nat.beq m l then a else a.map (·.add (l*sz))) (h-l) (2*(m-l))) s
   |false=>di (.slice (a.map (·.add (l*sz))) (h-l) (2*(m-l)+1)) s
  |false=>.stuck
 |_,_,_=>.stuck
def wo(e:TypeId)(a:Option Addr)(cap:Nat)(s:St):Bool:=
 match cap % 2 with
 |0=>true
 |_=>match a with
  |some a=>match s.get a.block with
   |some (.cells _ b)=>Nat.beq e b
   |_=>false
  |none=>false
def qf(P:Program)(t:TypeId)(x:Value)(lo hi mx:Option Value)(s:St):cE Next:=
 match P.underlying t with
 |some (.slice e)=>match P.info? e,x with
  |some i,.slice a len cap=>match cap % 2 with
   |0=>xR i.size a len (cap / 2) true lo hi mx s
   |_=>match wo e a cap s with
    |true=>xR i.size a len (cap / 2) false lo hi mx s
    |false=>.stuck
  |_,_=>.stuck
 |some (.array n e)=>match P.info? e,x with
  |some i,.pointer (some ⟨b,off,none⟩)=>xR i.size (some ⟨b,off,none⟩) n n true lo hi mx s
  |_,_=>.stuck
 |_=>.stuck
def xM(sz n:Nat)(x:Value)(s:St):Option (List Value):=
 match x with
 | .slice none _ _=>some []
 | .slice (some ⟨b,off,none⟩) _ _=>match s.get b with
  |some (.cells c _)=>y8 (n*sz) (xr off c)
  |_=>none
 |_=>none
def FU:Value->Option Nat
 | .slice _ n _=>some n
 | .string t=>some t.size
 |_=>none
def eC(a:Option TypeDesc)(inf:TypeInfo)(x:Value)(s:St):Option (Nat×List Value):=
 match a with
 |some (.int _)=>match x,inf.zero with
  | .int .i64 (.ofNat l),some z=>match Nat.ble l 1000000&&Nat.ble (l*(inf.bytes+1)) 1073741824&&(yr z).all plain0 with
   |true=>some (l,match Nat.beq (l*inf.size) 0 with
    |true=>[]
    |false=>(Builtin.zeroCells z.cells l).toList)
   |false=>none
  |_,_=>none
 |some _=>match FU x with
  |some n=>match xM inf.size n x s with
   |some l=>some (n,l)
   |none=>none
  |none=>none
 |none=>none
where plain0:Value->Bool
 | .bool _ | .int _ _ | .float _ _ | .complex _ _ _ | .string _ | .nilFunc | .nilIface | .pointer none | .map none=>true
 | .slice none 0 0=>true
 |_=>false
def X8(a:Option Addr)(cap:Nat)(s:St):Option St:=
 match cap % 2 with
 |0=>some s
 |_=>match a with
  |some a=>match s.may a.block with
   |true=>some (s.put a.block none)
   |false=>none
  |none=>none
def Zv(e:TypeId)(a:Option Addr)(cap need:Nat)(c:List Value)(s:St):cE Next:=
 match X8 a cap s with
 |some s=>uP e c need s
 |none=>.stuck
def Zw(inf:TypeInfo)(need n:Nat)(new:List Value):Bool:=
 Nat.ble (need*(inf.bytes+1)) 1073741824&&new.all plainCell&&Nat.beq (yD new 0) (n*inf.size) &&
 (match inf.zero with
  |some z=>Nat.beq (yD (yr z) 0) inf.size
  |none=>false)
def qc(e:TypeId)(inf:TypeInfo)(base:Option Addr)(a cap n:Nat)(new:List Value)(s:St):cE Next:=
 match Nat.ble (a+n) (cap / 2)with
 |true=>match base with
  |some ⟨b,off,none⟩=>match xu b (off+a*inf.size) new s with
   | .ok _ s=>di (.slice base (a+n) cap) s
   |_=>.stuck
  |_=>match n with
   |0=>di (.slice base (a+n) cap) s
   |_=>.stuck
 |false=>match Zw inf (a+n) n new&&wo e base cap s,xM inf.size a (.slice base a cap) s with
  |true,some old=>Zv e base cap (a+n) (old++new) s
  |_,_=>.stuck
def xe(P:Program)(argTypes:List TypeId)(args:List Value)(s:St):cE Next:=
 match argTypes,args with
 |a::b::_,[.slice base c cap,x]=>
  match P.underlying a with
  |some (.slice e)=>match P.info? e with
   |some inf=>match eC (P.underlying b) inf x s with
    |some (n,new)=>qc e inf base c cap n new s
    |none=>.stuck
   |none=>.stuck
  |_=>.stuck
 |_,_=>.stuck
def nU(P:Program)(argTypes:List TypeId)(args:List Value)(s:St):cE Next:=
 match argTypes,args with
 |t::_,[.slice _ _ c]=>match P.underlying t,c % 2 with
  |some (.slice _),0=>di (.int .i64 (.ofNat (c / 2))) s
  |_,_=>.stuck
 |_,_=>.stuck
def Vk(P:Program)(argTypes:List TypeId)(args:List Value)(s:St):cE Next:=
 match argTypes,args with
 |t::_,[x]=>match P.underlying t,x with
  |some (.slice _),.slice _ n _=>di (.int .i64 (.ofNat n)) s
  |some .string,.string b=>di (.int .i64 (.ofNat b.size)) s
  |some (.array n _),_=>di (.int .i64 (.ofNat n)) s
  |some (.map _ _),.map none=>di (.int .i64 0) s
  |some (.map _ _),.map (some r)=>match s.get r with
   |some (.map es _)=>di (.int .i64 (.ofNat es.size)) s
   |_=>.stuck
  |_,_=>.stuck
 |_,_=>.stuck
def lW(args:List Value)(s:St):cE Next:=
 match args with
 | [.int k x,.int _ y]=>di (.int k (match fG x y with|true=>x|false=>y)) s
 |_=>.stuck
def lU(args:List Value)(s:St):cE Next:=
 match args with
 | [.int k x,.int _ y]=>di (.int k (match fG y x with|true=>x|false=>y)) s
 |_=>.stuck
def Qo(P:Program)(argTypes:List TypeId)(args:List Value)(s:St):cE Next:=
 match argTypes,args with
 |c::_,[.slice base a _,src]=>
  match P.underlying c with
  |some (.slice e)=>match P.info? e,FU src with
   |some inf,some n=>match xM inf.size (Nat.min n a) src s with
    |some new=>match base with
     |some ⟨b,off,none⟩=>match xu b off new s with
      | .ok _ s=>di (.int .i64 (.ofNat (Nat.min n a))) s
      |_=>.stuck
     |_=>.stuck
    |none=>.stuck
   |_,_=>.stuck
  |_=>.stuck
 |_,_=>.stuck
def xE(P:Program)(f:FuncId):Bool:=
 match P.funcs[f]? with
 | some fn => fn.body.isSome && !(fn.name == "runtime.NumGoroutine")
 |none=>false
def jV(P:Program)(f:Value)(args:List Value)(s:St):cE Next:=
 match f with
 | .func (.func n) first captured=>match xE P n with
  |true=>.ok (.enter n ⟨first.toList++args++captured.toList⟩) s
  |false=>.stuck
 | .func (.yield b) ⟨[]⟩ ⟨[]⟩=>match s.get b with
  |some (.loop lp)=>match Nat.beq (yD args 0) (yD lp.params 0)with
   |true=>.ok (.round b 0 ⟨args⟩ .skip .skip) s
   |false=>.stuck
  |_=>.stuck
 |_=>.stuck
def kq:Value->Bool
 | .bool _ | .int _ _ | .float _ _ | .complex _ _ _ | .string _ | .nilFunc | .nilIface | .pointer none | .map none=>true
 | .slice none 0 0=>true
 |_=>false
def Xs(v:Value):Bool:=(yr v).all kq
def Ss(P:Program)(t:TypeId):Bool:=
 match P.info? t with
 |some i=>match i.zero with
  |some z=>Xs z
  |none=>true
 |none=>true
def wl(P:Program)(t:TypeId):Option (List Value):=
 match P.info? t with
 |some i=>match i.zero with
  |some z=>match Xs z&&Nat.beq (yD (yr z) 0) i.size with
   |true=>some (yr z)
   |false=>none
  |none=>none
 |none=>none
def ke(l:List Value):Nat->List Value
 |0=>[]
 |k+1=>l++ke l k
def Z7(P:Program)(argTypes:List TypeId)(args:List Value)(s:St):cE Next:=
 match argTypes,args with
 |t::_,[.slice base n _]=>match P.underlying t with
  |some (.slice e)=>match n with
   |0=>di (.tuple ⟨[]⟩) s
   |k+1=>match base with
    |some ⟨b,off,none⟩=>match P.info? e,wl P e with
     |some _,some z=>match xu b off (ke z (k+1)) s with
      | .ok _ s=>di (.tuple ⟨[]⟩) s
      |_=>.stuck
     |_,_=>.stuck
    |_=>.stuck
  |_=>.stuck
 |_,_=>.stuck
def xn(P:Program)(b:Builtin)(argTypes:List TypeId)(args:List Value)(s:St):cE Next:=
 match b with
 | .append=>xe P argTypes args s
 | .cap=>nU P argTypes args s
 | .len=>Vk P argTypes args s
 | .min=>lW args s
 | .max=>lU args s
 | .copy=>Qo P argTypes args s
 | .clear=>Z7 P argTypes args s
 |_=>.stuck
def jp(P:Program)(fields:List Field)(i:Nat):Option (Nat×Nat):=
 match zH fields i with
 |some f=>match P.info? f.type with
  |some inf=>some (f.offset,inf.size)
  |none=>none
 |none=>none
def qH(place:Nat->Option (Nat×Nat))(ρ:Operand->Value):List (Nat×Operand)->List Value->Option (List Value)
 | [],c=>some c
 |(i,x)::rest,c=>match place i with
  |some (off,size)=>match Nat.beq (yD (yr (ρ x)) 0) size,yK off (yr (ρ x)) c with
   |true,some c=>qH place ρ rest c
   |_,_=>none
  |none=>none
def wT(P:Program)(t:TypeId)(parts:List (Nat×Operand))(ρ:Operand->Value)(s:St):cE Next:=
 match wl P t,P.underlying t with
 |some z,some (.struct fields)=>match fields.toList.all (λf=>(P.info? f.type).isSome),qH (jp P fields.toList) ρ parts z with
  |true,some c=>di (.agg ⟨c⟩) s
  |_,_=>.stuck
 |some z,some (.array _ e)=>match P.info? e with
  |some inf=>match qH (λi=>some (i*inf.size,inf.size)) ρ parts z with
   |some c=>di (.agg ⟨c⟩) s
   |none=>.stuck
  |none=>.stuck
 |_,_=>.stuck
def newK(e:TypeId)(c:List Value)(len cap:Nat)(s:St):cE Next:=
 match s.room with
 |true=>di (.slice (some ⟨s.next,0,none⟩) len (2*cap)) (s.new (.cells c e))
 |false=>.stuck
def qJ(P:Program)(t:TypeId)(len:Nat)(parts:List (Nat×Operand))(ρ:Operand->Value)(s:St):cE Next:=
 match P.underlying t with
 |some (.slice e)=>match P.info? e,wl P e with
  |some inf,some z=>match Nat.ble (len*inf.size) 16777216,qH (λi=>some (i*inf.size,inf.size)) ρ parts (ke z len)with
   |true,some c=>newK e c len len s
   |_,_=>.stuck
  |_,_=>.stuck
 |_=>.stuck
def qL(P:Program)(t:TypeId)(l c:Value)(s:St):cE Next:=
 match P.underlying t with
 |some (.slice e)=>match P.info? e,wl P e with
  |some inf,some z=>match l,c with
   | .int _ (.ofNat a),.int _ (.ofNat b)=>match Nat.ble a b&&Nat.ble (b*(inf.bytes+1)) 1073741824 with
    |true=>newK e (ke z b) a b s
    |false=>.stuck
   |_,_=>.stuck
  |_,_=>.stuck
 |_=>.stuck
def jh(b:Bool)(r:cE Next):cE Next:=
 match b with
 |true=>r
 |false=>.stuck
def zj(P:Program)(ρ:Operand->Value)(o:Op)(s:St):cE Next:=
 match o with
 | .move x | .assign x=>di (ρ x) s
 | .pick c a b=>YE (ρ c) (ρ a) (ρ b) s
 | .load t a=>uI P t (ρ a) s
 | .store t a v=>Xl P t (ρ a) (ρ v) s
 | .box e x=>XN e (yr (ρ x)) s
 | .alloc e=>jh (Ss P e) (gJ P e s)
 | .fieldAddr t x f=>ju P t (ρ x) f s
 | .indexAddr t x i=>kS P t (ρ x) (ρ i) s
 | .binOp op t x y _=>qM P op t (ρ x) (ρ y) s
 | .unOp op _ x=>BS P op (ρ x) s
 | .extract x i=>vF (ρ x) i s
 | .nilCheck x=>K3 (ρ x) s
 | .sliceToArrayPointer t x=>iN P t (ρ x) s
 | .convert src dst x=>vG P src dst (ρ x) s
 | .makeFunc fn first captured=>match Rl fn with
  |true=>.stuck
  |false=>di (.func fn ⟨qv ρ first.toList⟩ ⟨qv ρ captured.toList⟩) s
 | .slice t x lo hi mx=>qf P t (ρ x) (lo.map ρ) (hi.map ρ) (mx.map ρ) s
 | .field t x f=>ZV P t (ρ x) f s
 | .index t x i=>wK P t (ρ x) (ρ i) s
 | .call c=>match c.callee with
  | .value f=>jV P (ρ f) (qv ρ c.args.toList) s
  | .builtin b=>xn P b c.argTypes.toList (qv ρ c.args.toList) s
  | .invoke _ _=>.stuck
 | .build t parts=>wT P t parts.toList ρ s
 | .buildSlice t len parts=>qJ P t len parts.toList ρ s
 | .makeSlice t l c=>qL P t (ρ l) (ρ c) s
 |_=>.stuck
def vR:Nat:=16
def Fr.get(a:Fr)(t:Nat):Value:=match a.tmps.get t with
 |some v=>v
 |none=>undef
def Fr.eval(a:Fr):Operand->Value
 | .tmp t=>a.get t
 | .const v=>v
 | .global g=>.pointer (some ⟨g,0,none⟩)
 | .func f=>.func (.func f) #[] #[]
def Fr.put(a:Fr)(dst:Option Tmp)(v:Value):Fr:=
 match dst with
 |some d=>match Nat.blt d a.size with
  |true=>{a with tmps:=a.tmps.put vR d (some v)}
  |false=>a
 |none=>a
def YT:List Value->Nat->Tr Value->Tr Value
 | [],_,t=>t
 |v::l,n,t=>YT l (n+1) (t.put vR n (some v))
def Fr.make(args:Array Value)(n:Nat):Fr:={size:=n,tmps:=YT args.toList 0 .nil}
def Zu(g:Nat->Value):Nat->List Value->List Value
 |0,l=>l
 |n+1,l=>Zu g n (g n::l)
def Fr.norm(a:Fr):Fr:=.make ⟨Zu a.get a.size []⟩ a.size
def xZ(ops:List Oper)(a:Fr)(o:Oper):Bool:=
 match o.guard with
 |none=>true
 |some (j,want)=>match zH ops j with
  |some q=>match q.dst with
   |some d=>match a.get d with
    | .bool b=>b==want
    |_=>false
   |none=>false
  |none=>false
def k8:Operand->Bool
 | .tmp _ | .func _=>true
 | .const v=>Xs v
 | .global _=>false
def xP:Code->Bool
 | .region _ ops _=>ops.toList.all λo=>o.op.operands.toList.all k8
 | .seq a b=>xP a&&xP b
 | .cond c a b=>k8 c&&xP a&&xP b
 | .block _ b=>xP b
 | .loop b=>xP b
 | .scope b=>xP b
 | .rangeFunc f _ x y=>k8 f&&xP x&&xP y
 |_=>true
def kA:Code->Bool
 | .seq a b=>kA a&&kA b
 | .cond _ a b=>kA a&&kA b
 | .block _ b=>kA b
 | .loop b=>kA b
 | .scope b=>kA b
 | .rangeFunc _ _ _ _=>false
 |_=>true
def zy:Nat:=1000000
inductive cg where
 |normal (a:Fr) (s:St)
 |exit (id:Nat) (a:Fr) (s:St)
 |ret (a:Fr) (s:St)
 |panic (chain:List PanicEntry) (a:Fr) (s:St)
 |stuck
inductive aq where
 |ret (v:Value) (s:St)
 |panic (chain:List PanicEntry) (s:St)
 |stuck
section
variable(P:Program)(call:FuncId->Array Value->St->aq)
def eh(o:Oper)(a:Fr)(s:St):cg:=
 match zj P a.eval o.op s with
 | .ok (.value v) s=>.normal (a.put o.dst v) s
 | .ok .skip s=>.normal (a.put o.dst undef) s
 | .ok (.enter f args) s=>
  match Nat.ble zy f with
  |true=>.stuck
  |false=>match call f args s with
   | .ret v s=>.normal (a.put o.dst v) s
   | .panic chain s=>.panic chain a s
   | .stuck=>.stuck
 | .ok (.round b _ args _ _) s=>
  match call (zy+b) args s with
  | .ret v s=>.normal (a.put o.dst v) s
  | .panic chain s=>.panic chain a s
  | .stuck=>.stuck
 | .ok _ _=>.stuck
 | .panic v s=>.panic [{v,recovered:=false}] a s
 | .stuck=>.stuck
def YG(ops:List Oper):List Oper->Fr->St->cg
 | [],a,s=>.normal a s
 |o::rest,a,s=>
  match xZ ops a o with
  |true=>match eh P call o a s with
   | .normal a s=>YG ops rest a s
   |r=>r
  |false=>YG ops rest (a.put o.dst undef) s
def iI(ops:List Oper):List Nat:=
 (ops.foldl (λ(acc:Array Nat) o=>acc.push (o.after.foldl (λs e=>if Region.binds .any e then s |||2 ^ e.on |||acc.getD e.on 0 else s) 0)) #[]).toList
inductive RA where
 |light
 |whole
 |fresh
 |new
structure an where
 ix:Nat
 anc:Nat
 how:RA
 free:List Nat
def Qa(o:Oper):Bool:=match o.op with
 | .slice _ _ _ _ none=>true
 |_=>false
def jO(o:Oper):Bool:=match o.op with
 | .move _ | .assign _ | .pick _ _ _ | .build _ _ | .load _ _ | .nilCheck _ | .binOp _ _ _ _ _ | .unOp _ _ _ | .makeInterface _ _ | .makeFunc _ _ _
 | .fieldAddr _ _ _ | .field _ _ _ | .indexAddr _ _ _ | .index _ _ _ | .extract _ _=>true
 | .call {callee:=.builtin .len,..}=>true
 |_=>false
def jg(o:Oper):Bool:=jO o||Qa o
def zfc(o:Oper):Bool:=match o.op with
 | .load _ _=>true
 |_=>false
def FX(o:Oper):Bool:=zfc o||Qa o
def uo(o:Oper):Bool:=match o.op with
 | .alloc _=>true
 |_=>false
def AG(o:Oper):Bool:=match o.op with
 | .call {callee:=.value (.tmp _),..}=>true
 |_=>false
def Sx(x y:Nat×Oper×Nat):Bool:= !Nat.beq x.1 y.1 && !x.2.2.testBit y.1 && !y.2.2.testBit x.1
def EW(o:Oper):Bool:=match o.op with
 | .call {callee:=.builtin .append,..}=>true
 |_=>false
def zfd(o:Oper):Bool:=match o.op with
 | .buildSlice _ _ _=>true
 |_=>false
def SJ(all:List (Nat×Oper×Nat))(x:Nat×Oper×Nat):Bool:=
 (uo x.2.1&&all.any λy=>Sx x y&&AG y.2.1)||(zfd x.2.1&&all.any λy=>Sx x y&&EW y.2.1)
def Oc(all:List (Nat×Oper×Nat))(x:Nat×Oper×Nat):Bool:=Qa x.2.1&&all.any λy=>Sx x y&&EW y.2.1
def GY(all:List (Nat×Oper×Nat))(x:Nat×Oper×Nat):Bool:=jO x.2.1||Oc all x
def r7(all:List (Nat×Oper×Nat)):Nat->Nat->List (Nat×Oper×Nat)->List (Nat×Oper×Nat)
 |0,_,_=>[]
 |n+1,done,todo=>
  let next:=match todo.find? (λx=>(GY all x||SJ all x)&&Nat.beq (Nat.land x.2.2 done) x.2.2)with
   |some x=>some x
   |none=>todo.find? (λx=>Nat.beq (Nat.land x.2.2 done) x.2.2)
  match next with
  |some x=>x::r7 all n (Nat.lor done (2 ^ x.1)) (todo.filter λy=> !Nat.beq y.1 x.1)
  |none=>[]
def plan(ops:List Oper):List an:=
 let all:=((ops.zip (iI ops)).zipIdx).map λx=>(x.2,x.1.1,x.1.2)
 (r7 all all.length 0 all).map λx=>
  let beside:=all.filter (Sx x)
  {ix:=x.1,anc:=x.2.2,
   how:=if GY all x then .light else if SJ all x then .new else if beside.all (λy=>GY all y||SJ all y)then .whole else .fresh,
   free:=(beside.filter λy=>zfc y.2.1||Oc all y||SJ all y).map (·.1)}
def xN(a:Fr)(o:Oper):Option Nat:=
 match o.op with
 | .load _ x=>match a.eval x with
  | .pointer (some p)=>some p.block
  |_=>none
 | .slice _ x _ _ none=>match a.eval x with
  | .slice (some p) _ _=>some p.block
  | .pointer (some p)=>some p.block
  |_=>none
 | .alloc _=>match o.dst with
  |some t=>match a.get t with
   | .pointer (some p)=>some p.block
   |_=>none
  |none=>none
 | .buildSlice _ _ _=>match o.dst with
  |some t=>match a.get t with
   | .slice (some p) _ _=>some p.block
   |_=>none
  |none=>none
 |_=>none
def xa(ops:List Oper)(a:Fr):List Nat->List Nat
 | []=>[]
 |i::l=>match zH ops i with
  |some o=>match xN a o with
   |some b=>b::xa ops a l
   |none=>xa ops a l
  |none=>xa ops a l
def only(s:St)(b:Option Nat):Tr ak:=
 match b with
 |some b=>Tr.put depth .nil b (s.get b)
 |none=>.nil
def yO(ops:List Oper)(d:an)(o:Oper)(a:Fr)(s:St):cg:=
 match xZ ops a o with
 |true=>match d.how with
  | .light=>match eh P call o a {next:=s.next,bar:=s.next,prot:=[],heap:=only s (xN a o)}with
   | .normal a s'=>match Nat.beq s'.next s.next with
    |true=>.normal a s
    |false=>.stuck
   |_=>.stuck
  | .whole=>match eh P call o a {s with prot:=xa ops a d.free++s.prot}with
   | .normal a s'=>.normal a {next:=s'.next,bar:=s.bar,prot:=s.prot,heap:=s'.heap}
   | .panic c a s'=>.panic c a {next:=s'.next,bar:=s.bar,prot:=s.prot,heap:=s'.heap}
   |_=>.stuck
  | .fresh=>match eh P call o a {s with bar:=s.next}with
   | .normal a s'=>.normal a {next:=s'.next,bar:=s.bar,prot:=s.prot,heap:=s'.heap}
   |_=>.stuck
  | .new=>match eh P call o a {next:=s.next,bar:=s.next,prot:=[],heap:=.nil}with
   | .normal a s'=>match Nat.beq s'.next (s.next+1)&&s.room,xN a o,s'.get s.next with
    |true,some b,some ob=>match Nat.beq b s.next with
     |true=>.normal a (s.new ob)
     |false=>.stuck
    |_,_,_=>.stuck
   |_=>.stuck
 |false=>.normal (a.put o.dst undef) s
def wh(ops:List Oper):List an->Fr->St->cg
 | [],a,s=>.normal a s
 |d::rest,a,s=>match zH ops d.ix with
  |some o=>match yO P call ops d o a s with
   | .normal a s=>wh ops rest a s
   |r=>r
  |none=>.stuck
def Ke:RA->Bool
 | .light=>true
 |_=>false
def gi:RA->Bool
 | .whole=>true
 |_=>false
def Wu:RA->Bool
 | .new=>true
 |_=>false
def R6(ops:List Oper)(anc:List Nat)(i m:Nat)(o:Oper):Bool:=
 (o.op.operands.toList.all λx=>match x with
  | .tmp t=>ops.zipIdx.all λp=>match p.1.dst with
   |some u=> !Nat.beq u t||m.testBit p.2||(!FX o&&(Nat.beq p.2 i||(match zH anc p.2 with
    |some q=>q.testBit i
    |none=>false)))
   |none=>true
  |_=>true) &&
 (match o.guard with
  |some g=>m.testBit g.1
  |none=>true)
def nJ(anc:List Nat)(i:Nat)(o:Oper)(m:Nat):Bool:=
 o.after.toList.all (λe=> !Region.binds .any e||(Nat.blt e.on i&&m.testBit e.on)) &&
 (List.range i).all (λk=> !m.testBit k||o.after.toList.any λe=>Region.binds .any e&&(Nat.beq e.on k||(match zH anc e.on with
  |some q=>q.testBit k
  |none=>false))) &&
 Nat.blt m (2 ^ i)
def zbn(x y:an):Bool:= !Nat.beq x.ix y.ix && !x.anc.testBit y.ix && !y.anc.testBit x.ix
def qs(ops:List Oper)(x y:an):Bool:=
 -- x comes first
 !Nat.beq x.ix y.ix && !x.anc.testBit y.ix &&
 (!(zbn x y)||(
  -- a whole one has nothing beside it behind it;beside it ahead of it there are light ones alone
  !gi x.how&&(!gi y.how||((Ke x.how||Wu x.how)&&(match zH ops x.ix with
   |some o=> !(FX o||Wu x.how)||y.free.any (Nat.beq x.ix)
   |none=>false)))))
def R8(ops:List Oper):List an->Bool
 | []=>true
 |x::l=>l.all (qs ops x)&&R8 ops l
def vS:List (Option Tmp)->Bool
 | []=>true
 |none::l=>vS l
 |some t::l=>l.all (λd=>match d with|some u=> !Nat.beq u t|none=>true)&&vS l
def pk(ops:List Oper)(d:an):Bool:=
 match zH ops d.ix with
 |some o=>(!Ke d.how||jg o)&&(!Wu d.how||(uo o||zfd o))
 |none=>false
def Zt(ops:List Oper)(l:List an):Bool:=
 let anc:=iI ops
 Nat.beq (yD l 0) (yD ops 0)&&Nat.beq (yD anc 0) (yD ops 0) &&
 (ops.zipIdx.all λp=>match zH anc p.2 with
  |some m=>nJ anc p.2 p.1 m&&R6 ops anc p.2 m p.1
  |none=>false) &&
 (l.all λd=>(match zH anc d.ix with
  |some m=>Nat.beq m d.anc
  |none=>false)&&pk ops d) &&
 ((List.range (yD ops 0)).all λi=>l.any λd=>Nat.beq d.ix i) &&
 R8 ops l&&vS (ops.map (·.dst))
def qO(a:Fr)(s:St):List ResultVar->Option (List Value)
 | []=>some []
 | .tmp t::l=>match qO a s l with
  |some r=>some (a.get t::r)
  |none=>none
 | .cell t ty::l=>match wc P ty (a.get t) s,qO a s l with
  |some v,some r=>some (v::r)
  |_,_=>none
def finish(fn:Func)(a:Fr)(s:St):aq:=
 match qO P a s fn.results.toList with
 |some [v]=>.ret v s
 |some l=>.ret (.tuple ⟨l⟩) s
 |none=>.stuck
abbrev zZ:=FuncId->Option (Array Value->St->aq)
def gH(code:Code->Fr->St->cg)(fn:Func)(c:Code)(args:Array Value)(s:St):aq:=
 match Nat.ble (yD args.toList 0) fn.ntmps&&Nat.ble fn.ntmps 65534&&xP c with
 |true=>match code c (Fr.make args fn.ntmps) s with
  | .normal a s=>finish P fn a s
  | .ret a s=>finish P fn a s
  | .panic chain _ s=>.panic chain s
  |_=>.stuck
 |false=>.stuck
def Fr.putAll(a:Fr):List Tmp->List Value->Fr
 |t::ts,v::vs=>(a.put (some t) v).putAll ts vs
 |_,_=>a
def jS(b:Nat)(a:Option Code)(s:St):aq:=
 match s.may b,s.get b with
 |true,some (.loop lp)=>.ret (.bool a.isNone) (s.put b (some (.loop {lp with state:=match a with|none=>.ready|some _=>.done,pend:=a})))
 |_,_=>.stuck
def vB(code:Code->Fr->St->cg)(b:Nat)(args:Array Value)(s:St):aq:=
 match s.get b with
 |some (.loop lp)=>match xP lp.assign&&xP lp.body&&kA lp.assign&&kA lp.body&&Nat.beq (yD args.toList 0) (yD lp.params 0)with
  |true=>match code lp.assign (lp.fr.putAll lp.params args.toList) s with
   | .normal a s=>match s.may b,s.get b with
    |true,some (.loop lp')=>match lp'.state with
     | .ready=>match code lp.body a (s.put b (some (.loop {lp' with state:=.busy})))with
      | .normal _ s=>jS b none s
      | .exit id _ s=>jS b (some (.exit id)) s
      | .ret _ s=>jS b (some .ret) s
      |_=>.stuck
     |_=>.stuck
    |_,_=>.stuck
   |_=>.stuck
  |false=>.stuck
 |_=>.stuck
def yL(I:zZ)(code:Code->Fr->St->cg)(f:FuncId)(args:Array Value)(s:St):aq:=
 match Nat.ble zy f with
 |true=>vB code (f-zy) args s
 |false=>match I f with
  |some g=>g args s
  |none=>match P.funcs[f]? with
   |some fn=>match fn.body with
    |some c=>gH P code fn c args s
    |none=>.stuck
   |none=>.stuck
def Ro:LoopState->Bool
 | .busy=>true
 |_=>false
def kR(I:zZ)(code:Code->Fr->St->cg)(f:Operand)(params:Array Tmp)(x y:Code)(a:Fr)(s:St):cg:=
 match s.room with
 |false=>.stuck
 |true=>
  match jV P (a.eval f) [.func (.yield s.next) ⟨[]⟩ ⟨[]⟩] (s.new (.loop {fr:=a.norm,params:=params.toList,assign:=x,body:=y,state:=.ready,pend:=none}))with
  | .ok (.enter g args) s₁=>match Nat.ble zy g with
   |true=>.stuck
   |false=>match yL P I code g args s₁ with
    | .ret _ b=>match b.may s.next,b.get s.next with
     |true,some (.loop lp)=>match Ro lp.state with
      |true=>.stuck
      |false=>match lp.pend with
       |none=>.normal a (b.put s.next (some (.loop {lp with state:=.exhausted})))
       |some .ret=>.ret a (b.put s.next (some (.loop {lp with state:=.exhausted})))
       |some (.exit id)=>.exit id a (b.put s.next (some (.loop {lp with state:=.exhausted})))
       |some _=>.stuck
     |_,_=>.stuck
    | .panic chain b=>.panic chain a b
    | .stuck=>.stuck
  |_=>.stuck
end
def zY(P:Program)(I:zZ):Nat->Code->Fr->St->cg
 |0,_,_,_=>.stuck
 |n+1,c,a,s=>
  match c with
  | .skip | .label _=>.normal a s
  | .seq x y=>match zY P I n x a s with
   | .normal a s=>zY P I n y a s
   |r=>r
  | .cond c x y=>match a.eval c with
   | .bool true=>zY P I n x a s
   | .bool false=>zY P I n y a s
   |_=>.stuck
  | .block id b=>match zY P I n b a s with
   | .exit d a s=>match Nat.beq d id with
    |true=>.normal a s
    |false=>.exit d a s
   |r=>r
  | .loop b=>match zY P I n b a s with
   | .normal a s=>zY P I n (.loop b) a s
   |r=>r
  | .exit id=>.exit id a s
  | .ret=>.ret a s
  | .region _ ops draw=>match draw with
   |false=>YG P (yL P I (zY P I n)) ops.toList ops.toList a s
   |true=>match Zt ops.toList (plan ops.toList)with
    |true=>wh P (yL P I (zY P I n)) ops.toList (plan ops.toList) a s
    |false=>.stuck
  | .scope b=>zY P I n b a s
  | .rangeFunc f params x y=>kR P I (zY P I n) f params x y a s
  |_=>.stuck
def Zy(P:Program)(I:zZ)(n:Nat)(f:FuncId)(args:Array Value)(s:St):aq:=yL P I (zY P I n) f args s
end Go.M
