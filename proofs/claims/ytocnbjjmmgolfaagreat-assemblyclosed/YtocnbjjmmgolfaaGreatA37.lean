/- The start of a law with two slices of numbers (they may share memory), and from a run of the machine to a contract of the program. -/
import Derived.Test.YtocnbjjmmgolfaaGreatA15
import Derived.Test.YtocnbjjmmgolfaaGreatA09
import Derived.Carry
import Derived.RowKit
set_option linter.unusedSimpArgs false
set_option linter.unusedVariables false
set_option linter.unusedSectionVars false
namespace Go.Proofs.YtocnbjjmmgolfaaGreat
open Go Go.M
abbrev IntsT:Ty:=.sl 3 1 (.int .i64)
def wI(l:List Int):List (List Value):=l.map fun x=>[Value.int .i64 x]
structure ArgOK(W:World)(b:Nat)(mo:Option (Img×List Value))(v v':Value)(l:List Int):Prop where
 img:∀m c,mo=some (m,c)→m.ro=true∧∃o',W.heap[m.blk]? = some o'∧∀β,ORel Tryz.prog β m (.cells c 3) o'
 val:∀β:Ren,β b=mo.map (·.1)→VRel Tryz.prog β v v'
 sl:∀D:Hp',(∀m c,mo=some (m,c)→(b,MObj.cells c 3)∈D)→SlG D 3 1 v (wI l)
 form:∃a cap,v=.slice a l.length cap
theorem arg_nil(W:World)(b:Nat):ArgOK W b none (.slice none 0 0) (.slice none 0 0) []:=
 ⟨fun _ _ h=>(by cases h),fun _ _=>.snil,fun _ _=>.nil 0 rfl rfl,⟨none,0,rfl⟩⟩
theorem arg_slice{W:World}{a:Addr}{len cap:Nat}{d:List Int}(j:a.spot=none)(hz:d.length=cap)(hl:len≤cap)(p:∃x,W.shape? a.block=some x)
 (hc:∀i,i<d.length→W.cell? (a.add i)=some (.int .i64 (d.getD i 0))) (hf:∀i,i<cap→W.frozen? ⟨a.block,a.off+i,none⟩=false) (b:Nat) :
 ∃mo v,ArgOK W b mo v (.slice (some a) len cap) (d.take len):=by
 obtain⟨blk,off,sp⟩:=a
 simp only at j
 subst j
 obtain⟨x,hx⟩:=p
 unfold World.shape? at hx
 split at hx
 ·next cs e fz ho=>
  have f:∀i,i<cap→cs[off+i]? = some (.int .i64 (d.getD i 0)):=fun i hi=>by
   have h:=hc i Oz
   have e1:(Addr.add ⟨blk,off,none⟩ i)=⟨blk,off+i,none⟩:=by unfold Addr.add;split<;>simp_all
   rw[e1]at h
   simpa[World.cell?,ho]using h
  by_cases h0:cap=0
  ·have:d=[]:=dK Oz
   subst this
   have o:len=0:=by omega
   subst o h0
   refine⟨some (⟨blk,0,0,3,true⟩,[]),.slice (some ⟨b,0,none⟩) 0 0,fun m c h=>?_,fun β h=>?_,fun D h=>?_,⟨_,_,rfl⟩⟩
   ·cases h
    refine⟨rfl,_,ho,fun β=>?_⟩
    exact .cells rfl (cJ _) (.inl rfl) (fun i _ hi=>by simp at hi) (fun i v h=>by simp at h)
   ·exact .szero (m:=⟨blk,0,0,3,true⟩) h
   ·exact .block b 0 0 [] rfl (h _ _ rfl) Uz (fun k hk=>by simp[wI]at hk)
  ·refine⟨some (⟨blk,off,off+cap,3,true⟩,xm d),.slice (some ⟨b,0,none⟩) len (2*cap),fun m c h=>?_,fun β h=>?_,fun D h=>?_,⟨_,_,by rw[bU,Nat.min_eq_left Oz]⟩⟩
   ·cases h
    refine⟨rfl,_,ho,fun β=>?_⟩
    refine .cells rfl ?_ (.inr (by simp[xm];omega)) (fun i h1 h2=>?_) (fun i v h=>?_)
    ·have:=f (cap-1) Oz
     have:=(Array.getElem?_eq_some_iff.mp this).1
     simp only;omega
    ·simp only at h1 h2
     have:=hf (i-off) Oz
     simp only[World.frozen?,ho,show off+(i-off)=i by omega,eK,bR]at this
     omega
    ·have hi:i<d.length:=by
      have:=(aM.mp h).1
      simpa[xm]using this
     refine⟨.int .i64 (d.getD i 0),?_,?_⟩
     ·simp only
      rw[Nat.add_comm]
      exact f i Oz
     ·have:v=.int .i64 (d.getD i 0):=by
       have h2:=WZ hi
       rw[zJ,h]at h2
       exact cR h2
      subst this
      exact .int _ _
   ·have:=VRel.sknown (P:=Tryz.prog) (β:=β) (b:=b) (off:=0) (len:=len) (c:=cap) (m:=⟨blk,off,off+cap,3,true⟩) h
    simpa using this
   ·refine .block b 0 (2*cap) (xm d) (by simp[wI,bU];omega) (h _ _ rfl) (by simp[wI,bU];omega) (fun k hk=>?_)
    have l:k<len:=by simp[wI,bU]at hk;omega
    have g:k<d.length:=by omega
    have n:k<(xm d).length:=by simpa[xm]using g
    have q:0+k*1=k:=by omega
    rw[q,yU,y7,aF (by rw[bZ];omega),List.drop_eq_getElem_cons n]
    congr 1
    simp[wI,xm,aC,List.getElem?_take,l,g]
 ·cases hx
def st2(a b:Option MObj):St:=⟨2,2,[],.node a (.node b .nil .nil) .nil⟩
theorem st2_0{a b:Option MObj}:(st2 a b).get 0=a:=rfl
theorem st2_1{b a:Option MObj}:(st2 b a).get 1=a:=rfl
theorem st2_top{a c:Option MObj}{b:Nat}(h:2≤b):(st2 a c).get b=none:=by
 obtain⟨k,rfl⟩:∃k,b=k+2:=⟨b-2,by omega⟩
 show Tr.get (.node a (.node c .nil .nil) .nil) ((k+1)+1)=none
 simp only[Tr.get]
 split
 ·have:(k+1) / 2≠0∨(k+1) / 2=0:=by omega
  rename_i h
  obtain⟨j,hj⟩:∃j,(k+1) / 2=j+1:=⟨(k+1) / 2-1,by omega⟩
  rw[hj]
  split
  ·rename_i e;cases e
  ·split<;>rfl
 ·rfl
def obI(mo:Option (Img×List Value)):Option MObj:=mo.map fun p=>.cells p.2 3
def dI(b:Nat)(mo:Option (Img×List Value)):Hp':=(obI mo).toList.map fun o=>(b,o)
theorem mem_dI{b:Nat}{mo:Option (Img×List Value)}{m:Img}{c:List Value}(h:mo=some (m,c)):(b,MObj.cells c 3)∈dI b mo:=by subst h;exact aP ..
theorem start2{W:World}{mo1 mo2:Option (Img×List Value)}{v1 f v2 i:Value}{z l2:List Int}(h1:ArgOK W 0 mo1 v1 f z)(h2:ArgOK W 1 mo2 v2 i l2) :
 ∃(β:Ren) (s:St) (U:Wd),Rel Tryz.prog β s W∧VRel Tryz.prog β v1 f∧VRel Tryz.prog β v2 i∧Fine s∧Knw s U∧RepV U IntsT v1 z∧RepV U IntsT v2 l2∧s.next=2∧(∀b,s.next≤b→β b=none)∧∀b,b<s.next→s.may b=false:=by
 let β:Ren:=fun b=>if b=0 then mo1.map (·.1)else if b=1 then mo2.map (·.1)else none
 have r:β 0=mo1.map (·.1):=rfl
 have u:β 1=mo2.map (·.1):=rfl
 have key:∀b m,β b=some m→m.ro=true∧∃c o',W.heap[m.blk]? = some o'∧(st2 (obI mo1) (obI mo2)).get b=some (.cells c 3)∧∀β,ORel Tryz.prog β m (.cells c 3) o':=fun b m h=>by
  have hb:b=0∨b=1:=by
   apply cY
   intro hc
   have:β b=none:=by simp only[β];rw[aD Oz,aD Oz]
   rw[this]at h;cases h
  rcases hb with rfl|rfl
  ·rw[r]at h
   obtain⟨⟨q,c⟩,e,rfl⟩:=Option.map_eq_some_iff.mp h
   obtain⟨g1,o',g2,d⟩:=h1.img _ _ e
   exact⟨g1,c,o',g2,by rw[st2_0,e];rfl,d⟩
  ·rw[u]at h
   obtain⟨⟨q,c⟩,e,rfl⟩:=Option.map_eq_some_iff.mp h
   obtain⟨g1,o',g2,d⟩:=h2.img _ _ e
   exact⟨g1,c,o',g2,by rw[st2_1,e];rfl,d⟩
 let D:Hp':=dI 0 mo1++dI 1 mo2
 have y:∀p∈D,(st2 (obI mo1) (obI mo2)).get p.1=some p.2∧p.1<2:=fun p hp=>by
  rcases aU.mp hp with hp|hp
  ·obtain⟨o,ho,rfl⟩:=List.mem_map.mp hp
   exact⟨by rw[st2_0];exact Option.mem_toList.mp ho,show(0:Nat)<2 by decide⟩
  ·obtain⟨o,ho,rfl⟩:=List.mem_map.mp hp
   exact⟨by rw[st2_1];exact Option.mem_toList.mp ho,show(1:Nat)<2 by decide⟩
 have rep:∀{v:Value} {l:List Int},SlG D 3 1 v (wI l)→(∃a cap,v=.slice a l.length cap)→RepV ⟨SlG D⟩ IntsT v l:=fun{v l} h hv=>by
  obtain⟨a,cap,rfl⟩:=hv
  refine⟨a,cap,wI l,rfl,h,by rw[wI,bI],fun k x hx=>?_⟩
  show(wI l).getD k []=[.int .i64 x]
  rw[wI,aC,List.getElem?_map,hx]
  rfl
 refine⟨β,st2 (obI mo1) (obI mo2),⟨SlG D⟩,?_,h1.val β r,h2.val β u,⟨aO _,fun p h=>(by cases h)⟩,?_,rep (h1.sl D fun m c h=>cE _ (mem_dI h)) h1.form,rep (h2.sl D fun m c h=>bE _ (mem_dI h)) h2.form,rfl,fun b hb=>?_,fun b hb=>?_⟩
 ·refine⟨fun b m h _=>?_,fun b m o h _ hg=>?_,fun b b' m q o o' h B _ _ _ _ _=>?_,fun b m _ j _=>j,(by show 2≤281474976710655;decide),fun b hb=>st2_top hb⟩
  ·obtain⟨_,c,o',g,_⟩:=key b m h
   exact(Array.getElem?_eq_some_iff.mp g).1
  ·obtain⟨_,c,o',g,g2,d⟩:=key b m h
   rw[g2]at hg
   cases hg
   exact⟨o',g,d β⟩
  ·exact .inr ⟨(key b m h).1,(key b' q B).1⟩
 ·refine⟨fun t w v l h=>?_,fun t w b off n cap L h lo hi cap' off' g1 g2 d A=>SlG.cut h g1 g2 d A⟩
  cases h with
  |nil c hv hl=>exact .nil c hv hl
  |block b off cap c hv hg hcap hc=>exact .block b off cap c hv (y _ hg).1 (y _ hg).2 hcap hc
 ·simp only[β]
  have:2≤b:=hb
  rw[aD Oz,aD Oz]
 ·have:b<2:=hb
  show(Nat.ble 2 b&&_)=false
  rw[show Nat.ble 2 b=false by rw[cL];intro h;have:=aR h;omega]
  rfl
theorem hmixT:Tryz.prog.follows .mixedOrders=true:=by kernel_rfl
theorem zby{β:Ren}{s s':St}{W:World}{args args':Array Value}{f:FuncId}{I:zU}(n:TableS Tryz.prog I)(hf:Nat.ble zu f=false)(j:Rel Tryz.prog β s W)(d:LRel Tryz.prog β args.toList args'.toList)(g:∀b,s.next≤b→β b=none)(i:∀b,b<s.next→s.may b=false)
 (p:vo Tryz.prog I f args s (.bool true) s') :
 Calls Tryz.prog f args' W fun | .returned x,w'=>x=.bool true∧RowKit.Below W.heap.size W w'|_,_=>False:=by
 obtain⟨k,hn⟩:=p
 have hn:=hn k (aO _)
 have h:=(call_ok hmixT n k).2.1 f args args' s β W hf j d (by rw[hn];intro h;cases h)
  (by rw[hn];intro x hx _;exact g x hx)
 rw[hn]at h
 refine h.mono fun e w' hp=>?_
 obtain⟨β',v2,rfl,a,hv⟩:=hp
 cases hv
 refine⟨rfl,a.os,a.tape,a.output,a.size,fun k hk=>a.out k hk fun x m o hb l c=>?_⟩
 rw[i x l]at c
 cases c
end Go.Proofs.YtocnbjjmmgolfaaGreat
