/- The start of a law with two slices of numbers (they may share memory), and from a run of the machine to a contract of the program. -/
import Derived.Test.YtocnbjjmmgolfaaGreatA29
import Derived.Test.YtocnbjjmmgolfaaGreatA11
import Derived.Carry
import Derived.RowKit
namespace Go.Proofs.YtocnbjjmmgolfaaGreat
open Go Go.M
abbrev IntsT:Ty:=.sl 3 1 (.int .i64)
def cellsI(l:List Int):List (List Value):=l.map fun x=>[Value.int .i64 x]
structure ArgOK(W:World)(b:Nat)(mo:Option (Img×List Value))(v v':Value)(l:List Int):Prop where
 img:∀m c,mo=some (m,c)→m.ro=true∧∃o',W.heap[m.blk]? = some o'∧∀β,ORel Tryz.prog β m (.cells c 3) o'
 val:∀β:Ren,β b=mo.map (·.1)→VRel Tryz.prog β v v'
 sl:∀D:Hp',(∀m c,mo=some (m,c)→(b,MObj.cells c 3)∈D)→SlG D 3 1 v (cellsI l)
 form:∃a cap,v=.slice a l.length cap
theorem arg_nil(W:World)(b:Nat):ArgOK W b none (.slice none 0 0) (.slice none 0 0) []:=
 ⟨fun _ _ h=>(by cases h),fun _ _=>.snil,fun _ _=>.nil 0 rfl rfl,⟨none,0,rfl⟩⟩
theorem arg_slice{W:World}{a:Addr}{len cap:Nat}{zs:List Int}(hsp:a.spot=none)(hz:zs.length=cap)(hl:len≤cap)(hsh:∃x,W.shape? a.block=some x)
  (hc:∀i,i<zs.length→W.cell? (a.add i)=some (.int .i64 (zs.getD i 0))) (hf:∀i,i<cap→W.frozen? ⟨a.block,a.off+i,none⟩=false) (b:Nat) :
  ∃mo v,ArgOK W b mo v (.slice (some a) len cap) (zs.take len):=by
 obtain⟨blk,off,sp⟩:=a
 simp only at hsp
 subst hsp
 obtain⟨x,hx⟩:=hsh
 unfold World.shape? at hx
 split at hx
 ·next cs e fz ho=>
  have hcs:∀i,i<cap→cs[off+i]? = some (.int .i64 (zs.getD i 0)):=fun i hi=>by
   have h:=hc i Oz
   have e1:(Addr.add ⟨blk,off,none⟩ i)=⟨blk,off+i,none⟩:=by unfold Addr.add;split<;>simp_all
   rw[e1]at h
   simpa[World.cell?,ho]using h
  by_cases h0:cap=0
  ·have:zs=[]:=List.eq_nil_of_length_eq_zero Oz
   subst this
   have hl0:len=0:=by omega
   subst hl0 h0
   refine⟨some (⟨blk,0,0,3,true⟩,[]),.slice (some ⟨b,0,none⟩) 0 0,fun m c h=>?_,fun β h=>?_,fun D h=>?_,⟨_,_,rfl⟩⟩
   ·cases h
    refine⟨rfl,_,ho,fun β=>?_⟩
    exact .cells rfl (Nat.zero_le _) (.inl rfl) (fun i _ hi=>by simp at hi) (fun i v h=>by simp at h)
   ·exact .szero (m:=⟨blk,0,0,3,true⟩) h
   ·exact .block b 0 0 [] rfl (h _ _ rfl) Uz (fun k hk=>by simp[cellsI]at hk)
  ·refine⟨some (⟨blk,off,off+cap,3,true⟩,ints zs),.slice (some ⟨b,0,none⟩) len (2*cap),fun m c h=>?_,fun β h=>?_,fun D h=>?_,⟨_,_,by rw[List.length_take,Nat.min_eq_left Oz]⟩⟩
   ·cases h
    refine⟨rfl,_,ho,fun β=>?_⟩
    refine .cells rfl ?_ (.inr (by simp[ints];omega)) (fun i h1 h2=>?_) (fun i v h=>?_)
    ·have:=hcs (cap-1) Oz
     have:=(Array.getElem?_eq_some_iff.mp this).1
     simp only;omega
    ·simp only at h1 h2
     have:=hf (i-off) Oz
     simp only[World.frozen?,ho,show off+(i-off)=i by omega,Bool.and_eq_false_iff,decide_eq_false_iff_not]at this
     omega
    ·have hi:i<zs.length:=by
      have:=(List.getElem?_eq_some_iff.mp h).1
      simpa[ints]using this
     refine⟨.int .i64 (zs.getD i 0),?_,?_⟩
     ·simp only
      rw[Nat.add_comm]
      exact hcs i Oz
     ·have:v=.int .i64 (zs.getD i 0):=by
       have h2:=lget_ints hi
       rw[zC,h]at h2
       exact Option.some.inj h2
      subst this
      exact .int _ _
   ·have:=VRel.sknown (P:=Tryz.prog) (β:=β) (b:=b) (off:=0) (len:=len) (c:=cap) (m:=⟨blk,off,off+cap,3,true⟩) h
    simpa using this
   ·refine .block b 0 (2*cap) (ints zs) (by simp[cellsI,List.length_take];omega) (h _ _ rfl) (by simp[cellsI,List.length_take];omega) (fun k hk=>?_)
    have hk2:k<len:=by simp[cellsI,List.length_take]at hk;omega
    have hkz:k<zs.length:=by omega
    have hki:k<(ints zs).length:=by simpa[ints]using hkz
    have e0:0+k*1=k:=by omega
    rw[e0,y6,y5,if_pos (by rw[List.length_drop];omega),List.drop_eq_getElem_cons hki]
    congr 1
    simp[cellsI,ints,List.getD_eq_getElem?_getD,List.getElem?_take,hk2,hkz]
 ·cases hx
def st2(o1 o2:Option MObj):St:=⟨2,2,[],.node o1 (.node o2 .nil .nil) .nil⟩
theorem st2_0{o1 o2:Option MObj}:(st2 o1 o2).get 0=o1:=rfl
theorem st2_1{o1 o2:Option MObj}:(st2 o1 o2).get 1=o2:=rfl
theorem st2_top{o1 o2:Option MObj}{b:Nat}(h:2≤b):(st2 o1 o2).get b=none:=by
 obtain⟨k,rfl⟩:∃k,b=k+2:=⟨b-2,by omega⟩
 show Tr.get (.node o1 (.node o2 .nil .nil) .nil) ((k+1)+1)=none
 simp only[Tr.get]
 split
 ·have:(k+1) / 2≠0∨(k+1) / 2=0:=by omega
  rename_i h
  obtain⟨j,hj⟩:∃j,(k+1) / 2=j+1:=⟨(k+1) / 2-1,by omega⟩
  rw[hj]
  split
  ·rename_i e;cases e
  ·split<;>rfl
 ·rfl
def obI(mo:Option (Img×List Value)):Option MObj:=mo.map fun p=>.cells p.2 3
def dI(b:Nat)(mo:Option (Img×List Value)):Hp':=(obI mo).toList.map fun o=>(b,o)
theorem mem_dI{b:Nat}{mo:Option (Img×List Value)}{m:Img}{c:List Value}(h:mo=some (m,c)):(b,MObj.cells c 3)∈dI b mo:=by subst h;exact List.mem_cons_self ..
theorem start2{W:World}{mo1 mo2:Option (Img×List Value)}{v1 v1' v2 v2':Value}{l1 l2:List Int}(h1:ArgOK W 0 mo1 v1 v1' l1)(h2:ArgOK W 1 mo2 v2 v2' l2) :
  ∃(β:Ren) (s:St) (U:Wd),Rel Tryz.prog β s W∧VRel Tryz.prog β v1 v1'∧VRel Tryz.prog β v2 v2'∧Fine s∧Knw s U∧RepV U IntsT v1 l1∧RepV U IntsT v2 l2∧s.next=2∧(∀b,s.next≤b→β b=none)∧∀b,b<s.next→s.may b=false:=by
 let β:Ren:=fun b=>if b=0 then mo1.map (·.1)else if b=1 then mo2.map (·.1)else none
 have b0:β 0=mo1.map (·.1):=rfl
 have b1:β 1=mo2.map (·.1):=rfl
 have key:∀b m,β b=some m→m.ro=true∧∃c o',W.heap[m.blk]? = some o'∧(st2 (obI mo1) (obI mo2)).get b=some (.cells c 3)∧∀β,ORel Tryz.prog β m (.cells c 3) o':=fun b m h=>by
  have hb:b=0∨b=1:=by
   apply Decidable.byContradiction
   intro hc
   have:β b=none:=by simp only[β];rw[if_neg Oz,if_neg Oz]
   rw[this]at h;cases h
  rcases hb with rfl|rfl
  ·rw[b0]at h
   obtain⟨⟨m',c⟩,hm,rfl⟩:=Option.map_eq_some_iff.mp h
   obtain⟨g1,o',g2,g3⟩:=h1.img _ _ hm
   exact⟨g1,c,o',g2,by rw[st2_0,hm];rfl,g3⟩
  ·rw[b1]at h
   obtain⟨⟨m',c⟩,hm,rfl⟩:=Option.map_eq_some_iff.mp h
   obtain⟨g1,o',g2,g3⟩:=h2.img _ _ hm
   exact⟨g1,c,o',g2,by rw[st2_1,hm];rfl,g3⟩
 let D:Hp':=dI 0 mo1++dI 1 mo2
 have hD:∀p∈D,(st2 (obI mo1) (obI mo2)).get p.1=some p.2∧p.1<2:=fun p hp=>by
  rcases List.mem_append.mp hp with hp|hp
  ·obtain⟨o,ho,rfl⟩:=List.mem_map.mp hp
   exact⟨by rw[st2_0];exact Option.mem_toList.mp ho,show(0:Nat)<2 by decide⟩
  ·obtain⟨o,ho,rfl⟩:=List.mem_map.mp hp
   exact⟨by rw[st2_1];exact Option.mem_toList.mp ho,show(1:Nat)<2 by decide⟩
 have rep:∀{v:Value} {l:List Int},SlG D 3 1 v (cellsI l)→(∃a cap,v=.slice a l.length cap)→RepV ⟨SlG D⟩ IntsT v l:=fun{v l} h hv=>by
  obtain⟨a,cap,rfl⟩:=hv
  refine⟨a,cap,cellsI l,rfl,h,by rw[cellsI,List.length_map],fun k x hx=>?_⟩
  show(cellsI l).getD k []=[.int .i64 x]
  rw[cellsI,List.getD_eq_getElem?_getD,List.getElem?_map,hx]
  rfl
 refine⟨β,st2 (obI mo1) (obI mo2),⟨SlG D⟩,?_,h1.val β b0,h2.val β b1,⟨Nat.le_refl _,fun p h=>(by cases h)⟩,?_,rep (h1.sl D fun m c h=>List.mem_append_left _ (mem_dI h)) h1.form,rep (h2.sl D fun m c h=>List.mem_append_right _ (mem_dI h)) h2.form,rfl,fun b hb=>?_,fun b hb=>?_⟩
 ·refine⟨fun b m h _=>?_,fun b m o h _ hg=>?_,fun b b' m m' o o' h h' _ _ _ _ _=>?_,fun b m _ hlt _=>hlt,(by show 2≤281474976710655;decide),fun b hb=>st2_top hb⟩
  ·obtain⟨_,c,o',g,_⟩:=key b m h
   exact(Array.getElem?_eq_some_iff.mp g).1
  ·obtain⟨_,c,o',g,g2,g3⟩:=key b m h
   rw[g2]at hg
   cases hg
   exact⟨o',g,g3 β⟩
  ·exact .inr ⟨(key b m h).1,(key b' m' h').1⟩
 ·refine⟨fun t w v l h=>?_,fun t w b off n cap L h lo hi cap' off' g1 g2 g3 g4=>SlG.cut h g1 g2 g3 g4⟩
  cases h with
  |nil c hv hl=>exact .nil c hv hl
  |block b off cap c hv hg hcap hc=>exact .block b off cap c hv (hD _ hg).1 (hD _ hg).2 hcap hc
 ·simp only[β]
  have:2≤b:=hb
  rw[if_neg Oz,if_neg Oz]
 ·have:b<2:=hb
  show(Nat.ble 2 b&&_)=false
  rw[show Nat.ble 2 b=false by rw[Bool.eq_false_iff];intro h;have:=Nat.le_of_ble_eq_true h;omega]
  rfl
theorem hmixT:Tryz.prog.follows .mixedOrders=true:=by kernel_rfl
theorem start_calls{β:Ren}{s s':St}{W:World}{args args':Array Value}{f:FuncId}{I:zT}(hT:TableS Tryz.prog I)(hf:Nat.ble zo f=false)(hrel:Rel Tryz.prog β s W)(hargs:LRel Tryz.prog β args.toList args'.toList)(hfree:∀b,s.next≤b→β b=none)(hshut:∀b,b<s.next→s.may b=false)
  (hr:Rets Tryz.prog I f args s (.bool true) s') :
  Calls Tryz.prog f args' W fun | .returned x,w'=>x=.bool true∧RowKit.Below W.heap.size W w'|_,_=>False:=by
 obtain⟨k,hn⟩:=hr
 have hn:=hn k (Nat.le_refl _)
 have h:=(call_ok hmixT hT k).2.1 f args args' s β W hf hrel hargs (by rw[hn];intro h;cases h)
  (by rw[hn];intro x hx _;exact hfree x hx)
 rw[hn]at h
 refine h.mono fun e w' hp=>?_
 obtain⟨β',v2,rfl,hext,hv⟩:=hp
 cases hv
 refine⟨rfl,hext.os,hext.tape,hext.output,hext.size,fun k hk=>hext.out k hk fun x m o hb hlt hmay=>?_⟩
 rw[hshut x hlt]at hmay
 cases hmay
end Go.Proofs.YtocnbjjmmgolfaaGreat
