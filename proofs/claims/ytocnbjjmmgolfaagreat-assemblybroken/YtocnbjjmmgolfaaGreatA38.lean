/- The start of a law with two slices of numbers (they may share memory), and from a run of the machine to a contract of the program. -/
import Derived.Test.YtocnbjjmmgolfaaGreatA15
import Derived.Test.YtocnbjjmmgolfaaGreatA09
import Derived.Carry
import Derived.RowKit
set_option linter.unusedSimpArgs false
set_option linter.unusedVariables false
set_option linter.unusedSectionVars false
namespace Go.Proofs.YtocnbjjmmgolfaaGreat
open Go Go.M
abbrev ng:Ty:=.sl 3 1 (.int .i64)
def wQ(l:List Int):List (List Value):=l.map λx=>[Value.int .i64 x]
structure fX(W:World)(b:Nat)(mo:Option (dm×List Value))(v v':Value)(l:List Int):Prop where
 img:∀m c,mo=some (m,c)->m.ro=true/\∃o',W.heap[m.blk]? = some o'/\∀β,eT Tryz.prog β m (.cells c 3) o'
 val:∀β:aS,β b=mo.map (·.1)->ao Tryz.prog β v v'
 sl:∀D:au,(∀m c,mo=some (m,c)->(b,ak.cells c 3)∈D)->gq D 3 1 v (wQ l)
 form:∃a cap,v=.slice a l.length cap
theorem zhO(W:World)(b:Nat):fX W b none (.slice none 0 0) (.slice none 0 0) []:=
 ⟨λ_ _ h=>(by cases h),λ_ _=>.snil,λ_ _=>.nil 0 rfl rfl,⟨none,0,rfl⟩⟩
theorem iM{W:World}{a:Addr}{len cap:Nat}{d:List Int}(j:a.spot=none)(hz:d.length=cap)(hl:len<=cap)(p:∃x,W.shape? a.block=some x)
 (hc:∀i,i<d.length->W.cell? (a.add i)=some (.int .i64 (d.getD i 0))) (hf:∀i,i<cap->W.frozen? ⟨a.block,a.off+i,none⟩=false) (b:Nat) :
 ∃mo v,fX W b mo v (.slice (some a) len cap) (d.take len):=by
 obtain⟨blk,off,sp⟩:=a
 simp only at j
 subst j
 obtain⟨x,hx⟩:=p
 unfold World.shape? at hx
 split at hx
 .next cs e fz ho=>
  have f:∀i,i<cap->cs[off+i]? = some (.int .i64 (d.getD i 0)):=λi hi=>by
   have h:=hc i Oz
   have e1:(Addr.add ⟨blk,off,none⟩ i)=⟨blk,off+i,none⟩:=by unfold Addr.add;split<;>simp_all
   rw[e1]at h
   simpa[World.cell?,ho]using h
  by_cases h0:cap=0
  .have:d=[]:=dL Oz
   subst this
   have o:len=0:=by omega
   subst o h0
   refine⟨some (⟨blk,0,0,3,true⟩,[]),.slice (some ⟨b,0,none⟩) 0 0,λm c h=>?_,λβ h=>?_,λD h=>?_,⟨_,_,rfl⟩⟩
   .cases h
    refine⟨rfl,_,ho,λβ=>?_⟩
    exact .cells rfl (cH _) (.inl rfl) (λi _ hi=>by simp at hi) (λi v h=>by simp at h)
   .exact .szero (m:=⟨blk,0,0,3,true⟩) h
   .exact .block b 0 0 [] rfl (h _ _ rfl) Uz (λk hk=>by simp[wQ]at hk)
  .refine⟨some (⟨blk,off,off+cap,3,true⟩,xk d),.slice (some ⟨b,0,none⟩) len (2*cap),λm c h=>?_,λβ h=>?_,λD h=>?_,⟨_,_,by rw[bX,Nat.min_eq_left Oz]⟩⟩
   .cases h
    refine⟨rfl,_,ho,λβ=>?_⟩
    refine .cells rfl ?_ (.inr (by simp[xk];omega)) (λi h1 h2=>?_) (λi v h=>?_)
    .have:=f (cap-1) Oz
     have:=(Array.getElem?_eq_some_iff.mp this).1
     simp only;omega
    .simp only at h1 h2
     have:=hf (i-off) Oz
     simp only[World.frozen?,ho,show off+(i-off)=i by omega,eK,bO]at this
     omega
    .have hi:i<d.length:=by
      have:=(aM.mp h).1
      simpa[xk]using this
     refine⟨.int .i64 (d.getD i 0),?_,?_⟩
     .simp only
      rw[Nat.add_comm]
      exact f i Oz
     .have:v=.int .i64 (d.getD i 0):=by
       have h2:=Jl hi
       rw[zN,h]at h2
       exact dD h2
      subst this
      exact .int _ _
   .have:=ao.sknown (P:=Tryz.prog) (β:=β) (b:=b) (off:=0) (len:=len) (c:=cap) (m:=⟨blk,off,off+cap,3,true⟩) h
    simpa using this
   .refine .block b 0 (2*cap) (xk d) (by simp[wQ,bX];omega) (h _ _ rfl) (by simp[wQ,bX];omega) (λk hk=>?_)
    have l:k<len:=by simp[wQ,bX]at hk;omega
    have g:k<d.length:=by omega
    have n:k<(xk d).length:=by simpa[xk]using g
    have q:0+k*1=k:=by omega
    rw[q,yR,y7,aG (by rw[bZ];omega),List.drop_eq_getElem_cons n]
    congr 1
    simp[wQ,xk,aB,List.getElem?_take,l,g]
 .cases hx
def Lo(a b:Option ak):St:=⟨2,2,[],.node a (.node b .nil .nil) .nil⟩
theorem Fl{a b:Option ak}:(Lo a b).get 0=a:=rfl
theorem Fm{b a:Option ak}:(Lo b a).get 1=a:=rfl
theorem BL{a c:Option ak}{b:Nat}(h:2<=b):(Lo a c).get b=none:=by
 obtain⟨k,rfl⟩:∃k,b=k+2:=⟨b-2,by omega⟩
 show Tr.get (.node a (.node c .nil .nil) .nil) ((k+1)+1)=none
 simp only[Tr.get]
 split
 .have:(k+1) / 2≠0\/(k+1) / 2=0:=by omega
  rename_i h
  obtain⟨j,hj⟩:∃j,(k+1) / 2=j+1:=⟨(k+1) / 2-1,by omega⟩
  rw[hj]
  split
  .rename_i e;cases e
  .split<;>rfl
 .rfl
def Hj(mo:Option (dm×List Value)):Option ak:=mo.map λp=>.cells p.2 3
def dI(b:Nat)(mo:Option (dm×List Value)):au:=(Hj mo).toList.map λo=>(b,o)
theorem pC{b:Nat}{mo:Option (dm×List Value)}{m:dm}{c:List Value}(h:mo=some (m,c)):(b,ak.cells c 3)∈dI b mo:=by subst h;exact aO ..
theorem HQ{W:World}{d e:Option (dm×List Value)}{v1 i v2 j:Value}{A B:List Int}(h1:fX W 0 d v1 i A)(h2:fX W 1 e v2 j B) :
 ∃(β:aS) (s:St) (U:Wd),bh Tryz.prog β s W/\ao Tryz.prog β v1 i/\ao Tryz.prog β v2 j/\Fine s/\et s U/\cx U ng v1 A/\cx U ng v2 B/\s.next=2/\(∀b,s.next<=b->β b=none)/\∀b,b<s.next->s.may b=false:=by
 let β:aS:=λb=>if b=0 then d.map (·.1)else if b=1 then e.map (·.1)else none
 have u:β 0=d.map (·.1):=rfl
 have y:β 1=e.map (·.1):=rfl
 have key:∀b m,β b=some m->m.ro=true/\∃c o',W.heap[m.blk]? = some o'/\(Lo (Hj d) (Hj e)).get b=some (.cells c 3)/\∀β,eT Tryz.prog β m (.cells c 3) o':=λb m h=>by
  have hb:b=0\/b=1:=by
   apply cX
   intro hc
   have:β b=none:=by simp only[β];rw[aD Oz,aD Oz]
   rw[this]at h;cases h
  rcases hb with rfl|rfl
  .rw[u]at h
   obtain⟨⟨r,c⟩,hm,rfl⟩:=Option.map_eq_some_iff.mp h
   obtain⟨g1,o',g2,f⟩:=h1.img _ _ hm
   exact⟨g1,c,o',g2,by rw[Fl,hm];rfl,f⟩
  .rw[y]at h
   obtain⟨⟨r,c⟩,hm,rfl⟩:=Option.map_eq_some_iff.mp h
   obtain⟨g1,o',g2,f⟩:=h2.img _ _ hm
   exact⟨g1,c,o',g2,by rw[Fm,hm];rfl,f⟩
 let D:au:=dI 0 d++dI 1 e
 have z:∀p∈D,(Lo (Hj d) (Hj e)).get p.1=some p.2/\p.1<2:=λp hp=>by
  rcases aW.mp hp with hp|hp
  .obtain⟨o,ho,rfl⟩:=List.mem_map.mp hp
   exact⟨by rw[Fl];exact Option.mem_toList.mp ho,show(0:Nat)<2 by decide⟩
  .obtain⟨o,ho,rfl⟩:=List.mem_map.mp hp
   exact⟨by rw[Fm];exact Option.mem_toList.mp ho,show(1:Nat)<2 by decide⟩
 have rep:∀{v:Value} {l:List Int},gq D 3 1 v (wQ l)->(∃a cap,v=.slice a l.length cap)->cx ⟨gq D⟩ ng v l:=λ{v l} h hv=>by
  obtain⟨a,cap,rfl⟩:=hv
  refine⟨a,cap,wQ l,rfl,h,by rw[wQ,bI],λk x hx=>?_⟩
  show(wQ l).getD k []=[.int .i64 x]
  rw[wQ,aB,List.getElem?_map,hx]
  rfl
 refine⟨β,Lo (Hj d) (Hj e),⟨gq D⟩,?_,h1.val β u,h2.val β y,⟨aN _,λp h=>(by cases h)⟩,?_,rep (h1.sl D λm c h=>bJ _ (pC h)) h1.form,rep (h2.sl D λm c h=>bA _ (pC h)) h2.form,rfl,λb hb=>?_,λb hb=>?_⟩
 .refine⟨λb m h _=>?_,λb m o h _ hg=>?_,λb b' m r o o' h E _ _ _ _ _=>?_,λb m _ q _=>q,(by show 2<=281474976710655;decide),λb hb=>BL hb⟩
  .obtain⟨_,c,o',g,_⟩:=key b m h
   exact(Array.getElem?_eq_some_iff.mp g).1
  .obtain⟨_,c,o',g,g2,f⟩:=key b m h
   rw[g2]at hg
   cases hg
   exact⟨o',g,f β⟩
  .exact .inr ⟨(key b m h).1,(key b' r E).1⟩
 .refine⟨λt w v l h=>?_,λt w b off n cap L h lo hi cap' off' g1 g2 f C=>gq.cut h g1 g2 f C⟩
  cases h with
  |nil c hv hl=>exact .nil c hv hl
  |block b off cap c hv hg hcap hc=>exact .block b off cap c hv (z _ hg).1 (z _ hg).2 hcap hc
 .simp only[β]
  have:2<=b:=hb
  rw[aD Oz,aD Oz]
 .have:b<2:=hb
  show(Nat.ble 2 b&&_)=false
  rw[show Nat.ble 2 b=false by rw[cM];intro h;have:=aR h;omega]
  rfl
theorem N0:Tryz.prog.follows .mixedOrders=true:=by kernel_rfl
theorem zbV{β:aS}{s s':St}{W:World}{args args':Array Value}{f:FuncId}{I:zZ}(n:c6 Tryz.prog I)(hf:Nat.ble zy f=false)(j:bh Tryz.prog β s W)(d:bc Tryz.prog β args.toList args'.toList)(g:∀b,s.next<=b->β b=none)(i:∀b,b<s.next->s.may b=false)
 (p:vr Tryz.prog I f args s (.bool true) s') :
 Calls Tryz.prog f args' W fun | .returned x,w'=>x=.bool true/\RowKit.Below W.heap.size W w'|_,_=>False:=by
 obtain⟨k,hn⟩:=p
 have hn:=hn k (aN _)
 have h:=(x7 N0 n k).2.1 f args args' s β W hf j d (by rw[hn];intro h;cases h)
  (by rw[hn];intro x hx _;exact g x hx)
 rw[hn]at h
 refine h.mono λe w' hp=>?_
 obtain⟨β',v2,rfl,a,hv⟩:=hp
 cases hv
 refine⟨rfl,a.os,a.tape,a.output,a.size,λk hk=>a.out k hk λx m o hb l c=>?_⟩
 rw[i x l]at c
 cases c
end Go.Proofs.YtocnbjjmmgolfaaGreat
