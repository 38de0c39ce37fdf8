/- Plain law: the fits of a contradiction, picked out of all. -/
import Derived.Test.YtocnbjjmmgolfaaGreatA34
import Derived.Test.YtocnbjjmmgolfaaGreatA12
import Derived.Test.YtocnbjjmmgolfaaGreatA35
set_option linter.unusedSimpArgs false
set_option linter.unusedVariables false
set_option linter.unusedSectionVars false
namespace Go.Proofs.YtocnbjjmmgolfaaGreat
open Go Go.M Go.Proofs.C14
def alF(F:List Fq)(l:List Int):List Fq:=l.map fun x=>F.getD x.toNat default
structure IdxOK(F:List Fq)(l:List Int):Prop where
 rng:∀x∈l,0≤x∧x<(F.length:Int)
 inc:l.Pairwise (·<·)
 ne:l≠[]
section
variable{P:List Pc}{F:List Fq}{K:Nat}{l:List Int}(hl:IdxOK F l)
include hl
theorem IdxOK.mem{x:Int}(hx:x∈l):F.getD x.toNat default∈F:=by
 obtain⟨h0,h1⟩:=hl.rng x hx
 rw[zD (show x.toNat<F.length by omega)]
 exact aK _
theorem zaY:∀f∈alF F l,f∈F:=fun f hf=>by
 obtain⟨x,hx,rfl⟩:=List.mem_map.mp hf
 exact hl.mem hx
theorem IdxOK.nodup:(l.map Int.toNat).Nodup:=by
 have hi:=hl.inc
 have b:=hl.rng
 clear hl
 induction l with
 |nil=>exact List.nodup_nil
 |cons x l c=>
  rw[List.pairwise_cons]at hi
  rw[List.map_cons,List.nodup_cons]
  refine⟨fun h=>?_,c hi.2 fun y a=>b y (aN _ a)⟩
  obtain⟨y,a,e⟩:=List.mem_map.mp h
  have h1:=hi.1 y a
  have h2:=b x (aP ..)
  omega
theorem IdxOK.len:l.length≤F.length:=by
 have:=YG hl.nodup (t:=List.range F.length) fun k hk=>by
  obtain⟨x,hx,rfl⟩:=List.mem_map.mp hk
  have:=hl.rng x hx
  exact dT.mpr Oz
 rw[bI,List.length_range]at this
 exact this
omit hl in
theorem kl_of{D:Nat→Nat}:∀{l:List Nat},(∀k∈l,Tx (D k) (F.getD k default).2.2.2.2.2.1)→KL (l.map fun k=>F.getD k default) (pr D l)
 | [],_=>.nil
 |k::l,h=>.cons (h k (aP ..)) (kl_of fun j hj=>h j (aN _ hj))
theorem zgY(h:CaseOK P F K):∃b,CaseOK P (alF F l) b:=by
 obtain⟨D,c,d⟩:=h.kl.fn
 have a:∀k∈l.map Int.toNat,k<F.length:=fun k hk=>by
  obtain⟨x,hx,rfl⟩:=List.mem_map.mp hk
  have:=hl.rng x hx
  omega
 have hk:=kl_of (F:=F) (D:=D) (l:=l.map Int.toNat) fun k hk=>d k (a k hk)
 have hd:pr D (l.map Int.toNat)∣K:=by rw[←c];exact zeh hl.nodup fun k hk=>dT.mpr (a k hk)
 have e:(l.map Int.toNat).map (fun k=>F.getD k default)=alF F l:=by rw[List.map_map];rfl
 rw[e]at hk
 have hle:=hl.len
 refine⟨_,h.n,h.pc,?_,fun f hf=>h.ft f (zaY hl f hf),hk,bH (Nat.le_of_dvd h.kl.pos hd) h.kd⟩
 unfold alF
 rw[bI]
 have:=h.fl
 omega
theorem picked_ok(h6:F.length≤6):z27 F l=some (alF F l):=by
 have hle:=hl.len
 unfold z27
 refine zk l.length (fun i (x:Int×List Fq)=>x=((i:Int),alF F (l.take i))) (fun o=>o=some (alF F l)) Oz rfl ?_ ?_
 ·rintro i x g hi rfl hg
  obtain⟨h0,h1⟩:=hl.rng _ (aK hi)
  obtain⟨j,hj⟩:=Int.eq_ofNat_of_zero_le h0
  have a:j<F.length:=by omega
  dsimp only
  rw[aF (zM hi),zt hi,aA,aF (aH h0),aA,aF (aH h1),aA,hj,xo (e:=default) a,aA,yF (by simp[alF];omega),aA,zp Oz,aA]
  refine hg _ ?_
  rw[yz hi,alF,alF,List.map_append,List.map_cons,hj]
  rfl
 ·rintro x g rfl
  dsimp only
  rw[aD Y8,aY]
end
section
variable{P:List Pc}{F:List Fq}{K:Nat}
theorem allO_lt{x:Int}:∀{m:Nat},x∈kQ F m→0≤x∧x<(m:Int):=fun{m} h=>by
 unfold kQ at h
 obtain⟨j,hj,hx⟩:=List.mem_flatMap.mp h
 have hj:=dT.mp hj
 have:=List.eq_of_mem_replicate hx
 omega
theorem zgR{L:List Bd}{n:Nat}{c:List Int}(hL:L.length=(kQ F F.length).length)(hc:zbc L n (kQ F F.length) c):IdxOK F c:=by
 obtain⟨w,⟨⟨e,-⟩,v,s,b,-⟩,a,hp⟩:=hc
 refine⟨fun x hx=>?_,hp,fun h0=>?_⟩
 ·obtain⟨y,d,rfl⟩:=(a x).mp hx
  have:=zam b y d
  rw[zD (show y.toNat<(kQ F F.length).length by omega)]
  exact allO_lt (aK _)
 ·cases w with
  |nil=>exact absurd e Y8
  |cons y w=>
   have:=(a ((kQ F F.length).getD y.toNat 0)).mpr ⟨y,aP ..,rfl⟩
   rw[h0]at this
   cases this
def jr(k:Nat)(r:List Nat):List Int:=(nts r).foldl Qw [(k:Int)]
theorem mem_turnL{k:Nat}{r:List Nat}{x:Int}:x∈jr k r↔∃i∈k::r,x=(i:Int):=by
 unfold jr nts
 rw[Vm,aV,List.mem_map]
 constructor
 ·rintro(rfl|⟨i,hi,rfl⟩)
  ·exact⟨k,aP ..,rfl⟩
  ·exact⟨i,aN _ hi,rfl⟩
 ·rintro⟨i,hi,rfl⟩
  rcases aL.mp hi with rfl|hi
  ·exact .inl rfl
  ·exact .inr ⟨i,hi,rfl⟩
section
variable{k:Nat}{r:List Nat}(hf:first (eds F) (trn F) F.length=some (k,r))
include hf
theorem JM:∀i∈k::r,i<F.length:=by
 obtain⟨hk,-,-⟩:=wE hf
 obtain⟨a,-⟩:=XE hf
 intro i hi
 rcases aL.mp hi with rfl|hi
 ·exact hk
 ·have:=qo (e:=eds F) k i ((wm (xk k) a).2 i hi)
  omega
theorem zbq:IdxOK F (jr k r):=by
 refine⟨fun x hx=>?_,gk (List.pairwise_singleton _ _),fun h0=>?_⟩
 ·obtain⟨i,hi,rfl⟩:=mem_turnL.mp hx
  have:=JM hf i hi
  omega
 ·have:(k:Int)∈jr k r:=mem_turnL.mpr ⟨k,aP ..,rfl⟩
  rw[h0]at this
  cases this
theorem Kk(b:UnF F):¬ ∃τ,AgF (alF F (jr k r)) τ:=by
 rintro⟨τ,hu,hτ⟩
 refine no_turns (zbo b) hf hu fun i hi=>?_
 have a:=JM hf i hi
 obtain⟨e1,e2⟩:=gw a
 have:=hτ _ (dS (mem_turnL.mpr ⟨i,hi,rfl⟩))
 rw[Int.toNat_natCast,zD a]at this
 rw[e1,e2]
 exact this
theorem turn_less(n:UnF F){q:Nat}(g:q<(jr k r).length):∃τ,AgF ((alF F (jr k r)).take q++(alF F (jr k r)).drop (q+1)) τ:=by
 obtain⟨j,hj,m⟩:=mem_turnL.mp (aK g)
 obtain⟨τ,hu,hτ⟩:=zeb (zbo n) hf hj
 refine⟨τ,hu,fun f a=>?_⟩
 have hn:=(zbq hf).inc
 obtain⟨x,hx,d,rfl⟩:∃x∈jr k r,x≠(jr k r)[q]∧f=F.getD x.toNat default:=by
  unfold alF at a
  rw[List.pairwise_iff_getElem]at hn
  rcases aU.mp a with h|h
  ·rw[←List.map_take]at h
   obtain⟨x,hx,rfl⟩:=List.mem_map.mp h
   obtain⟨i,hi,rfl⟩:=List.mem_take_iff_getElem.mp hx
   have c:i<q:=by omega
   have:=hn i q Oz g c
   exact⟨_,eI hx,by omega,rfl⟩
  ·rw[←List.map_drop]at h
   obtain⟨x,hx,rfl⟩:=List.mem_map.mp h
   obtain⟨i,hi,rfl⟩:=List.mem_drop_iff_getElem.mp hx
   have:=hn q (q+1+i) g Oz Oz
   exact⟨_,List.mem_of_mem_drop hx,by omega,rfl⟩
 obtain⟨i,hi,rfl⟩:=mem_turnL.mp hx
 have b:=JM hf i hi
 obtain⟨e1,e2⟩:=gw b
 have:=hτ i hi fun e=>d (by rw[m,e])
 rw[e1,e2]at this
 rw[Int.toNat_natCast,zD b]
 exact this
end
end
theorem own{F:List Fq}{B:Fq→List Bd}(d:∀f,(B f).length=2*(many f+1)):∀m:Nat,m≤F.length→(kQ F m).length=((F.take m).flatMap B).length∧∀(i:Nat) (b:Bd),((F.take m).flatMap B)[i]? = some b→∃j:Int,(kQ F m)[i]? = some j∧b∈B (F.getD j.toNat default)
 |0,_=>⟨rfl,fun i b h=>by simp at h⟩
 |m+1,a=>by
  obtain⟨h1,h2⟩:=own (F:=F) d m Oz
  have a:m<F.length:=by omega
  have k:(F.take (m+1)).flatMap B=(F.take m).flatMap B++B F[m]:=by rw[yz a,List.flatMap_append];simp
  rw[k,JR,aQ,aQ,dB,h1,d,zD a]
  refine⟨rfl,fun i b h=>?_⟩
  by_cases c:i<((F.take m).flatMap B).length
  ·rw[bY c]at h
   obtain⟨j,e,hj⟩:=h2 i b h
   exact⟨j,by rw[bY Oz];exact e,hj⟩
  ·rw[List.getElem?_append_right Oz]at h
   obtain⟨hi,e⟩:=aM.mp h
   have g:=hi
   rw[d]at g
   refine⟨(m:Int),?_,?_⟩
   ·rw[List.getElem?_append_right Oz,List.getElem?_replicate,aF Oz]
   ·rw[Int.toNat_natCast,zD a,←e]
    exact aK _
theorem own_all{F:List Fq}{B:Fq→List Bd}(a:∀f,(B f).length=2*(many f+1))(i:Nat)(hi:i<(F.flatMap B).length):(F.flatMap B)[i]∈B (F.getD ((kQ F F.length).getD i 0).toNat default):=by
 obtain⟨-,h2⟩:=own (F:=F) a F.length (aO _)
 rw[aY]at h2
 obtain⟨j,e,hj⟩:=h2 i _ (aE hi)
 rw[show(kQ F F.length).getD i 0=j by rw[aC,e];rfl]
 exact hj
theorem zgD{L:List Bd}{of c:List Int}{pot:Nat→Rat}(h:∀i (hi:i<L.length),of.getD i 0∈c→pot L[i].2.1.toNat≤pot L[i].1.toNat+L[i].2.2):∀{w:List Int} {a v:Nat} {s:Rat},IW L a w v s→(∀x∈w,of.getD x.toNat 0∈c)→pot v≤pot a+s
 | [],a,v,s,⟨h1,h2⟩,_=>by rw[h1,h2,Rat.add_zero];exact eL
 |x::w,a,v,s,⟨i,e,hi,h1,s',h2,d⟩,b=>by
  have g:=zgD h d fun y f=>b y (aN _ f)
  have g2:=h i hi (by have:=b x (aP ..);rw[e,Int.toNat_natCast]at this;exact this)
  rw[h1]at g2
  rw[h2]
  grind
theorem cyc_no{F:List Fq}{B:Fq→List Bd}(a:∀f,(B f).length=2*(many f+1)){n:Nat}{c:List Int}(hc:zbc (F.flatMap B) n (kQ F F.length) c):¬ ∃y,Sat (((alF F c).flatMap B).map toE) y:=by
 rintro⟨y,e⟩
 obtain⟨w,⟨-,v,s,d,hs⟩,b,-⟩:=hc
 have:=zgD (of:=kQ F F.length) (c:=c) (pot:=y) (fun i hi hj=>?_) d fun x hx=>(b _).mpr ⟨x,hx,rfl⟩
 ·grind
 ·have hb:=own_all a i hi
  exact e (toE (F.flatMap B)[i]) (dS (List.mem_flatMap.mpr ⟨_,dS hj,hb⟩))
section
variable{P:List Pc}{F F':List Fq}
theorem Wq(d:∀f∈F,Qv f.2.2.2.2.2.1)(ok:okB P F=true)(hs:∀f∈F',f∈F){τ:Int→Q2}(hτ:AgF F τ){x y:Nat→Rat}(hx:zdE P (yH P.length F') F' x)(n:zdD P (yH P.length F') F' y):(∃x,zdE P (yH P.length F) F' x)∧∃y,zdD P (yH P.length F) F' y:=by
 have l:UnF F:=fun f hf=>(d f hf).1
 have k:=zci ok
 have b:=l.sub hs
 have hτ':=hτ.sub hs
 have a:∀f∈F',0≤f.1∧f.1<f.2.1∧f.2.1<(P.length:Int):=fun f hf=>k f (hs f hf)
 have e:∀f∈F',Qv f.2.2.2.2.2.1:=fun f hf=>d f (hs f hf)
 have o:∀i,Qv (xi P.length F i):=zfX d P.length
 have j:∀i,Qv (xi P.length F' i):=zfX e P.length
 have at':∀(G:List Fq) (v:Int),0≤v→v<(P.length:Int)→qW (yH P.length G) v=xi P.length G v.toNat:=fun G v h0 h1=>by
  unfold qW
  rw[zD (show v.toNat<(yH P.length G).length by simp[yH];omega)]
  unfold yH
  rw[List.getElem_map,List.getElem_range]
 have m:∀f∈F',(fun v=>aft (xi P.length F v) (bck (xi P.length F' v))) f.1.toNat=(fun v=>aft (xi P.length F v) (bck (xi P.length F' v))) f.2.1.toNat∧qW (yH P.length F) f.1=aft ((fun v=>aft (xi P.length F v) (bck (xi P.length F' v))) f.1.toNat) (qW (yH P.length F') f.1)∧qW (yH P.length F) f.2.1=aft ((fun v=>aft (xi P.length F v) (bck (xi P.length F' v))) f.2.1.toNat) (qW (yH P.length F') f.2.1):=by
  intro f hf
  obtain⟨a0,ab,bn⟩:=a f hf
  have t1:=Kf l hτ k (hs f hf)
  have t2:=Kf b hτ' a hf
  have q:=b f hf
  refine⟨?_,?_,?_⟩
  ·dsimp only
   rw[t1,t2]
   have p:bck (aft (xi P.length F' f.1.toNat) f.2.2.2.2.2.1)=aft (bck f.2.2.2.2.2.1) (bck (xi P.length F' f.1.toNat)):=by
    unfold bck aft
    refine Prod.ext ?_ ?_<;>dsimp only<;>grind
   rw[p,yu,←yu f.2.2.2.2.2.1,QU q,jv]
  ·dsimp only
   rw[at' F' _ Oz Oz,at' F _ Oz Oz,yu,vT (j _).1,vN]
  ·dsimp only
   rw[at' F' _ Oz Oz,at' F _ Oz Oz,yu,vT (j _).1,vN]
 obtain⟨h1,h2⟩:=sol_turn (T':=yH P.length F) (g:=fun v=>aft (xi P.length F v) (bck (xi P.length F' v))) (fun v=>((o v).aft (j v).bck).qu) hx n (fun f hf=>hf) m
 exact⟨⟨_,h1⟩,⟨_,h2⟩⟩
end
inductive CtrF(P:List Pc)(F:List Fq)(c:List Int):Prop
 |turn (k:Nat) (r:List Nat):first (eds F) (trn F) F.length=some (k,r)→c=jr k r→CtrF P F c
 |xs:first (eds F) (trn F) F.length=none→zbc (Zq P (yH P.length F) F) P.length (kQ F F.length) c→CtrF P F c
 |ys:first (eds F) (trn F) F.length=none→zbc (Yc P (yH P.length F) F) P.length (kQ F F.length) c→CtrF P F c
section
variable{P:List Pc}{F:List Fq}{K:Nat}{c:List Int}(hc:CtrF P F c)
include hc
theorem zaL:IdxOK F c:=by
 cases hc with
 |turn k r h1 h2=>rw[h2];exact zbq h1
 |xs h1 h2=>exact zgR (len_O (P:=P) (T:=yH P.length F)).1.symm h2
 |ys h1 h2=>exact zgR (len_O (P:=P) (T:=yH P.length F)).2.symm h2
theorem Jn(d:∀f∈F,Qv f.2.2.2.2.2.1)(ok:okB P F=true):¬Qj P (alF F c):=by
 have hs:=zaY (zaL hc)
 have b:UnF F:=fun f hf=>(d f hf).1
 rintro⟨t,⟨x,hx⟩,y,e⟩
 cases hc with
 |turn k r h1 h2=>
  subst h2
  exact Kk h1 b t
 |xs h1 h2=>
  obtain⟨τ,hτ⟩:=(vr b).mp h1
  obtain⟨⟨x',a⟩,-⟩:=Wq d ok hs hτ hx e
  exact cyc_no (B:=bdX P (yH P.length F)) (fun f=>uf _) h2 ⟨x',sat_X.mpr a⟩
 |ys h1 h2=>
  obtain⟨τ,hτ⟩:=(vr b).mp h1
  obtain⟨-,g,a⟩:=Wq d ok hs hτ hx e
  exact cyc_no (B:=bdY P (yH P.length F)) (fun f=>uf _) h2 ⟨g,sat_Y.mpr a⟩
end
theorem case_cut{P:List Pc}{F:List Fq}{K:Nat}(h:CaseOK P F K)(i:Nat):∃a,CaseOK P (F.take i++F.drop (i+1)) a:=by
 obtain⟨a,h1,h2⟩:=zeC (i:=i) h.kl
 refine⟨a,h.n,h.pc,?_,fun f hf=>?_,h2,bH h1 h.kd⟩
 ·have:=h.fl
  simp
  omega
 ·rcases aU.mp hf with hf|hf
  ·exact h.ft f (eI hf)
  ·exact h.ft f (List.mem_of_mem_drop hf)
section
variable{P:List Pc}{F:List Fq}{K:Nat}(h:CaseOK P F K)(ok:okB P F=true){c:List Int}(hc:CtrF P F c)
include h ok hc
theorem clsU_ok:clsU P F c (alF F c)=some true:=by
 have hi:=zaL hc
 have hs:=zaY hi
 obtain⟨K',e⟩:=zgY hi h
 have d:=zaa (P':=P) rfl hs ok
 have e1:=JF h ok
 have e2:=JF e d
 unfold clsU
 rw[e1,aA]
 cases hf:first (eds F) (trn F) F.length with
 |none=>
  rw[gQ hf,aF Y8,aF Y8,QZ]
  rfl
 |some x=>
  obtain⟨k,r⟩:=x
  have a:c=jr k r:=by
   cases hc with
   |turn k' l h1 h2=>
    rw[hf]at h1
    cases h1
    exact h2
   |xs h1 h2=>rw[hf]at h1;cases h1
   |ys h1 h2=>rw[hf]at h1;cases h1
  have hl:c.length≤F.length:=hi.len
  have h6:=h.fl
  have la:(alF F c).length=c.length:=by unfold alF;rw[bI]
  have n:∃k' l,first (eds (alF F c)) (trn (alF F c)) (alF F c).length=some (k',l):=by
   cases b:first (eds (alF F c)) (trn (alF F c)) (alF F c).length with
   |none=>
    exfalso
    have:=(vr e.un).mp b
    rw[a]at this
    exact Kk hf h.un this
   |some x=>exact⟨x.1,x.2,rfl⟩
  obtain⟨k',l,b⟩:=n
  rw[jT hf,aD Y8,e2,aA,jT b,aD Y8]
  show((z14 (jr k r) c).bind _)=_
  rw[←a,Xp Oz,aA,aD Uz]
  refine zk c.length (fun i (x:Int)=>x=(i:Int)) (fun o=>o=some true) Oz rfl ?_ ?_
  ·rintro i x g hx rfl hg
   have s1:xK (alF F c) ((i+1:Nat):Int) ((alF F c).length:Int)=some ((alF F c).drop (i+1)):=by
    unfold xK
    rw[aF Oz,Int.toNat_natCast,Int.toNat_natCast,dC Y8]
   have s2:xK (alF F c) 0 (i:Int)=some ((alF F c).take i):=by
    unfold xK
    rw[aF Oz]
    rfl
   obtain⟨K2,h2⟩:=case_cut e i
   have j:∀f∈(alF F c).take i++(alF F c).drop (i+1),f∈alF F c:=fun f hf=>by
    rcases aU.mp hf with hf|hf
    ·exact eI hf
    ·exact List.mem_of_mem_drop hf
   have m:=JF h2 (zaa (P':=P) rfl j d)
   have hn:first (eds ((alF F c).take i++(alF F c).drop (i+1))) (trn ((alF F c).take i++(alF F c).drop (i+1))) ((alF F c).take i++(alF F c).drop (i+1)).length=none:=by
    refine(vr h2.un).mpr ?_
    have:=turn_less hf h.un (q:=i) (by rw[←a];exact hx)
    rw[←a]at this
    exact this
   rw[aF (by rw[la];exact zM hx),zp Oz,aA,s1,aA,s2,aA,yF (by simp;omega),aA,cI,yF (by simp;omega),aA,m,aA,gQ hn,aD Y8,aA]
   exact hg _ rfl
  ·rintro x g rfl
   rw[aD (by rw[la];simp),QZ]
   rfl
theorem clsT_ok:Qx P F c 14=some true:=by
 have hi:=zaL hc
 have hs:=zaY hi
 obtain⟨K',n⟩:=zgY hi h
 have i:=zaa (P':=P) rfl hs ok
 have la:(alF F c).length=c.length:=by unfold alF;rw[bI]
 have c0:c.length≠0:=fun e=>hi.ne (dK e)
 obtain⟨q,l,k⟩:=quart_ok h.fl h.ft
 obtain⟨A,d,e,m,he⟩:∃A d e,z26 P (alF F c)=some (A,d,e)∧(q=true→e=14):=by
  cases JQ n with
  |arg a f=>rw[i]at a;cases a
  |bad d a f j=>exact⟨_,_,_,j,fun _=>rfl⟩
  |ok x y a f j a4 g=>
   generalize vm P (xN P.length (alF F c)) (plL P.length (xN P.length (alF F c)) (yH P.length (alF F c)) x y)=b at g
   cases b
   ·exact⟨_,_,_,g,fun e=>absurd f (Jn hc (k e) ok)⟩
   ·exact⟨_,_,_,g,fun e=>absurd f (Jn hc (k e) ok)⟩
 unfold Qx
 rw[aD Y8,picked_ok hi h.fl,aA,aD (by simp only[aB];omega),aD (by simp only[aB];omega),m,aA,l,aA]
 have hu:=clsU_ok h ok hc
 cases q
 ·rw[aD Uz]
  exact hu
 ·rw[aF rfl,aD (by rw[he rfl];simp)]
  exact hu
end
section
variable{P:List Pc}{F:List Fq}{K:Nat}(h:CaseOK P F K){A:List Pl}(hl:A.length=P.length)(hA:∀v∈A,PlOK K v)
include h hl hA
theorem Jp(hu:¬ ∀v∈A,Y4 v.1=true):∃e,z24 P F A=some e∧e≠0∧e≠13:=by
 have b:=h.k
 have e1:=uj h.fl h.tu rfl h.n.2 h.pc
 cases a:okB P F with
 |false=>
  refine⟨1,?_,by decide,by decide⟩
  unfold okB at a
  rw[a,aD Y8]at e1
  unfold z24
  rw[e1,aA,aF Y8]
 |true=>
 unfold okB at a
 rw[a,aF rfl]at e1
 have h4:=h.n.2
 have uni:∀i (hi:i<A.length),z62 A[i]=some (!Y4 A[i].1):=fun i hi=>by
  have p:=hA _ (aK hi)
  obtain⟨h1,-⟩:=JI b ⟨p.turn.1.le (show 1≤12 by decide),p.turn.2.le (show 1≤12 by decide)⟩
  unfold z62
  rw[h1]
  rfl
 unfold z24
 rw[e1,aA,aD Y8,aD (by simp only[aB];omega)]
 refine zk A.length (fun i x=>x=(i:Int)∧∀v∈A.take i,Y4 v.1=true) (fun o=>∃e,o=some e∧e≠0∧e≠13) Oz ⟨rfl,fun v hv=>by simp at hv⟩ ?_ ?_
 ·rintro i x g hi ⟨rfl,hs⟩ hg
  rw[aF (zM hi),zt hi,aA,uni i hi,aA]
  cases hb:Y4 A[i].1 with
  |false=>
   rw[aF Uz,aF (aH Oz)]
   exact⟨1,rfl,by decide,by decide⟩
  |true=>
   rw[aD Uz,zp (show i<100000 by omega),aA]
   refine hg _ ⟨rfl,fun v hv=>?_⟩
   rw[yz hi,aU,aV]at hv
   rcases hv with hv|rfl
   ·exact hs v hv
   ·exact hb
 ·rintro x g ⟨rfl,hs⟩
  rw[aY]at hs
  exact absurd hs hu
omit h hA in
theorem tn_at{i:Nat}(hi:i<P.length):qW (tnA A) (i:Int)=(A[i]'Oz).1:=by
 unfold qW tnA
 rw[Int.toNat_natCast,zD V4,List.getElem_map]
omit hA in
theorem good_of(hu:∀v∈A,Y4 v.1=true)(c:ChkP P F A):Qj P F:=by
 have k:=zci c.ok
 have ro:=JT c.ok
 let τ:Int→Q2:=fun v=>if 0≤v∧v<(P.length:Int)then qW (tnA A) v else zX
 have un:∀i (hi:i<P.length),Un (qW (tnA A) (i:Int)):=fun i hi=>by
  rw[tn_at hl hi]
  have e:A[i].1.1*A[i].1.1+A[i].1.2*A[i].1.2=1:=dE (hu _ (aK (show i<A.length by omega)))
  exact e
 have hτ:AgF F τ:=by
  refine⟨fun v=>?_,fun f hf=>?_⟩
  ·show Un (if 0≤v∧v<(P.length:Int)then qW (tnA A) v else zX)
   split
   ·next g=>
    obtain⟨i,hi⟩:=Int.eq_ofNat_of_zero_le g.1
    rw[hi]
    exact un i Oz
   ·exact uU
  ·obtain⟨a0,ab,bn⟩:=k f hf
   show(if 0≤f.2.1∧f.2.1<(P.length:Int)then qW (tnA A) f.2.1 else zX)=aft (if 0≤f.1∧f.1<(P.length:Int)then qW (tnA A) f.1 else zX) _
   rw[aF Oz,aF Oz]
   exact c.fit f hf
 have j:yH P.length F=tnA A:=by
  apply List.ext_getElem
  ·simp[yH,tnA];omega
  ·intro i hi hi'
   have hi:i<P.length:=by simpa[yH]using hi
   have l:=ro.le i hi
   obtain⟨r,b⟩:=Int.eq_ofNat_of_zero_le l.1
   have a:r<P.length:=by omega
   rw[show(yH P.length F)[i]=xi P.length F i by simp[yH],gR h.un hτ k hi]
   have e2:τ (i:Int)=qW (tnA A) i:=aF Oz
   have e1:τ ((xN P.length F).getD i 0)=zX:=by
    rw[b,show τ ((r:Nat):Int)=qW (tnA A) r from aF Oz,tn_at hl a]
    have d:(xN P.length F).getD r 0=(r:Int):=by
     have:=(ro.same i r hi a).mp (by rw[←b];exact(ro.cn i hi).symm)
     rw[←this,b]
    exact(c.root r Oz d).1
   rw[e1,e2,tn_at hl hi,show(tnA A)[i]=A[i].1 by simp[tnA]]
   exact jv _
 refine⟨⟨τ,hτ⟩,⟨fx (xsA A),?_⟩,⟨fx (ysA A),?_⟩⟩
 ·rw[j];exact sat_X.mp c.sx
 ·rw[j];exact sat_Y.mp c.sy
theorem check_ctr(hg:okB P F=true→¬Qj P F):∃e,z24 P F A=some e∧e≠0∧e≠13:=by
 by_cases hu:∀v∈A,Y4 v.1=true
 ·exact(gI h hl hA hu).2 fun c=>hg c.ok (good_of h hl hu c)
 ·exact Jp h hl hA hu
theorem check_tot:∃e,z24 P F A=some e:=by
 by_cases hu:∀v∈A,Y4 v.1=true
 ·by_cases c:ChkP P F A
  ·exact⟨_,(gI h hl hA hu).1 c⟩
  ·obtain⟨e,h1,-⟩:=(gI h hl hA hu).2 c
   exact⟨e,h1⟩
 ·obtain⟨e,h1,-⟩:=Jp h hl hA hu
  exact⟨e,h1⟩
end
section
variable{P:List Pc}{F:List Fq}{K:Nat}(h:CaseOK P F K)
include h
theorem solved_ok(ok:okB P F=true)(hf:∃τ,AgF F τ){x y:List Rat}(n:Gst (Zq P (yH P.length F) F) P.length (K*4) x)(o:Gst (Yc P (yH P.length F) F) P.length (K*4) y)(hc:vm P (xN P.length F) (plL P.length (xN P.length F) (yH P.length F) x y)=false):z24 P F (plL P.length (xN P.length F) (yH P.length F) x y)=some 0:=by
 obtain⟨τ,hτ⟩:=hf
 have c:=zci ok
 have ro:=JT ok
 have hl:(plL P.length (xN P.length F) (yH P.length F) x y).length=P.length:=by simp[plL]
 have hA:=plL_pl h ro n.num o.num
 have l:∀i,i<P.length→(yH P.length F).getD i (0,0)=xi P.length F i:=fun i hi=>by
  rw[zD (show i<(yH P.length F).length by simp[yH];omega)]
  unfold yH
  rw[List.getElem_map,List.getElem_range]
 have hu:∀v∈plL P.length (xN P.length F) (yH P.length F) x y,Y4 v.1=true:=by
  intro v hv
  obtain⟨i,hi,rfl⟩:=List.mem_map.mp hv
  have hi:=dT.mp hi
  dsimp only
  rw[l i hi]
  exact aH (turn_un h.un hτ c hi)
 have j:tnA (plL P.length (xN P.length F) (yH P.length F) x y)=yH P.length F:=by
  unfold tnA plL
  rw[List.map_map]
  show(List.range P.length).map _=(List.range P.length).map _
  exact List.map_congr_left fun i hi=>l i (dT.mp hi)
 have ex:∀i,i<P.length→fx (xsA (plL P.length (xN P.length F) (yH P.length F) x y)) i=fx x i-fx x ((xN P.length F).getD i 0).toNat:=fun i hi=>by
  unfold xsA plL
  rw[List.map_map]
  show List.getD _ i 0=_
  rw[zD (by simpa using hi),List.getElem_map,List.getElem_range]
  rfl
 have m:∀i,i<P.length→fx (ysA (plL P.length (xN P.length F) (yH P.length F) x y)) i=fx y i-fx y ((xN P.length F).getD i 0).toNat:=fun i hi=>by
  unfold ysA plL
  rw[List.map_map]
  show List.getD _ i 0=_
  rw[zD (by simpa using hi),List.getElem_map,List.getElem_range]
  rfl
 have kp:∀{d e a b r:Rat},Wp d e a b→Wp d e (a-r) (b-r):=fun hk=>by
  obtain⟨h1,h2⟩:=hk
  constructor<;>grind
 have g:=(gI h hl hA hu).1 ⟨ok,fun i hi p=>?_,fun f hf=>?_,?_,?_⟩
 ·rw[hc,aD Uz]at g
  exact g
 ·have hi:i<P.length:=by omega
  have q:(plL P.length (xN P.length F) (yH P.length F) x y)[i]=((yH P.length F).getD i (0,0),fx x i-fx x ((xN P.length F).getD i 0).toNat,fx y i-fx y ((xN P.length F).getD i 0).toNat):=by simp[plL]
  rw[q,p,Int.toNat_natCast,Rat.sub_self,Rat.sub_self]
  refine⟨?_,rfl⟩
  show(yH P.length F).getD i (0,0)=zX
  rw[l i hi,gR h.un hτ c hi,p]
  exact vT (hτ.1 _)
 ·rw[j]
  obtain⟨a0,ab,bn⟩:=c f hf
  have at':∀v:Int,0≤v→v<(P.length:Int)→qW (yH P.length F) v=xi P.length F v.toNat:=fun v h0 h1=>by
   unfold qW
   rw[zD (show v.toNat<(yH P.length F).length by simp[yH];omega)]
   unfold yH
   rw[List.getElem_map,List.getElem_range]
  rw[at' _ Oz Oz,at' _ Oz Oz]
  exact Kf h.un hτ c hf
 ·rw[j]
  refine sat_X.mpr fun f hf k hk=>?_
  obtain⟨a0,ab,bn⟩:=c f hf
  rw[ex _ Oz,ex _ Oz,←Kz c hf]
  exact kp (sat_X.mp n.sat f hf k hk)
 ·rw[j]
  refine sat_Y.mpr fun f hf k hk=>?_
  obtain⟨a0,ab,bn⟩:=c f hf
  rw[m _ Oz,m _ Oz,←Kz c hf]
  exact kp (sat_Y.mp o.sat f hf k hk)
end
inductive SolC(P:List Pc)(F:List Fq):Option (List Pl×List Int×Int)→Prop
 |arg:SolC P F (some ([],[],1))
 |ctr (c:List Int):okB P F=true→CtrF P F c→¬Qj P F→SolC P F (some ([],c,14))
 |crowd:SolC P F (some ([],[],13))
 |ok (A:List Pl):z24 P F A=some 0→SolC P F (some (A,[],0))
theorem solve_c{P:List Pc}{F:List Fq}{K:Nat}(h:CaseOK P F K):SolC P F (z26 P F):=by
 have e:=vr h.un
 cases uV h with
 |arg h1 h2=>rw[h2];exact .arg
 |turn k r h1 h2 a=>rw[a];exact .ctr _ h1 (.turn k r h2 rfl) fun g=>by rw[e.mpr g.1]at h2;cases h2
 |xs c h1 h2 a b d=>rw[d];exact .ctr _ h1 (.xs h2 b) fun g=>a g.2.1
 |ys c h1 h2 a b d=>rw[d];exact .ctr _ h1 (.ys h2 b) fun g=>a g.2.2
 |ok x y h1 h2 a b d=>
  rw[d]
  cases hc:vm P (xN P.length F) (plL P.length (xN P.length F) (yH P.length F) x y)
  ·rw[aD Y8]
   exact .ok _ (solved_ok h h1 (e.mp h2) a b hc)
  ·rw[aF rfl]
   exact .crowd
theorem third'{x:Int}(h:yy x):yy (Int.tdiv x 3):=by
 unfold yy at *
 rcases Int.le_total 0 x with g|g
 ·rw[dL g];omega
 ·have:Int.tdiv x 3 = -(Int.tdiv (-x) 3):=by rw[Int.neg_tdiv,Int.neg_neg]
  rw[this,dL Oz]
  omega
theorem twice{P:List Pc}{F:List Fq}{A:List Pl}(hb:BoxOK P F A){how a also:Int}(i:yy how)(b:yy a)(ha:yy also):∃G H K,z9 F how a=some G∧z9 G also (Int.tdiv a 3)=some H∧CaseOK P H K:=by
 obtain⟨G,d,lG,g,K1,k1,j⟩:=zhd (by have:=hb.fl.2;omega) (fun f hf=>(hb.ft f hf).1) (zeB fun f hf=>(hb.ft f hf).2) i b
 have:=hb.fl.2
 obtain⟨H,e,lH,h,c,k2,k⟩:=zhd Oz g j ha (third' b)
 exact⟨G,H,c,d,e,⟨by have:=hb.n.1;omega,hb.n.2⟩,fun p hp=>(hb.pc p hp).1,by omega,h,k,by omega⟩
theorem z5_true{l L:List Int}{how b also:Int}(hl:L64 l)(Z:yy how)(t:yy b)(ha:yy also)(E:L64 L):z5 l how b also L=some true:=by
 obtain⟨P,F,A,T,hb⟩:=z8_ok hl
 obtain⟨G,H,K,e1,e2,hc⟩:=twice hb Z t ha
 have i3:i64 (Int.tdiv b 3)=some (Int.tdiv b 3):=aF (third' t)
 have hn:=hc.n
 have al:=hb.al
 obtain⟨k,U,k0,kn⟩:=Q5 (m:=(A.length:Int)) t Oz Oz
 obtain⟨j,rfl⟩:=Int.eq_ofNat_of_zero_le k0
 have hj:j<A.length:=by omega
 obtain⟨r,V,r0,r5⟩:=v8 (m:=5) E (i:=0) Uz Uz Uz
 obtain⟨s,es,s0,s5⟩:=v8 (m:=5) E (i:=1) Uz Uz Uz
 obtain⟨p1,p2⟩:=hb.pl _ (aK hj)
 have g1:QV 4 1 (Rat.divInt (r-2) 4):=Vy (q:=4) Uz 1 rfl Oz
 have g2:QV 4 1 (Rat.divInt (s-2) 4):=Vy (q:=4) Uz 1 rfl Oz
 have sb4:SB 4 8:=⟨by decide,by decide⟩
 have sb1:SB 1 8:=⟨by decide,by decide⟩
 have z:∀{x:Rat},QV 1 8 x→QV 4 8 x:=fun h=>by have:=h.up (k:=4);exact this
 have Q:qJ A[j].2.1 (Rat.divInt (r-2) 4)=some (A[j].2.1+Rat.divInt (r-2) 4):=xr (p2.1.sm sb1) ((g1.le (show 1≤8 by decide)).sm sb4)
 have R:qJ A[j].2.2 (Rat.divInt (s-2) 4)=some (A[j].2.2+Rat.divInt (s-2) 4):=xr (p2.2.sm sb1) ((g2.le (show 1≤8 by decide)).sm sb4)
 have I:∀v∈A,PlOK K v:=fun v hv=>by
  obtain⟨q1,M⟩:=hb.pl v hv
  exact⟨q1.one,(M.1.le (show 8≤360 by decide) |> fun h=>(by have:=h.up (k:=K*4);rw[dQ]at this;exact this)),(M.2.le (show 8≤360 by decide) |> fun h=>(by have:=h.up (k:=K*4);rw[dQ]at this;exact this))⟩
 have N:∀{x:Rat} {B:Nat},B≤360→QV 4 B x→QV (K*4) 360 x:=fun Y h=>by
  have:=(h.le Y).up (k:=K)
  rw[Nat.mul_comm]at this
  exact this
 have f:∀v∈zE A j (A[j].1,A[j].2.1+Rat.divInt (r-2) 4,A[j].2.2+Rat.divInt (s-2) 4),PlOK K v:=gf I ⟨(I _ (aK hj)).turn,N Uz ((z p2.1).add g1),N Uz ((z p2.2).add g2)⟩
 have g:(zE A j (A[j].1,A[j].2.1+Rat.divInt (r-2) 4,A[j].2.2+Rat.divInt (s-2) 4)).length=P.length:=by rw[yE];exact al
 have S:app ([]:List Pl) A=some A:=by rw[yF (by simp;omega)];rfl
 have fin:∀e:Int,e≠14→Qx P H [] e=some true:=fun e he=>by
  unfold Qx
  rw[aF (aH he),aF Y8,QZ]
  rfl
 obtain⟨e,C⟩:=check_tot hc g f
 have y:=solve_c hc
 generalize J:z26 P H=o at y
 have hz':=J
 unfold z5
 rw[T,aA]
 show((z9 F how b).bind _)=_
 rw[e1,aA,aD Uz,i3,aA,e2,aA]
 show((z26 P H).bind _)=_
 rw[J]
 have rest:∀(B:List Pl) (c:List Int) (a:Int),o=some (B,c,a)→(if (decide (a=14))=true then(if (decide (e=0))=true then some false else(if (decide (e=13))=true then some false else(if (decide (a=0))=true then((z24 P H B).bind fun u=>(if (decide (u≠0))=true then some false else(Qx P H c a)))else(Qx P H c a))))else(if (decide (a=0))=true then((z24 P H B).bind fun w=>(if (decide (w≠0))=true then some false else(Qx P H c a)))else(Qx P H c a)))=some true:=by
  intro B c a ho
  cases y with
  |arg=>
   cases ho
   rw[aD Uz,aD Uz]
   exact fin 1 Uz
  |ctr d h1 h2 X=>
   cases ho
   obtain⟨x,O,x2,x3⟩:=check_ctr hc g f fun _=>X
   rw[C]at O
   cases O
   rw[aF Uz,aD (by simpa using x2),aD (by simpa using x3),aD Uz]
   exact clsT_ok hc h1 h2
  |crowd=>
   cases ho
   rw[aD Uz,aD Uz]
   exact fin 13 Uz
  |ok D h1=>
   cases ho
   rw[aD Uz,aF Uz,h1,aA,aD Uz]
   exact fin 0 Uz
 obtain⟨B,c,a,ho⟩:∃B c a,o=some (B,c,a):=by
  cases y with
  |arg=>exact⟨_,_,_,rfl⟩
  |ctr d=>exact⟨_,_,_,rfl⟩
  |crowd=>exact⟨_,_,_,rfl⟩
  |ok D=>exact⟨_,_,_,rfl⟩
 have W:=rest B c a ho
 rw[ho,aA,S,aA,U,aA]
 simp only[zt hj,aA]
 rw[V,aA,xh Oz,aA,Xn Oz Oz,aA,es,aA,xh Oz,aA,Xn Oz Oz,aA]
 have p:z19 A[j].2 (Rat.divInt (r-2) 4,Rat.divInt (s-2) 4)=some (A[j].2.1+Rat.divInt (r-2) 4,A[j].2.2+Rat.divInt (s-2) 4):=by
  unfold z19
  dsimp only
  rw[Q,aA,R,aA]
 rw[p,aA,Int.toNat_natCast,C,aA]
 exact W
end Go.Proofs.YtocnbjjmmgolfaaGreat
