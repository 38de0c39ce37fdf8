/- zJ law: the loops of AssemblyFewer. -/
import Derived.Test.YtocnbjjmmgolfaaGreatA34
import Derived.Test.YtocnbjjmmgolfaaGreatA35
set_option linter.unusedSimpArgs false
set_option linter.unusedVariables false
set_option linter.unusedSectionVars false
namespace Go.Proofs.YtocnbjjmmgolfaaGreat
open Go Go.M Go.Proofs.C14
section
variable{P:List Pc}{F:List Fq}{K:Nat}(h:CaseOK P F K)
include h
theorem CaseOK.rev:CaseOK P F.reverse K:=⟨h.n,h.pc,by rw[List.length_reverse];exact h.fl,fun f hf=>h.ft f (List.mem_reverse.mp hf),h.kl.perm (List.reverse_perm F).symm,h.kd⟩
theorem CaseOK.cut(i:Nat):∃a,CaseOK P (F.take i++F.drop (i+1)) a:=by
 obtain⟨a,h1,h2⟩:=zel (i:=i) h.kl
 refine⟨a,h.n,h.pc,?_,fun f hf=>?_,h2,bH h1 h.kd⟩
 ·have:=h.fl
  simp
  omega
 ·rcases aU.mp hf with hf|hf
  ·exact h.ft f (eS hf)
  ·exact h.ft f (List.mem_of_mem_drop hf)
theorem zcu{A:List Pl}{c:List Int}{e:Int}(o:z26 P F=some (A,c,e))(he:e=0∨e=13)(n:∀f∈F,Qv f.2.2.2.2.2.1){i:Nat}(hi:i<F.length){k:List Fq→Option Bool}{r:Option Bool}(hk:∀b c' a,z26 P (F.take i++F.drop (i+1))=some (b,c',a)→a≠14→k (F.take i++F.drop (i+1))=r) :
 ((i64 ((i:Int)+1)).bind fun m=>((xh F m (F.length:Int)).bind fun d=>((xh F 0 (i:Int)).bind fun g=>((app ([]:List Fq) g).bind fun j=>((app j d).bind fun l=>k l)))))=r:=by
 have h6:=h.fl
 have s1:xh F ((i+1:Nat):Int) (F.length:Int)=some (F.drop (i+1)):=by
  unfold xh
  rw[aG Oz,Int.toNat_natCast,Int.toNat_natCast,cV Y8]
 have s2:xh F 0 (i:Int)=some (F.take i):=by
  unfold xh
  rw[aG Oz]
  rfl
 rw[zp Oz,aA,s1,aA,s2,aA,yE (by simp;omega),aA,cG,yE (by simp;omega),aA]
 obtain⟨K',hc⟩:=h.cut i
 obtain⟨b,c',a,e1,e2⟩:=zbg n h hc (fun f hf=>by
  rcases aU.mp hf with hf|hf
  ·exact eS hf
  ·exact List.mem_of_mem_drop hf) o he
 exact hk b c' a e1 e2
theorem fewA_ok{A:List Pl}{c:List Int}(j:z26 P F=some (A,c,0)):fewA P F=some true:=by
 obtain⟨q,e,f⟩:=zbB h.fl h.ft
 have h6:=h.fl
 unfold fewA
 refine zk F.length (fun i (x:Int)=>x=(i:Int)) (fun o=>o=some true) Oz rfl ?_ ?_
 ·rintro i x g hi rfl hg
  rw[aG (zN hi),e,aA]
  cases q
  ·rw[aE Y8,uL];rfl
  ·rw[aG rfl]
   refine zcu h j (.inl rfl) (f rfl) hi (k:=fun a=>((z26 P a).bind fun d=>(if (decide (d.2.2=14))=true then some false else((i64 ((i:Int)+1)).bind fun b=>g b)))) ?_
   intro A' c' e' e1 e2
   rw[e1,aA,aE (by simpa using e2),zp Oz,aA]
   exact hg _ rfl
 ·rintro x g rfl
  rw[aE Y8,uL]
  rfl
theorem zgy{A:List Pl}{c:List Int}{e:Int}(m:z26 P F=some (A,c,e)):fewB P F e=some true:=by
 obtain⟨q,j,l⟩:=zbB h.fl h.ft
 have h6:=h.fl
 unfold fewB
 refine zk F.length (fun i (x:Int)=>x=(i:Int)) (fun o=>o=some true) Oz rfl ?_ ?_
 ·rintro i x g hi rfl hg
  rw[aG (zN hi)]
  by_cases a:e=13
  ·rw[aG (aH a),j,aA]
   cases q
   ·rw[aE Y8,uL];rfl
   ·rw[aG rfl]
    refine zcu h m (.inr a) (l rfl) hi (k:=fun b=>((z26 P b).bind fun f=>(if (decide (f.2.2=14))=true then some false else((i64 ((i:Int)+1)).bind fun d=>g d)))) ?_
    intro A' c' e' e1 e2
    rw[e1,aA,aE (by simpa using e2),zp Oz,aA]
    exact hg _ rfl
  ·rw[aE (by simpa using a),uL]
   rfl
 ·rintro x g rfl
  rw[aE Y8,uL]
  rfl
end
theorem third{x:Int}(h:yv x):yv (Int.tdiv x 3):=by
 unfold yv at *
 rcases Int.le_total 0 x with g|g
 ·rw[dH g];omega
 ·have:Int.tdiv x 3 = -(Int.tdiv (-x) 3):=by rw[Int.neg_tdiv,Int.neg_neg]
  rw[this,dH Oz]
  omega
theorem twice_ok{P:List Pc}{F:List Fq}{A:List Pl}(hb:BoxOK P F A){how a also:Int}(i:yv how)(b:yv a)(ha:yv also):∃G H K,z9 F how a=some G∧z9 G also (Int.tdiv a 3)=some H∧CaseOK P H K:=by
 obtain⟨G,d,lG,g,K1,k1,j⟩:=zgN (by have:=hb.fl.2;omega) (fun f hf=>(hb.ft f hf).1) (zek fun f hf=>(hb.ft f hf).2) i b
 have:=hb.fl.2
 obtain⟨H,e,lH,h,c,k2,k⟩:=zgN Oz g j ha (third b)
 exact⟨G,H,c,d,e,⟨by have:=hb.n.1;omega,hb.n.2⟩,fun p hp=>(hb.pc p hp).1,by omega,h,k,by omega⟩
theorem loose_pc{p:Pc}(h:PcB p){r:Int}(h0:0≤r)(h1:r<5):qG p.2.2.2.2.2.1 (Rat.divInt r 4)=some (p.2.2.2.2.2.1+Rat.divInt r 4)∧p.2.2.2.2.2.1≤p.2.2.2.2.2.1+Rat.divInt r 4∧PcOK (p.1,p.2.1,p.2.2.1,p.2.2.2.1,p.2.2.2.2.1,p.2.2.2.2.2.1+Rat.divInt r 4,p.2.2.2.2.2.2):=by
 obtain⟨q,t⟩:=h
 have g:QV 4 1 (Rat.divInt r 4):=zap (q:=4) Uz 1 rfl Oz
 have s:SB 4 1:=⟨by decide,by decide⟩
 have h0:0≤Rat.divInt r 4:=by
  have e:r=0∨r=1∨r=2∨r=3∨r=4:=by omega
  rcases e with rfl|rfl|rfl|rfl|rfl<;>decide
 have p0:=q.tol.2
 exact⟨xu (t.sm s) (g.sm s),by grind,q.quad,q.id,q.home,q.worn,q.marks,⟨t.add g,by show 0≤p.2.2.2.2.2.1+Rat.divInt r 4;grind⟩,q.light,q.heavy,q.strength,q.rough⟩
theorem z6_true{l:List Int}{how a also tol:Int}(hl:L64 l)(N:yv how)(w:yv a)(ha:yv also)(R:yv tol):z6 l how a also tol=some true:=by
 obtain⟨P,F,A,I,hb⟩:=z8_ok hl
 obtain⟨G,H,K,e1,e2,hc⟩:=twice_ok hb N w ha
 obtain⟨B,e,c,c',s1,s2,M,C⟩:=zdJ hc hc.rev (fun f=>List.mem_reverse.symm)
 have h6:=hc.fl
 have S:i64 (Int.tdiv a 3)=some (Int.tdiv a 3):=aG (third w)
 have hn:=hc.n
 obtain⟨k,J,T,kn⟩:=YT (m:=(P.length:Int)) w Oz Oz
 obtain⟨j,rfl⟩:=Int.eq_ofNat_of_zero_le T
 have hj:j<P.length:=by omega
 obtain⟨r,L,r0,V⟩:=YT (m:=5) R Uz Uz
 obtain⟨q,h,s⟩:=loose_pc (hb.pc _ (aK hj)) r0 V
 have v:=Wn hc.k C M
 have E:app ([]:List Pc) P=some P:=by rw[yE (by simp;omega)];rfl
 unfold z6
 rw[I,aA]
 show((z9 F how a).bind _)=_
 rw[e1,aA,aE Uz,S,aA,e2,aA]
 show((z26 P H).bind _)=_
 rw[s1,aA]
 rw[xf Oz,aA]
 refine zk H.length (fun i (x:Int×List Fq)=>x=((H.length:Int)-1-(i:Int),H.reverse.take i)) (fun o=>o=some true) Oz Y8 ?_ ?_
 ·rintro i x g hi rfl hg
  have Q:i<H.reverse.length:=by rw[List.length_reverse];exact hi
  have O:H.length-1-i<H.length:=by omega
  dsimp only
  rw[aG (aH Oz),show(H.length:Int)-1-(i:Int)=((H.length-1-i:Nat):Int)by omega,zt O,aA,yE (by simp;omega),aA,xf Oz,aA]
  refine hg _ ?_
  rw[yL Q,List.getElem_reverse,show((H.length-1-i:Nat):Int)-1=(H.length:Int)-1-((i+1:Nat):Int)by omega]
 ·rintro x g rfl
  dsimp only
  rw[aE (by simp only[aB];omega),cV Y8]
  show((z26 P H.reverse).bind _)=_
  rw[s2,aA,aE Y8,v,aA,aE Y8]
  show((app [] P).bind _)=_
  rw[E,aA,J,aA,zt hj,aA,aA,aA,L,aA,aA,KB Oz Oz,aA,q,aA,aA,aA,Int.toNat_natCast]
  have lo:Loose P (zD P j (P[j].1,P[j].2.1,P[j].2.2.1,P[j].2.2.2.1,P[j].2.2.2.2.1,P[j].2.2.2.2.2.1+Rat.divInt r 4,P[j].2.2.2.2.2.2)):=by
   refine⟨yw ..,fun i=>?_,fun i=>?_⟩
   ·rw[gP hj]
    split
    ·next e=>subst e;rw[zO hj]
    ·rfl
   ·rw[gP hj]
    split
    ·next e=>subst e;rw[zO hj];exact h
    ·exact eI
  have p:CaseOK (zD P j (P[j].1,P[j].2.1,P[j].2.2.1,P[j].2.2.2.1,P[j].2.2.2.2.1,P[j].2.2.2.2.2.1+Rat.divInt r 4,P[j].2.2.2.2.2.2)) H K:=⟨by rw[yw];exact hn,uW hc.pc s,hc.fl,hc.ft,hc.kl,hc.kd⟩
  by_cases b:e=14
  ·obtain⟨t,d,u,z⟩:∃t d u,z26 (zD P j (P[j].1,P[j].2.1,P[j].2.2.1,P[j].2.2.2.1,P[j].2.2.2.2.1,P[j].2.2.2.2.2.1+Rat.divInt r 4,P[j].2.2.2.2.2.2)) H=some (t,d,u):=by
    cases k7 p with
    |arg q h=>exact⟨_,_,_,h⟩
    |bad c q h s=>exact⟨_,_,_,s⟩
    |ok x y q h s a4 D=>exact⟨_,_,_,D⟩
   rw[z,aA,aE (by simpa using b),aE (by simp[b])]
   exact zgy hc s1
  ·obtain⟨t,d,u,z,U⟩:=zbf hc p lo s1 b
   rw[z,aA,aG (by simpa using b),aE (by simpa using U)]
   by_cases c0:e=0
   ·subst c0
    rw[aG Y8]
    exact fewA_ok hc s1
   ·rw[aE (by simpa using c0)]
    exact zgy hc s1
end Go.Proofs.YtocnbjjmmgolfaaGreat
