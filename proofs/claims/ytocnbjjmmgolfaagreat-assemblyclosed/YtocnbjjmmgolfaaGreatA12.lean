/- Digits in base 10^9: the digits of a number, the value of digits. -/
import Derived.Test.YtocnbjjmmgolfaaGreatA00
set_option linter.unusedSimpArgs false
set_option linter.unusedVariables false
set_option linter.unusedSectionVars false
namespace Go.Proofs.C14
def dg(n:Nat):List Int:=if h:n=0 then []else((n % 1000000000:Nat):Int)::dg (n / 1000000000)
termination_by n
decreasing_by exact Nat.div_lt_self (Nat.pos_of_ne_zero h) U
def zY:List Int→Nat
 | []=>0
 |x::l=>x.toNat+1000000000*zY l
def Dig(l:List Int):Prop:=∀x∈l,0≤x∧x<1000000000
theorem qC:dg 0=[]:=by rw[dg];simp
theorem uu{n:Nat}(h:n≠0):dg n=((n % 1000000000:Nat):Int)::dg (n / 1000000000):=by rw[dg];simp[h]
theorem VA{n:Nat}(h:n≠0)(h2:n<1000000000):dg n=[(n:Int)]:=by
 rw[uu h,Nat.mod_eq_of_lt h2,Nat.div_eq_of_lt h2,qC]
theorem kW(n:Nat):Dig (dg n):=by
 induction n using Nat.strongRecOn with
 |ind n a=>
  by_cases h:n=0
  ·subst h;rw[qC];intro x hx;cases hx
  ·rw[uu h]
   intro x hx
   rcases aL.mp hx with rfl|hx
   ·omega
   ·exact a _ (Nat.div_lt_self O U) x hx
theorem yv(n:Nat):zY (dg n)=n:=by
 induction n using Nat.strongRecOn with
 |ind n a=>
  by_cases h:n=0
  ·subst h;rw[qC];rfl
  ·rw[uu h,zY,a _ (Nat.div_lt_self O U)]
   omega
theorem dg_inj{m n:Nat}(h:dg m=dg n):m=n:=by rw[←yv m,h,yv]
theorem dg_nil{n:Nat}:dg n=[]↔n=0:=by
 constructor
 ·intro h;have:=yv n;rw[h]at this;exact this.symm
 ·rintro rfl;exact qC
theorem dg_len0{n:Nat}:(dg n).length=0↔n=0:=by rw[bO,dg_nil]
theorem dg_len:∀(k n:Nat),n<1000000000 ^ k→(dg n).length≤k
 |0,n,h=>by have:n=0:=(by simpa using h);subst this;rw[qC];simp
 |k+1,n,h=>by
  by_cases hn:n=0
  ·subst hn;rw[qC];simp
  ·rw[uu hn]
   have:=dg_len k (n / 1000000000) (by rw[Nat.pow_succ]at h;exact Nat.div_lt_of_lt_mul (by rw[Nat.mul_comm];exact h))
   simp only[aW]
   omega
theorem xz{n:Nat}(h:n<1000000000000000000):(dg n).length≤2:=dg_len 2 n (by simpa using h)
theorem Vu(l r:List Int):zY (l++r)=zY l+1000000000 ^ l.length*zY r:=by
 induction l with
 |nil=>simp[zY]
 |cons x l a=>simp only[bV,zY,a,aW,Nat.pow_succ];rw[Nat.mul_add,←Nat.mul_assoc,Nat.mul_comm 1000000000 (1000000000 ^ l.length)];omega
theorem YS{l:List Int}(h:Dig l):zY l<1000000000 ^ l.length:=by
 induction l with
 |nil=>simp[zY]
 |cons x l b=>
  have h1:=h x Y8
  have h2:=b fun y a=>h y (by simp[a])
  simp only[zY,aW,Nat.pow_succ]
  omega
theorem Dig.tail{x:Int}{l:List Int}(h:Dig (x::l)):Dig l:=fun y a=>h y (by simp[a])
theorem Dig.app{l r:List Int}(h:Dig l)(h2:Dig r):Dig (l++r):=fun x hx=>(aU.mp hx).elim (h x) (h2 x)
theorem Dig.nil:Dig []:=fun _ h=>by cases h
theorem Dig.one{x:Int}(h:0≤x)(h2:x<1000000000):Dig [x]:=fun y a=>by rw[aV.mp a];exact⟨h,h2⟩
theorem Dig.take{l:List Int}(h:Dig l)(n:Nat):Dig (l.take n):=fun x hx=>h x (eI hx)
theorem Dig.at{l:List Int}(h:Dig l)(k:Nat):0≤l.getD k 0∧l.getD k 0<1000000000:=by
 rw[aC]
 by_cases hk:k<l.length
 ·rw[aE hk];exact h _ (aK hk)
 ·rw[cV O];simp
def j5(l:List Int):Nat→Nat
 |0=>0
 |n+1=>if l.getD n 0=0 then j5 l n else n+1
theorem zaf(l:List Int):∀n,j5 l n≤n
 |0=>aO _
 |n+1=>by simp only[j5];split;{have:=zaf l n;omega};{omega}
theorem zgP:∀{l:List Int},Dig l→(l=[]∨l.getD (l.length-1) 0≠0)→dg (zY l)=l
 | [],_,_=>qC
 |x::l,h,h2=>by
  have hx:=h x Y8
  rcases h2 with h2|h2
  ·cases h2
  ·have hl:l=[]∨l.getD (l.length-1) 0≠0:=by
    cases l with
    |nil=>exact .inl rfl
    |cons y l=>exact .inr (by simpa using h2)
   have a:=zgP h.tail hl
   have hv:zY (x::l)≠0:=by
    cases l with
    |nil=>simp at h2;simp only[zY];omega
    |cons y l=>
     intro h0
     have:zY (y::l)=0:=by simp only[zY]at h0 ⊢;omega
     rw[this,qC]at a
     cases a
   rw[uu hv,zY]
   have e1:(x.toNat+1000000000*zY l) % 1000000000=x.toNat:=by omega
   have e2:(x.toNat+1000000000*zY l) / 1000000000=zY l:=by omega
   rw[e1,e2,a]
   congr 1
   omega
theorem zeW{l:List Int}{n:Nat}(hn:n<l.length)(h:l.getD n 0=0):zY (l.take (n+1))=zY (l.take n):=by
 rw[List.take_succ_eq_append_getElem hn,Vu]
 rw[aC,aE hn]at h
 simp only[bL]at h
 rw[h]
 simp[zY]
theorem zcl{l:List Int}:∀n,n≤l.length→zY (l.take (j5 l n))=zY (l.take n)
 |0,_=>rfl
 |n+1,h=>by
  simp only[j5]
  split
  ·next h0=>rw[zcl n O,zeW O h0]
  ·rfl
theorem WQ{l:List Int}:∀n,n≤l.length→l.take (j5 l n)=[]∨(l.take (j5 l n)).getD ((l.take (j5 l n)).length-1) 0≠0
 |0,_=>.inl rfl
 |n+1,h=>by
  simp only[j5]
  split
  ·exact WQ n O
  ·next h0=>
   right
   have e:(l.take (n+1)).length-1=n:=by simp;omega
   rw[e,aC,List.getElem?_take,aF O,←aC]
   exact h0
theorem Wt{l:List Int}(h:Dig l):l.take (j5 l l.length)=dg (zY l):=by
 rw[←zgP (h.take _) (WQ _ Z3),zcl _ Z3,aY]
theorem nlen_eq{l:List Int}(h:Dig l):j5 l l.length=(dg (zY l)).length:=by
 rw[←Wt h,bU]
 have:=zaf l l.length
 omega
theorem nlen0{l:List Int}(h:Dig l):j5 l l.length=0↔zY l=0:=by rw[nlen_eq h,dg_len0]
def ZZ(la lb:List Int):Nat→Int
 |0=>0
 |n+1=>if la.getD n 0<lb.getD n 0 then -1 else if lb.getD n 0<la.getD n 0 then 1 else ZZ la lb n
def cmpZ(la lb:List Int):Int:=if la.length<lb.length then -1 else if lb.length<la.length then 1 else ZZ la lb la.length
def uM(m n:Nat):Int:=if m<n then -1 else if n<m then 1 else 0
def yC(m n:Int):Int:=if m<n then -1 else if n<m then 1 else 0
theorem Jk{l:List Int}{n:Nat}(hn:n<l.length):zY (l.take (n+1))=zY (l.take n)+1000000000 ^ n*(l.getD n 0).toNat:=by
 rw[List.take_succ_eq_append_getElem hn,Vu,aC,aE hn]
 have:(l.take n).length=n:=by simp;omega
 rw[this]
 simp[zY]
theorem zda{la lb:List Int}(ha:Dig la)(hb:Dig lb):∀n,n≤la.length→n≤lb.length→ZZ la lb n=uM (zY (la.take n)) (zY (lb.take n))
 |0,_,_=>by simp[ZZ,uM,zY]
 |n+1,h1,h2=>by
  simp only[ZZ]
  rw[Jk O,Jk O]
  have d:=YS (ha.take n)
  have l2:=YS (hb.take n)
  have e1:(la.take n).length=n:=by simp;omega
  have e2:(lb.take n).length=n:=by simp;omega
  rw[e1]at d
  rw[e2]at l2
  have f:=ha.at n
  have g:=hb.at n
  generalize la.getD n 0=x at *
  generalize lb.getD n 0=y at *
  generalize i:zY (la.take n)=A at *
  generalize j:zY (lb.take n)=B at *
  generalize hP:1000000000 ^ n=P at *
  have c:=zda ha hb n O O
  rw[i,j]at c
  have key:∀{A B P:Nat} {x y:Int},0≤x→A<P→x<y→A+P*x.toNat<B+P*y.toNat:=by
   intro A B P x y h0 h1 h2
   have h:P*(x.toNat+1)≤P*y.toNat:=bX _ O
   rw[Nat.mul_add,cG]at h
   omega
  by_cases a:x<y
  ·rw[aF a,uM,aF (key f.1 d a)]
  ·rw[aD a]
   by_cases b:y<x
   ·have:=key (A:=B) (B:=A) (P:=P) g.1 l2 b
    rw[aF b,uM,aD O,aF this]
   ·have e:x=y:=by omega
    subst e
    rw[aD b,c]
    simp only[uM,Nat.add_lt_add_iff_right]
theorem Xy{m n:Nat}(h:(dg m).length<(dg n).length):m<n:=by
 apply cY
 intro hn
 have h1:=YS (kW n)
 have:∀k n,(dg n).length=k+1→1000000000 ^ k≤n:=by
  intro k
  induction k with
  |zero=>
   intro n hk
   have h0:n≠0:=fun h0=>by rw[h0,qC]at hk;simp at hk
   rw[Nat.pow_zero]
   omega
  |succ k b=>
   intro n hk
   have hn:n≠0:=fun h0=>by rw[h0,qC]at hk;simp at hk
   rw[uu hn,aW]at hk
   rw[Nat.pow_succ]
   have:=Nat.div_add_mod n 1000000000
   have:=bN 1000000000 (b (n / 1000000000) O)
   omega
 obtain⟨k,hk⟩:∃k,(dg n).length=k+1:=⟨(dg n).length-1,by omega⟩
 have h2:=this k n hk
 have a:=YS (kW m)
 rw[yv]at a
 have h4:1000000000 ^ (dg m).length≤1000000000 ^ k:=Nat.pow_le_pow_right U O
 omega
theorem Zm(m n:Nat):cmpZ (dg m) (dg n)=uM m n:=by
 unfold cmpZ
 by_cases h1:(dg m).length<(dg n).length
 ·rw[aF h1,uM,aF (Xy h1)]
 ·rw[aD h1]
  by_cases h2:(dg n).length<(dg m).length
  ·have:=Xy h2
   rw[aF h2,uM,aD O,aF this]
  ·rw[aD h2,zda (kW m) (kW n) _ Z3 O,aY,show(dg m).length=(dg n).length by omega,aY,yv,yv]
def dv:List Int→Int
 | []=>0
 |x::l=>x+1000000000*dv l
theorem dv_app(l r:List Int):dv (l++r)=dv l+1000000000 ^ l.length*dv r:=by
 induction l with
 |nil=>simp[dv]
 |cons x l a=>
  simp only[bV,dv,a,aW,Int.pow_succ]
  rw[Int.mul_add,←Int.mul_assoc,Int.mul_comm 1000000000 (1000000000 ^ l.length)]
  omega
theorem qf{l:List Int}(h:Dig l):dv l=(zY l:Int):=by
 induction l with
 |nil=>rfl
 |cons x l a=>
  have:=h x Y8
  rw[dv,zY,a h.tail]
  omega
theorem zaH{l:List Int}{n:Nat}(hn:n<l.length):dv (l.take (n+1))=dv (l.take n)+1000000000 ^ n*l.getD n 0:=by
 rw[List.take_succ_eq_append_getElem hn,dv_app,aC,aE hn]
 have:(l.take n).length=n:=by simp;omega
 rw[this]
 simp[dv]
theorem yg(l:List Int)(n:Nat):dv (l.take (n+1))=dv (l.take n)+1000000000 ^ n*l.getD n 0:=by
 by_cases hn:n<l.length
 ·exact zaH hn
 ·rw[dC O,dC O,aC,cV O]
  simp
theorem qt{l:List Int}{n:Nat}(h:l.length≤n):dv (l.take n)=dv l:=by rw[dC h]
theorem Vv{l:List Int}:∀{k:Nat} {x:Int},k<l.length→dv (l.set k x)=dv l+1000000000 ^ k*(x-l.getD k 0):=by
 induction l with
 |nil=>intro k x h;simp at h
 |cons y l a=>
  intro k x h
  cases k with
  |zero=>simp only[List.set_cons_zero,dv,List.getD_cons_zero,Int.pow_zero];omega
  |succ k=>
   simp only[List.set_cons_succ,dv,List.getD_cons_succ,a (by simpa using h:k<l.length),Int.pow_succ]
   rw[Int.mul_add,←Int.mul_assoc,Int.mul_comm 1000000000 (1000000000 ^ k)]
   omega
theorem zaI(l:List Int)(x:Int):dv (l++[x])=dv l+1000000000 ^ l.length*x:=by rw[dv_app];simp[dv]
theorem dv_zeros(n:Nat):dv (List.replicate n 0)=0:=by
 induction n with
 |zero=>rfl
 |succ n a=>rw[List.replicate_succ,dv,a];rfl
theorem Jm(n:Nat):Dig (List.replicate n 0):=fun x hx=>by rw[(List.mem_replicate.mp hx).2];decide
theorem Dig.set{l:List Int}(h:Dig l){k:Nat}{x:Int}(h0:0≤x)(h1:x<1000000000):Dig (l.set k x):=fun y a=>
 (List.mem_or_eq_of_mem_set a).elim (h y) fun e=>by rw[e];exact⟨h0,h1⟩
theorem dv_lt{l:List Int}(h:Dig l):dv l<1000000000 ^ l.length:=by
 rw[qf h]
 have:=Int.ofNat_lt.mpr (YS h)
 rw[Int.natCast_pow]at this
 exact this
theorem powB(n:Nat):(0:Int)<1000000000 ^ n:=Int.pow_pos U
theorem zbv{P A S c x w:Int}(h:A+P*c=S)(a:w=x+c):(A+P*(w % 1000000000))+P*1000000000*(w / 1000000000)=S+P*x:=by
 have e:P*1000000000*(w / 1000000000)=P*(1000000000*(w / 1000000000)):=by rw[Int.mul_assoc]
 have e2:=Int.mul_ediv_add_emod w 1000000000
 have e3:P*(w % 1000000000)+P*(1000000000*(w / 1000000000))=P*w:=by rw[←Int.mul_add];congr 1;omega
 have e4:P*w=P*x+P*c:=by rw[a,Int.mul_add]
 omega
def Bd(q:Rat)(N D:Nat):Prop:=q.num.natAbs≤N∧q.den≤D
theorem Bd.le{q:Rat}{N D a D':Nat}(h:Bd q N D)(h1:N≤a)(h2:D≤D'):Bd q a D':=⟨bH h.1 h1,bH h.2 h2⟩
theorem bd_mkRat{n:Int}{d:Nat}:Bd (mkRat n d) n.natAbs (max d 1):=by
 constructor
 ·rw[Rat.num_mkRat]
  split
  ·simp
  ·exact bH (Int.natAbs_ediv_le_natAbs _ _) Z3
 ·rw[Rat.den_mkRat]
  split
  ·omega
  ·exact bH (Nat.div_le_self _ _) O
theorem Bd.mul{a b:Rat}{e c f d:Nat}(h1:Bd a e c)(h2:Bd b f d):Bd (a*b) (e*f) (c*d):=by
 rw[Rat.mul_def']
 have hd:=eE h1.2 h2.2
 have hp:=Nat.mul_pos a.den_pos b.den_pos
 refine bd_mkRat.le ?_ O
 rw[eW]
 exact eE h1.1 h2.1
theorem zas{p q:Int}(hq:q≠0):0<Nat.gcd p.natAbs q.natAbs:=Nat.gcd_pos_of_pos_right _ O
theorem Zs{p q:Int}(hq:q≠0):(Rat.divInt p q).num=if q<0 then -(p / (Nat.gcd p.natAbs q.natAbs:Int))else p / (Nat.gcd p.natAbs q.natAbs:Int):=by
 rw[Rat.num_divInt]
 have e:Int.gcd q p=Nat.gcd p.natAbs q.natAbs:=by rw[Int.gcd,Nat.gcd_comm]
 rw[e]
 have hd:((Nat.gcd p.natAbs q.natAbs:Nat):Int)∣p:=Int.ofNat_dvd_left.mpr (Nat.gcd_dvd_left _ _)
 by_cases h:q<0
 ·rw[aF h,Int.sign_eq_neg_one_of_neg h,Int.neg_one_mul,Int.neg_ediv_of_dvd hd]
 ·rw[aD h,Int.sign_eq_one_of_pos O,Int.one_mul]
theorem zcT{p q:Int}(a:q≠0):((Rat.divInt p q).den:Int)=if q<0 then -(q / (Nat.gcd p.natAbs q.natAbs:Int))else q / (Nat.gcd p.natAbs q.natAbs:Int):=by
 rw[Rat.den_divInt,aD a]
 have e:Int.gcd q p=Nat.gcd p.natAbs q.natAbs:=by rw[Int.gcd,Nat.gcd_comm]
 rw[e]
 have hd:((Nat.gcd p.natAbs q.natAbs:Nat):Int)∣q:=Int.ofNat_dvd_left.mpr (Nat.gcd_dvd_right _ _)
 by_cases h:q<0
 ·rw[aF h,←Int.neg_ediv_of_dvd hd,Int.natCast_ediv]
  congr 1
  omega
 ·rw[aD h,Int.natCast_ediv]
  congr 1
  omega
theorem YR{p q:Int}(c:q≠0):q / (Nat.gcd p.natAbs q.natAbs:Int)<0↔q<0:=by
 have hg:=zas (p:=p) c
 constructor
 ·intro h
  apply cY
  intro h2
  have:=Int.ediv_nonneg (a:=q) (b:=(Nat.gcd p.natAbs q.natAbs:Int)) O O
  omega
 ·intro h
  exact Int.ediv_neg_of_neg_of_pos h O
theorem ud{N:Int}{D:Nat}(a:D≠0)(h:N.natAbs.Coprime D):(mkRat N D).num=N∧(mkRat N D).den=D:=by
 have:mkRat N D=⟨N,D,a,h⟩:=(Rat.mk_eq_mkRat N D a h).symm
 rw[this]
 exact⟨rfl,rfl⟩
theorem zev(a b:Rat):(a*b).num=(mkRat a.num b.den).num*(mkRat b.num a.den).num∧(a*b).den=(mkRat a.num b.den).den*(mkRat b.num a.den).den:=by
 have e:a*b=mkRat ((mkRat a.num b.den).num*(mkRat b.num a.den).num) ((mkRat a.num b.den).den*(mkRat b.num a.den).den):=by
  rw[←Rat.mul_def',eB,Rat.mul_def',Nat.mul_comm b.den a.den]
 have hx:(mkRat a.num b.den).num.natAbs∣a.num.natAbs:=by
  rw[Rat.num_mkRat,aD b.den_nz,Int.natAbs_ediv_of_dvd (Int.ofNat_dvd_left.mpr (Nat.gcd_dvd_right _ _)),Int.natAbs_natCast]
  exact Nat.div_dvd_of_dvd (Nat.gcd_dvd_right _ _)
 have h:(mkRat b.num a.den).num.natAbs∣b.num.natAbs:=by
  rw[Rat.num_mkRat,aD a.den_nz,Int.natAbs_ediv_of_dvd (Int.ofNat_dvd_left.mpr (Nat.gcd_dvd_right _ _)),Int.natAbs_natCast]
  exact Nat.div_dvd_of_dvd (Nat.gcd_dvd_right _ _)
 have d:(mkRat a.num b.den).den∣b.den:=by
  rw[Rat.den_mkRat,aD b.den_nz];exact Nat.div_dvd_of_dvd (Nat.gcd_dvd_left _ _)
 have f:(mkRat b.num a.den).den∣a.den:=by
  rw[Rat.den_mkRat,aD a.den_nz];exact Nat.div_dvd_of_dvd (Nat.gcd_dvd_left _ _)
 have c:((mkRat a.num b.den).num*(mkRat b.num a.den).num).natAbs.Coprime ((mkRat a.num b.den).den*(mkRat b.num a.den).den):=by
  rw[eW]
  refine Nat.Coprime.mul_left (Nat.Coprime.mul_right (mkRat a.num b.den).reduced ?_) (Nat.Coprime.mul_right ?_ (mkRat b.num a.den).reduced)
  ·exact Nat.Coprime.coprime_dvd_left hx (Nat.Coprime.coprime_dvd_right f a.reduced)
  ·exact Nat.Coprime.coprime_dvd_left h (Nat.Coprime.coprime_dvd_right d b.reduced)
 have g:(mkRat a.num b.den).den*(mkRat b.num a.den).den≠0:=Nat.mul_ne_zero (mkRat a.num b.den).den_nz (mkRat b.num a.den).den_nz
 have:=ud g c
 rw[e]
 exact this
theorem add_int{a b:Rat}(ha:a.den=1)(hb:b.den=1):(a+b).num=a.num+b.num∧(a+b).den=1:=by
 have e:a+b=mkRat (a.num+b.num) 1:=by rw[Rat.add_def',ha,hb];simp
 rw[e]
 exact ud U (Nat.coprime_one_right _)
theorem mul_int{a b:Rat}(ha:a.den=1)(hb:b.den=1):(a*b).num=a.num*b.num∧(a*b).den=1:=by
 have e:a*b=mkRat (a.num*b.num) 1:=by rw[Rat.mul_def',ha,hb]
 rw[e]
 exact ud U (Nat.coprime_one_right _)
def wd(a b:Rat):Int:=if a<b then -1 else if b<a then 1 else 0
theorem zaO(a b:Rat):yC (a.num*b.den) (b.num*a.den)=wd a b:=by
 unfold yC wd
 simp only[Rat.lt_iff]
section
variable(e:Nat→Int×Int)
def Inc(k:Nat)(v:Int):Prop:=(e k).1=v∨(e k).2=v
instance (k:Nat)(v:Int):Decidable (Inc e k v):=inferInstanceAs (Decidable (_∨_))
def oth(k:Nat)(v:Int):Int:=(e k).1+(e k).2-v
def NB(tree:List Nat):Int→Int→List Nat→Int→Prop
 |v,_,[],w=>v=w
 |v,last,k::r,w=>k∈tree∧(k:Int)≠last∧Inc e k v∧NB tree (oth e k v) k r w
def Fo(tree:List Nat):Prop:=∀v last r,NB e tree v last r v→r=[]
variable{e}
theorem zgm{k:Nat}{v:Int}(h:Inc e k v):Inc e k (oth e k v):=by
 unfold Inc oth at *;omega
theorem J3{k:Nat}{v:Int}:oth e k (oth e k v)=v:=by unfold oth;omega
theorem zgG{k:Nat}{v w:Int}(h:Inc e k v)(h2:Inc e k w):w=v∨w=oth e k v:=by
 unfold Inc oth at *;omega
theorem NB.last{tree:List Nat}{v a l2:Int}{r:List Nat}{w:Int}(h:NB e tree v a r w)(hl:∀k,k∈tree→(k:Int)≠l2):NB e tree v l2 r w:=by
 cases r with
 |nil=>exact h
 |cons k r=>exact⟨h.1,hl k h.1,h.2.2.1,h.2.2.2⟩
theorem NB.start{tree:List Nat}{v a:Int}{r:List Nat}{w:Int}(h:NB e tree v a r w):NB e tree v (-1) r w:=h.last fun k _=>by omega
theorem NB.mono{t1 t2:List Nat}(hs:∀k∈t1,k∈t2):∀{r:List Nat} {v l w:Int},NB e t1 v l r w→NB e t2 v l r w
 | [],_,_,_,h=>h
 |_::_,_,_,_,h=>⟨hs _ h.1,h.2.1,h.2.2.1,NB.mono hs h.2.2.2⟩
theorem NB.cut{tree:List Nat}:∀{r1:List Nat} {v l w:Int} {k:Nat} {r2:List Nat},NB e tree v l (r1++k::r2) w →
 ∃x,NB e tree v l r1 x∧Inc e k x∧k∈tree∧NB e tree (oth e k x) k r2 w∧(r1=[]→(k:Int)≠l)
 | [],v,l,w,k,r2,h=>⟨v,rfl,h.2.2.1,h.1,h.2.2.2,fun _=>h.2.1⟩
 |j::r1,v,l,w,k,r2,h=>by
  obtain⟨x,h1,h2,a,b,_⟩:=NB.cut (r1:=r1) h.2.2.2
  exact⟨x,⟨h.1,h.2.1,h.2.2.1,h1⟩,h2,a,b,fun h0=>by cases h0⟩
theorem Fo.nodup{tree:List Nat}(b:Fo e tree):∀{r:List Nat} {v l w:Int},NB e tree v l r w→r.Nodup
 | [],_,_,_,_=>List.nodup_nil
 |k::r,v,l,w,h=>by
  refine List.nodup_cons.mpr ⟨fun hk=>?_,Fo.nodup b h.2.2.2⟩
  obtain⟨r1,r2,f⟩:=dZ hk
  have h2:=h.2.2.2
  rw[f]at h2
  obtain⟨x,a,c,_,_,d⟩:=NB.cut h2
  rcases zgG h.2.2.1 c with hx|hx
  ·subst hx
   have:=b x l (k::r1) ⟨h.1,h.2.1,h.2.2.1,a⟩
   cases this
  ·subst hx
   have:=b _ _ r1 a
   subst this
   exact d rfl rfl
theorem YG:∀{r t:List Nat},r.Nodup→(∀k∈r,k∈t)→r.length≤t.length
 | [],_,_,_=>cJ _
 |k::r,t,h,hs=>by
  obtain⟨t1,t2,a⟩:=dZ (hs k Y8)
  obtain⟨hk,hn⟩:=List.nodup_cons.mp h
  have:r.length≤(t1++t2).length:=YG hn fun j hj=>by
   have h1:=hs j (by simp[hj])
   rw[a]at h1
   rcases aU.mp h1 with h1|h1
   ·exact cE _ h1
   ·rcases aL.mp h1 with h1|h1
    ·subst h1;exact(hk hj).elim
    ·exact bE _ h1
  rw[a]
  simp only[aQ,aW]at this ⊢
  omega
theorem NB.mem{tree:List Nat}:∀{r:List Nat} {v l w:Int},NB e tree v l r w→∀k∈r,k∈tree
 | [],_,_,_,_,k,hk=>by cases hk
 |j::r,_,_,_,h,k,hk=>by
  rcases aL.mp hk with hk|hk
  ·subst hk;exact h.1
  ·exact NB.mem h.2.2.2 k hk
theorem Fo.short{tree:List Nat}(a:Fo e tree){r:List Nat}{v l w:Int}(h:NB e tree v l r w):r.length≤tree.length:=YG (a.nodup h) h.mem
theorem NB.snoc{tree:List Nat}:∀{r:List Nat} {v l w:Int} {k:Nat},NB e tree v l r w→k∈tree→Inc e k w→(∀j,r.getLast? = some j→j≠k)→(r=[]→(k:Int)≠l)→NB e tree v l (r++[k]) (oth e k w)
 | [],v,l,w,k,h,hk,hi,_,hl=>by
  have:v=w:=h
  subst this
  exact⟨hk,hl rfl,hi,rfl⟩
 |j::r,v,l,w,k,h,hk,hi,hj,_=>by
  refine⟨h.1,h.2.1,h.2.2.1,NB.snoc (r:=r) h.2.2.2 hk hi (fun i b=>hj i ?_) (fun b=>?_)⟩
  ·cases r with
   |nil=>cases b
   |cons a r=>simpa[List.getLast?_cons_cons]using b
  ·subst b
   have:=hj j Y8
   omega
theorem NB.reverse{tree:List Nat}:∀{r:List Nat} {v l w:Int},NB e tree v l r w→NB e tree w (-1) r.reverse v
 | [],v,l,w,h=>h.symm
 |k::r,v,l,w,h=>by
  rw[List.reverse_cons]
  have h1:=NB.reverse h.2.2.2
  have h2:=NB.snoc (k:=k) h1 h.1 (zgm h.2.2.1) (fun j hj=>?_) (fun _=>by omega)
  ·rwa[J3]at h2
  ·rw[List.getLast?_reverse]at hj
   cases r with
   |nil=>cases hj
   |cons a r=>
    have:a=j:=by simpa using hj
    subst this
    have:=h.2.2.2.2.1
    omega
def Cn(e:Nat→Int×Int)(tree:List Nat)(v w:Int):Prop:=∃r,NB e tree v (-1) r w
theorem Cn.refl{tree:List Nat}{v:Int}:Cn e tree v v:=⟨[],rfl⟩
theorem Cn.symm{tree:List Nat}{v w:Int}(h:Cn e tree v w):Cn e tree w v:=by obtain⟨r,h⟩:=h;exact⟨_,h.reverse⟩
theorem NB.trans{tree:List Nat}:∀(r:List Nat) {v w x:Int} {s:List Nat},NB e tree v (-1) r w→NB e tree w (-1) s x→Cn e tree v x:=by
 intro r
 induction hn:r.length generalizing r with
 |zero=>
  intro v w x s h1 h2
  have:r=[]:=bO.mp hn
  subst this
  have:v=w:=h1
  subst this
  exact⟨s,h2⟩
 |succ n m=>
  intro v w x s h1 h2
  obtain⟨a,k,rfl⟩:∃a k,r=a++[k]:=by
   rcases List.eq_nil_or_concat r with h|⟨a,k,h⟩
   ·subst h;simp at hn
   ·exact⟨a,k,by simpa using h⟩
  obtain⟨y,b,f,g,i,_⟩:=NB.cut (r2:=[]) h1
  have l:oth e k y=w:=i
  have hlen:a.length=n:=by simpa using hn
  cases s with
  |nil=>
   have:w=x:=h2
   subst this
   exact⟨_,h1⟩
  |cons j s=>
   by_cases d:j=k
   ·subst d
    have c:=h2.2.2.2
    rw[←l,J3]at c
    exact m a hlen b c.start
   ·have c:NB e tree y (-1) (k::j::s) x:=⟨g,by omega,f,by rw[l];exact⟨h2.1,by omega,h2.2.2.1,h2.2.2.2⟩⟩
    exact m a hlen b c
theorem Cn.trans{tree:List Nat}{v w x:Int}(h1:Cn e tree v w)(h2:Cn e tree w x):Cn e tree v x:=by
 obtain⟨r,h1⟩:=h1
 obtain⟨s,h2⟩:=h2
 exact NB.trans r h1 h2
theorem Cn.mono{t1 t2:List Nat}(hs:∀k∈t1,k∈t2){v w:Int}(h:Cn e t1 v w):Cn e t2 v w:=by obtain⟨r,h⟩:=h;exact⟨r,h.mono hs⟩
theorem NB.split{tree:List Nat}{k:Nat}:∀{r:List Nat} {v l w:Int},NB e (tree++[k]) v l r w →
 NB e tree v l r w∨∃r1 r2 x,r=r1++k::r2∧NB e tree v l r1 x∧Inc e k x∧NB e (tree++[k]) (oth e k x) k r2 w∧(r1=[]→(k:Int)≠l)
 | [],v,l,w,h=>.inl h
 |j::r,v,l,w,h=>by
  by_cases hj:j=k
  ·subst hj
   exact .inr ⟨[],r,v,rfl,rfl,h.2.2.1,h.2.2.2,fun _=>h.2.1⟩
  ·have a:j∈tree:=by
    rcases aU.mp h.1 with h1|h1
    ·exact h1
    ·exact(hj (aV.mp h1)).elim
   rcases NB.split h.2.2.2 with h1|⟨r1,r2,x,h1,h2,b,c,_⟩
   ·exact .inl ⟨a,h.2.1,h.2.2.1,h1⟩
   ·exact .inr ⟨j::r1,r2,x,by rw[h1];rfl,⟨a,h.2.1,h.2.2.1,h2⟩,b,c,fun h0=>by cases h0⟩
theorem NB.once{tree:List Nat}(d:Fo e tree){k:Nat}(hn:¬Cn e tree (e k).1 (e k).2){x:Int}(hx:Inc e k x){r:List Nat}{w:Int}(h:NB e (tree++[k]) (oth e k x) k r w):NB e tree (oth e k x) k r w:=by
 rcases NB.split h with h|⟨r1,r2,z,_,h2,b,_,c⟩
 ·exact h
 ·exfalso
  rcases zgG (zgm hx) b with a|a
  ·subst a
   have:=d _ _ _ h2
   exact c this rfl
  ·rw[J3]at a
   subst a
   have hc:Cn e tree (oth e k z) z:=⟨_,h2.start⟩
   apply hn
   rcases hx with hx|hx
   ·have:oth e k z=(e k).2:=by unfold oth;omega
    rw[this]at hc
    rw[←hx]at hc
    exact hc.symm
   ·have:oth e k z=(e k).1:=by unfold oth;omega
    rw[this]at hc
    rw[←hx]at hc
    exact hc
theorem Cn.oth{tree:List Nat}{k:Nat}{x:Int}(hx:Inc e k x)(h:Cn e tree (oth e k x) x):Cn e tree (e k).1 (e k).2:=by
 rcases hx with hx|hx
 ·have:C14.oth e k x=(e k).2:=by unfold C14.oth;omega
  rw[this,←hx]at h
  exact h.symm
 ·have:C14.oth e k x=(e k).1:=by unfold C14.oth;omega
  rw[this,←hx]at h
  exact h
theorem Fo.add{tree:List Nat}(b:Fo e tree){k:Nat}(hn:¬Cn e tree (e k).1 (e k).2):Fo e (tree++[k]):=by
 intro v l r h
 rcases NB.split h with h1|⟨r1,r2,x,h1,h2,a,c,_⟩
 ·exact b _ _ _ h1
 ·exfalso
  have d:=NB.once b hn a c
  exact hn (Cn.oth a (Cn.trans ⟨_,d.start⟩ ⟨_,h2.start⟩))
theorem Fo.nil:Fo e []:=by
 intro v l r h
 cases r with
 |nil=>rfl
 |cons k r=>exact absurd h.1 Y8
theorem Cn.add{tree:List Nat}(f:Fo e tree){k:Nat}(hn:¬Cn e tree (e k).1 (e k).2){v w:Int}:Cn e (tree++[k]) v w ↔
 Cn e tree v w∨(Cn e tree v (e k).1∧Cn e tree (e k).2 w)∨(Cn e tree v (e k).2∧Cn e tree (e k).1 w):=by
 constructor
 ·rintro⟨r,h⟩
  rcases NB.split h with h1|⟨r1,r2,x,h1,h2,c,d,_⟩
  ·exact .inl ⟨r,h1⟩
  ·have b:=NB.once f hn c d
   right
   rcases c with hx|hx
   ·left
    have:C14.oth e k x=(e k).2:=by unfold C14.oth;omega
    rw[this]at b
    rw[hx]
    exact⟨⟨_,h2⟩,⟨_,b.start⟩⟩
   ·right
    have:C14.oth e k x=(e k).1:=by unfold C14.oth;omega
    rw[this]at b
    rw[hx]
    exact⟨⟨_,h2⟩,⟨_,b.start⟩⟩
 ·have a:∀j∈tree,j∈tree++[k]:=fun j hj=>cE _ hj
  have hk:Cn e (tree++[k]) (e k).1 (e k).2:=⟨[k],by simp,by omega,.inl rfl,by show _=_;unfold C14.oth;omega⟩
  rintro(h|⟨h1,h2⟩|⟨h1,h2⟩)
  ·exact h.mono a
  ·exact((h1.mono a).trans hk).trans (h2.mono a)
  ·exact((h1.mono a).trans hk.symm).trans (h2.mono a)
end
section
variable(e:Nat→Int×Int)
def dfs(tree:List Nat):Nat→Int→Int→Int→Option (List Nat)
 |0,_,_,_=>none
 |f+1,v,w,l=>if v=w then some []else
  tree.findSome? fun(k:Nat)=>if (k:Int)=l∨¬Inc e k v then none else(dfs tree f (oth e k v) w k).map (k::·)
def Tm(tree:List Nat):Nat→Int→Int→Prop
 |0,_,_=>False
 |f+1,v,l=>∀k∈tree,(k:Int)≠l→Inc e k v→Tm tree f (oth e k v) k
variable{e}
theorem ZX{tree:List Nat}:∀{f:Nat} {v w l:Int} {r:List Nat},dfs e tree f v w l=some r→NB e tree v l r w
 |0,_,_,_,_,h=>by cases h
 |f+1,v,w,l,r,h=>by
  rw[dfs]at h
  split at h
  ·next hv=>cases h;exact hv
  ·obtain⟨k,hk,hs⟩:=List.exists_of_findSome?_eq_some h
   split at hs
   ·cases hs
   ·next hc=>
    cases hd:dfs e tree f (oth e k v) w k with
    |none=>rw[hd]at hs;cases hs
    |some r'=>
     rw[hd]at hs
     cases hs
     exact⟨hk,fun h0=>hc (.inl h0),cY fun h0=>hc (.inr h0),ZX hd⟩
theorem zcS{tree:List Nat}:∀{r:List Nat} {f:Nat} {v w l:Int},NB e tree v l r w→r.length<f→(dfs e tree f v w l).isSome
 |r,0,_,_,_,_,h=>by omega
 | [],f+1,v,w,l,h,_=>by
  have:v=w:=h
  rw[dfs,aF this]
  rfl
 |k::r,f+1,v,w,l,h,hl=>by
  rw[dfs]
  split
  ·rfl
  ·rw[List.findSome?_isSome_iff]
   refine⟨k,h.1,?_⟩
   rw[aD (fun h0=>h0.elim h.2.1 fun h1=>h1 h.2.2.1)]
   have:=zcS (r:=r) (f:=f) h.2.2.2 (by simpa using hl)
   rw[Option.isSome_map]
   exact this
theorem not_tm{tree:List Nat}:∀{f:Nat} {v l:Int},¬Tm e tree f v l→∃r w,NB e tree v l r w∧r.length=f
 |0,v,_,_=>⟨[],v,rfl,rfl⟩
 |f+1,v,l,h=>by
  apply eD
  intro hn
  apply h
  intro k hk hl hi
  apply eD
  intro a
  obtain⟨r,w,h1,h2⟩:=not_tm a
  exact hn ⟨k::r,w,⟨hk,hl,hi,h1⟩,by simp[h2]⟩
theorem Fo.tm{tree:List Nat}(a:Fo e tree)(v l:Int):Tm e tree (tree.length+1) v l:=by
 apply eD
 intro h
 obtain⟨r,w,h1,h2⟩:=not_tm h
 have:=a.short h1
 omega
def way(e:Nat→Int×Int)(tree:List Nat)(v w:Int):Option (List Nat):=dfs e tree (tree.length+1) v w (-1)
theorem jq{tree:List Nat}(b:Fo e tree){v w:Int}:(way e tree v w).isSome↔Cn e tree v w:=by
 constructor
 ·intro h
  obtain⟨r,a⟩:=Option.isSome_iff_exists.mp h
  exact⟨r,ZX a⟩
 ·rintro⟨r,a⟩
  have:=b.short a
  exact zcS a O
theorem wm{tree:List Nat}(a:Fo e tree){v w:Int}{r:List Nat}(h:way e tree v w=some r):r.Nodup∧∀k∈r,k∈tree:=⟨a.nodup (ZX h),(ZX h).mem⟩
def yG(e:Nat→Int×Int):Nat→List Nat
 |0=>[]
 |n+1=>if (way e (yG e n) (e n).1 (e n).2).isSome then yG e n else yG e n++[n]
theorem jt:∀n,(yG e n).length≤n
 |0=>aO _
 |n+1=>by have:=jt n;rw[yG];split<;>simp<;>omega
theorem qo:∀n,∀k∈yG e n,k<n
 |0,k,h=>by cases h
 |n+1,k,h=>by
  rw[yG]at h
  split at h
  ·have:=qo n k h;omega
  ·rcases aU.mp h with h|h
   ·have:=qo n k h;omega
   ·have:=aV.mp h;omega
theorem xk:∀n,Fo e (yG e n)
 |0=>Fo.nil
 |n+1=>by
  rw[yG]
  split
  ·exact xk n
  ·next h=>exact Fo.add (xk n) fun hc=>h ((jq (xk n)).mpr hc)
theorem Kl:∀{n:Nat} {k:Nat},k<n→Cn e (yG e n) (e k).1 (e k).2
 |0,_,h=>by omega
 |n+1,k,h=>by
  rw[yG]
  by_cases hk:k=n
  ·subst hk
   split
   ·next hs=>exact(jq (xk k)).mp hs
   ·exact⟨[k],by simp,by omega,.inl rfl,by show _=_;unfold oth;omega⟩
  ·have:=Kl (n:=n) (k:=k) O
   split
   ·exact this
   ·exact this.mono fun j hj=>cE _ hj
def K3(l:List Int)(a b:Int):List Int:=l.map fun x=>if x=max (l.getD a.toNat 0) (l.getD b.toNat 0)then min (l.getD a.toNat 0) (l.getD b.toNat 0)else x
def roots(e:Nat→Int×Int)(n:Nat):Nat→List Int
 |0=>(List.range n).map fun(i:Nat)=>(i:Int)
 |m+1=>K3 (roots e n m) (e m).1 (e m).2
structure RootsOf(e:Nat→Int×Int)(n:Nat)(tree:List Nat)(l:List Int):Prop where
 len:l.length=n
 le:∀i:Nat,i<n→0≤l.getD i 0∧l.getD i 0≤i
 cn:∀i:Nat,i<n→Cn e tree (l.getD i 0) i
 same:∀i j:Nat,i<n→j<n→(Cn e tree i j↔l.getD i 0=l.getD j 0)
theorem zew{l:List Int}{a b:Int}{i:Nat}(h:i<l.length):(K3 l a b).getD i 0=if l.getD i 0=max (l.getD a.toNat 0) (l.getD b.toNat 0)then min (l.getD a.toNat 0) (l.getD b.toNat 0)else l.getD i 0:=by
 unfold K3
 rw[aC,List.getElem?_map,aC (l:=l) (i:=i),aE h]
 rfl
theorem cn_nil{v w:Int}:Cn e [] v w↔v=w:=by
 constructor
 ·rintro⟨r,h⟩
  cases r with
  |nil=>exact h
  |cons k r=>exact absurd h.1 Y8
 ·rintro rfl;exact .refl
theorem u7{n:Nat}:∀{m:Nat},(∀k,k<m→0≤(e k).1∧(e k).1<(e k).2∧(e k).2<n)→RootsOf e n (yG e m) (roots e n m)
 |0,_=>by
  have hg:∀i:Nat,i<n→((List.range n).map fun(i:Nat)=>(i:Int)).getD i 0=i:=fun i hi=>by
   rw[aC,List.getElem?_map,List.getElem?_range hi];rfl
  refine⟨by simp[roots],fun i hi=>?_,fun i hi=>?_,fun i j hi hj=>?_⟩
  ·rw[roots,hg i hi];omega
  ·rw[roots,hg i hi];exact .refl
  ·rw[roots,hg i hi,hg j hj,yG,cn_nil]
 |m+1,h=>by
  have c:=u7 (m:=m) fun k hk=>h k O
  obtain⟨h1,h2,h3⟩:=h m O
  obtain⟨a,ha⟩:∃a:Nat,(e m).1=a:=⟨(e m).1.toNat,by omega⟩
  obtain⟨b,hb⟩:∃b:Nat,(e m).2=b:=⟨(e m).2.toNat,by omega⟩
  have d:a<n:=by omega
  have f:b<n:=by omega
  have hla:=c.le a d
  have hlb:=c.le b f
  rw[roots,yG,ha,hb]
  have hg:∀i:Nat,i<n→(K3 (roots e n m) (a:Int) (b:Int)).getD i 0=if (roots e n m).getD i 0=max ((roots e n m).getD a 0) ((roots e n m).getD b 0)then min ((roots e n m).getD a 0) ((roots e n m).getD b 0)else(roots e n m).getD i 0:=fun i hi=>zew (by rw[c.len];exact hi)
  split
  ·next hs=>
   have hc:=(jq (xk m)).mp hs
   have p:=(c.same a b d f).mp hc
   refine⟨by simp[K3,c.len],fun i hi=>?_,fun i hi=>?_,fun i j hi hj=>?_⟩
   ·have:=c.le i hi
    rw[hg i hi];split<;>omega
   ·have:=c.cn i hi
    rw[hg i hi,p];split
    ·next h0=>rw[h0]at this;rw[Int.max_self]at this;rw[Int.min_self];exact this
    ·exact this
   ·rw[c.same i j hi hj,hg i hi,hg j hj,p]
    split<;>split<;>omega
  ·next hs=>
   have hc:¬Cn e (yG e m) (e m).1 (e m).2:=fun h0=>hs ((jq (xk m)).mpr (by rw[←ha,←hb];exact h0))
   have l:= @Cn.add e (yG e m) (xk m) m hc
   rw[ha,hb]at l
   have r:=c.cn a d
   have s:=c.cn b f
   have hne:(roots e n m).getD a 0≠(roots e n m).getD b 0:=fun h0=>hc (by rw[ha,hb];exact(c.same a b d f).mpr h0)
   generalize w:(roots e n m).getD a 0=A at *
   generalize z:(roots e n m).getD b 0=B at *
   refine⟨by simp[K3,c.len],fun i hi=>?_,fun i hi=>?_,fun i j hi hj=>?_⟩
   ·have:=c.le i hi
    rw[hg i hi];split<;>omega
   ·have g:=c.cn i hi
    have q:∀{x y:Int},Cn e (yG e m) x y→Cn e (yG e m++[m]) x y:=fun h0=>h0.mono fun j hj=>cE _ hj
    have o:Cn e (yG e m++[m]) A B:=((q r).trans (l.mpr (.inr (.inl ⟨.refl,.refl⟩)))).trans (q s.symm)
    rw[hg i hi]
    split
    ·next h0=>
     rw[h0]at g
     by_cases hlt:A<B
     ·rw[show max A B=B by omega]at g
      rw[show min A B=A by omega]
      exact o.trans (q g)
     ·rw[show max A B=A by omega]at g
      rw[show min A B=B by omega]
      exact o.symm.trans (q g)
    ·exact q g
   ·have e1:=c.same i j hi hj
    have e2:=c.same i a hi d
    have t:=c.same b j f hj
    have u:=c.same i b hi f
    have v:=c.same a j d hj
    rw[w]at e2 v
    rw[z]at t u
    rw[l,e1,e2,t,u,v,hg i hi,hg j hj]
    split<;>split<;>omega
end
abbrev Q2:=Rat×Rat
def zX:Q2:=(1,0)
def aft(t u:Q2):Q2:=(t.1*u.1-t.2*u.2,t.2*u.1+t.1*u.2)
def bck(t:Q2):Q2:=(t.1,-t.2)
section
variable(e:Nat→Int×Int)(T:Nat→Q2)
def xJ:List Nat→Int→Q2→Q2
 | [],_,t=>t
 |k::r,v,t=>xJ r (oth e k v) (aft t (if (e k).1=v then T k else bck (T k)))
def v7(k:Nat):Option (List Nat):=
 match way e (yG e k) (e k).1 (e k).2 with
 |none=>none
 |some r=>if xJ e T r (e k).1 zX=T k then none else some r
def first:Nat→Option (Nat×List Nat)
 |0=>none
 |n+1=>match first n with
  |some x=>some x
  |none=>(v7 e T n).map (n, ·)
def Qw(l:List Int)(n:Int):List Int:=l.filter (·<n)++n::l.filter (n<·)
variable{e T}
theorem zcz{l:List Int}{n:Int}(h:l.Pairwise (·<·)):(Qw l n).Pairwise (·<·):=by
 unfold Qw
 rw[List.pairwise_append,List.pairwise_cons]
 refine⟨h.filter _,⟨fun x hx=>?_,h.filter _⟩,fun x hx y a=>?_⟩
 ·simpa using (List.mem_filter.mp hx).2
 ·have h1:x<n:=by simpa using (List.mem_filter.mp hx).2
  rcases aL.mp a with rfl|a
  ·exact h1
  ·have h2:n<y:=by simpa using (List.mem_filter.mp a).2
   omega
theorem insS_mem{l:List Int}{n x:Int}:x∈Qw l n↔x=n∨x∈l:=by
 unfold Qw
 rw[aU,aL,List.mem_filter,List.mem_filter]
 simp only[aB]
 constructor
 ·rintro(h|h|h)
  ·exact .inr h.1
  ·exact .inl h
  ·exact .inr h.1
 ·rintro(h|h)
  ·exact .inr (.inl h)
  ·by_cases h1:x<n
   ·exact .inl ⟨h,h1⟩
   ·by_cases h2:x=n
    ·exact .inr (.inl h2)
    ·exact .inr (.inr ⟨h,by omega⟩)
theorem gk:∀{r l:List Int},l.Pairwise (·<·)→(r.foldl Qw l).Pairwise (·<·)
 | [],_,h=>h
 |_::r,_,h=>gk (r:=r) (zcz h)
theorem Vm{x:Int}:∀{r l:List Int},x∈r.foldl Qw l↔x∈l∨x∈r
 | [],l=>by simp
 |y::r,l=>by
  rw[List.foldl_cons,Vm,insS_mem,aL]
  constructor
  ·rintro((h|h)|h)
   ·exact .inr (.inl h)
   ·exact .inl h
   ·exact .inr (.inr h)
  ·rintro(h|h|h)
   ·exact .inl (.inr h)
   ·exact .inl (.inl h)
   ·exact .inr h
theorem Ww{l m:List Int}(hl:l.Pairwise (·<·))(a:m.Pairwise (·<·))(h:∀x,x∈l↔x∈m):l=m:=by
 induction l generalizing m with
 |nil=>
  cases m with
  |nil=>rfl
  |cons y m=>have:=(h y).mpr Y8;cases this
 |cons x l c=>
  cases m with
  |nil=>have:=(h x).mp Y8;cases this
  |cons y m=>
   rw[List.pairwise_cons]at hl a
   have e1:x=y:=by
    have h1:=(h x).mp Y8
    have h2:=(h y).mpr Y8
    rcases aL.mp h1 with h1|h1
    ·exact h1
    ·rcases aL.mp h2 with h2|h2
     ·exact h2.symm
     ·have:=hl.1 y h2;have:=a.1 x h1;omega
   subst e1
   rw[c hl.2 a.2 fun z=>?_]
   have b:=h z
   simp only[aL]at b
   constructor
   ·intro h1
    have:=hl.1 z h1
    rcases b.mp (.inr h1)with h2|h2
    ·omega
    ·exact h2
   ·intro h1
    have:=a.1 z h1
    rcases b.mpr (.inr h1)with h2|h2
    ·omega
    ·exact h2
theorem zeL{k:Nat}{r:List Nat}(d:r.Nodup)(hk:∀j∈r,j<k){s:List Int}(hs:s.Pairwise (·≤·))(hp:s.Perm ((r++[k]).map fun(j:Nat)=>(j:Int))) :
 (r.map fun(j:Nat)=>(j:Int)).foldl Qw [(k:Int)]=s:=by
 have hn:((r++[k]).map fun(j:Nat)=>(j:Int)).Nodup:=by
  refine List.Pairwise.map (R:=fun a b=>a≠b) _ (fun a b h h2=>h O) ?_
  rw[List.pairwise_append]
  exact⟨d,by simp,fun a ha b hb=>by have:=hk a ha;have:=aV.mp hb;omega⟩
 have c:s.Nodup:=hp.nodup_iff.mpr hn
 refine Ww (gk Y8) ?_ fun x=>?_
 ·exact(hs.and c).imp fun h=>by omega
 ·rw[Vm,hp.mem_iff,List.map_append,aU]
  simp only[List.map_cons,List.map_nil,aV]
  exact Or.comm
end
section
variable{e:Nat→Int×Int}
theorem zbH{n:Nat}{tree:List Nat}{l:List Int}(a:Fo e tree)(h:RootsOf e n tree l){i:Nat}(hi:i<n):(way e tree (l.getD i 0) i).isSome:=(jq a).mpr (h.cn i hi)
end
def Tn(D:Nat)(t:Q2):Prop:=∃(d:Nat) (x y:Int),0<d∧d≤D∧x*x+y*y=(d:Int)*(d:Int)∧t.1=mkRat x d∧t.2=mkRat y d
theorem XN{x d:Int}{y:Int}(hd:0<d)(h:x*x+y*y=d*d):x.natAbs≤d.natAbs:=by
 have hy:0≤y*y:=by rcases Int.le_total 0 y with h0|h0;exact Int.mul_nonneg h0 h0;exact Int.mul_nonneg_of_nonpos_of_nonpos h0 h0
 have hx:x*x≤d*d:=by omega
 have e:(x.natAbs:Int)*x.natAbs=x*x:=by rw[←Int.natCast_mul,Int.natAbs_mul_self]
 apply cY
 intro hc
 have h1:d+1≤(x.natAbs:Int):=by omega
 have h2:(d+1)*(d+1)≤(x.natAbs:Int)*x.natAbs:=Int.mul_le_mul h1 h1 O O
 rw[e]at h2
 have h3:(d+1)*(d+1)=d*d+2*d+1:=by rw[Int.add_mul,Int.mul_add,Int.one_mul,Int.mul_one];omega
 omega
theorem Tn.le{D E:Nat}{t:Q2}(h:Tn D t)(hDE:D≤E):Tn E t:=by
 obtain⟨d,x,y,h1,h2,a⟩:=h
 exact⟨d,x,y,h1,by omega,a⟩
theorem Tn.bd{D:Nat}{t:Q2}(h:Tn D t):Bd t.1 D D∧Bd t.2 D D:=by
 obtain⟨d,x,y,h1,h2,b,e1,e2⟩:=h
 have a:(0:Int)<d:=by omega
 have hx:=XN a b
 have c:=XN (x:=y) (y:=x) a (by rw[←b];omega)
 rw[Int.natAbs_natCast]at hx c
 rw[e1,e2]
 exact⟨(@bd_mkRat x d).le O O,(@bd_mkRat y d).le O O⟩
theorem Tn.one{D:Nat}{t:Q2}(h:Tn D t):t.1*t.1+t.2*t.2=1:=by
 obtain⟨d,x,y,h1,h2,b,e1,e2⟩:=h
 have a:d*d≠0:=Nat.mul_ne_zero O O
 rw[e1,e2,eB,eB,Rat.mkRat_add_mkRat _ _ a a,←Int.add_mul,b,←Int.natCast_mul]
 rw[Rat.mkRat_mul_right a]
 have:=Rat.mkRat_mul_right (n:=1) (d:=1) a
 rw[Int.one_mul,dQ]at this
 rw[this]
 rfl
theorem tn_still:Tn 1 zX:=⟨1,1,0,by omega,by omega,rfl,by rw[zX];rfl,by rw[zX];rfl⟩
theorem Tn.bck{D:Nat}{t:Q2}(h:Tn D t):Tn D (bck t):=by
 obtain⟨d,x,y,h1,h2,a,e1,e2⟩:=h
 refine⟨d,x,-y,h1,h2,by rw[Int.neg_mul_neg];exact a,e1,?_⟩
 show -t.2=_
 rw[e2,Rat.neg_mkRat]
theorem Tn.aft{D E:Nat}{t u:Q2}(h:Tn D t)(g:Tn E u):Tn (D*E) (aft t u):=by
 obtain⟨d,x,y,h1,h2,i,e1,e2⟩:=h
 obtain⟨e,p,q,g1,g2,f,b,c⟩:=g
 have a:d*e≠0:=Nat.mul_ne_zero O O
 refine⟨d*e,x*p-y*q,y*p+x*q,Nat.mul_pos h1 g1,eE h2 g2,?_,?_,?_⟩
 ·have:((d*e:Nat):Int)*((d*e:Nat):Int)=(d*d:Int)*(e*e:Int):=by rw[Int.natCast_mul];grind
  rw[this,←i,←f]
  grind
 ·show t.1*u.1-t.2*u.2=_
  rw[e1,e2,b,c,eB,eB,Rat.sub_eq_add_neg,Rat.neg_mkRat,Rat.mkRat_add_mkRat _ _ a a,←Int.add_mul,Rat.mkRat_mul_right a,Int.sub_eq_add_neg]
 ·show t.2*u.1+t.1*u.2=_
  rw[e1,e2,b,c,eB,eB,Rat.mkRat_add_mkRat _ _ a a,←Int.add_mul,Rat.mkRat_mul_right a]
theorem Tn.quarter{D:Nat}{t:Q2}(h:Tn D t):Tn D (-t.2,t.1):=by
 obtain⟨d,x,y,h1,h2,h3,e1,e2⟩:=h
 refine⟨d,-y,x,h1,h2,by rw[Int.neg_mul_neg];omega,?_,e1⟩
 show -t.2=_
 rw[e2,Rat.neg_mkRat]
theorem ji{α β:Type}{g:α→Option β}{l:List α}{i:Nat}(d:α)(hi:i<l.length)(h:l.findSome? g=(l.drop i).findSome? g)(hg:g (l.getD i d)=none):l.findSome? g=(l.drop (i+1)).findSome? g:=by
 rw[h,List.drop_eq_getElem_cons hi,List.findSome?_cons]
 have e:l.getD i d=l[i]:=by simp[aC,aE hi]
 rw[e]at hg
 rw[hg]
theorem YO{α β:Type}{g:α→Option β}{l:List α}{i:Nat}{b:β}(d:α)(hi:i<l.length)(h:l.findSome? g=(l.drop i).findSome? g)(hg:g (l.getD i d)=some b):l.findSome? g=some b:=by
 rw[h,List.drop_eq_getElem_cons hi,List.findSome?_cons]
 have e:l.getD i d=l[i]:=by simp[aC,aE hi]
 rw[e]at hg
 rw[hg]
theorem zaB{α β:Type}{g:α→Option β}{l:List α}{i:Nat}(hi:l.length≤i)(h:l.findSome? g=(l.drop i).findSome? g):l.findSome? g=none:=by
 rw[h,List.drop_eq_nil_of_le hi]
 rfl
theorem uG{α β:Type}{g:α→Option β}{p:α→Bool}:∀{l:List α},(∀a∈l,p a=false→g a=none)→(l.filter p).findSome? g=l.findSome? g
 | [],_=>rfl
 |a::l,h=>by
  have c:=uG (g:=g) (p:=p) (l:=l) fun b hb=>h b (by simp[hb])
  rw[List.filter_cons,List.findSome?_cons]
  cases hp:p a with
  |true=>rw[aF rfl,List.findSome?_cons,c]
  |false=>
   rw[aD Y8,c,h a Y8 hp]
section
variable{e:Nat→Int×Int}
theorem trees_pre{n:Nat}:∀{m:Nat},n≤m→∃r,yG e m=yG e n++r:=by
 intro m h
 induction h with
 |refl=>exact⟨[],by simp⟩
 |step _ b=>
  obtain⟨r,a⟩:=b
  rw[yG]
  split
  ·exact⟨r,a⟩
  ·exact⟨r++_,by rw[a,bD]⟩
theorem trees_le{n m:Nat}(h:n≤m):(yG e n).length≤(yG e m).length:=by
 obtain⟨r,a⟩:=trees_pre (e:=e) h
 rw[a,aQ]
 omega
end
def uw(c:Nat):Nat→Nat
 |0=>0
 |f+1=>6*(c+uw c f)+c
theorem zgT(c:Nat):∀f,uw c f≤uw c (f+1)
 |0=>by simp[uw]
 |f+1=>by have:=zgT c f;rw[uw,uw];omega
theorem cost_mono(c:Nat){f g:Nat}(h:f≤g):uw c f≤uw c g:=by
 induction h with
 |refl=>exact aO _
 |step _ a=>exact bH a (zgT c _)
theorem cost7(c:Nat):uw c 7=391909*c:=by simp only[uw];omega
section
variable{e:Nat→Int×Int}{T:Nat→Q2}
end
structure Ed where
 fr:Nat
 to:Nat
 m:Rat
def wt:List Ed→Rat
 | []=>0
 |c::r=>c.m+wt r
theorem Zz(a b:List Ed):wt (a++b)=wt a+wt b:=by
 induction a with
 |nil=>rw[cI,wt,Rat.zero_add]
 |cons c a d=>rw[bV,wt,wt,d,Rat.add_assoc]
def PR(l:List Ed):Nat→List Ed→Nat→Prop
 |v,[],u=>v=u
 |v,c::r,u=>c.to=v∧c∈l∧PR l c.fr r u
def vs:Nat→List Ed→List Nat
 |v,[]=>[v]
 |v,c::r=>v::vs c.fr r
theorem zdV:∀(v:Nat) (r:List Ed),(vs v r).length=r.length+1
 |_,[]=>rfl
 |v,c::r=>by rw[vs,aW,zdV,aW]
theorem PR.app{l:List Ed}:∀{v w u:Nat} {a b:List Ed},PR l v a w→PR l w b u→PR l v (a++b) u
 |_,_,_,[],_,h,g=>by obtain rfl:_=_:=h;exact g
 |_,_,_,c::a,_,⟨h1,h2,d⟩,g=>⟨h1,h2,PR.app d g⟩
theorem PR.mem{l:List Ed}:∀{x u w:Nat} {r:List Ed},PR l x r u→w∈vs x r→∃a b,r=a++b∧PR l x a w∧PR l w b u
 |x,u,w,[],h,d=>by
  obtain rfl:=aV.mp d
  exact⟨[],[],rfl,rfl,h⟩
 |x,u,w,c::r,⟨h1,h2,f⟩,d=>by
  rcases aL.mp d with rfl|d
  ·exact⟨[],c::r,rfl,rfl,h1,h2,f⟩
  ·obtain⟨a,b,e,g1,g2⟩:=PR.mem f d
   exact⟨c::a,b,by rw[e];rfl,⟨h1,h2,g1⟩,g2⟩
theorem PR.twice{l:List Ed}:∀{v u:Nat} {r:List Ed},PR l v r u→¬(vs v r).Nodup→∃w a b c,r=a++(b++c)∧PR l v a w∧PR l w b w∧PR l w c u∧b≠[]
 |v,u,[],_,hn=>(hn (List.nodup_cons.mpr ⟨by simp,List.nodup_nil⟩)).elim
 |v,u,c::r,⟨h1,h2,f⟩,hn=>by
  rw[vs,List.nodup_cons]at hn
  by_cases hv:v∈vs c.fr r
  ·obtain⟨a,b,e,g1,g2⟩:=PR.mem f hv
   exact⟨v,[],c::a,b,by rw[e];rfl,rfl,⟨h1,h2,g1⟩,g2,by simp⟩
  ·obtain⟨w,a,b,d,e,g1,g2,g,i⟩:=PR.twice f fun h=>hn ⟨hv,h⟩
   exact⟨w,c::a,b,d,by rw[e];rfl,⟨h1,h2,g1⟩,g2,g,i⟩
def Sat(l:List Ed)(y:Nat→Rat):Prop:=∀c∈l,y c.to≤y c.fr+c.m
theorem Yd{a b c:Rat}(h:a≤b):a+c≤b+c:=Rat.add_le_add_right.mpr h
theorem le_of_add{a b c:Rat}(h:c+a≤c+b):a≤b:=Rat.add_le_add_left.mp h
theorem Sat.path{l:List Ed}{y:Nat→Rat}(h:Sat l y):∀{v u:Nat} {r:List Ed},PR l v r u→y v≤y u+wt r
 |v,u,[],e=>by obtain rfl:v=u:=e;rw[wt,Rat.add_zero];exact eL
 |v,u,c::r,⟨h1,h2,a⟩=>by
  have g1:=h c h2
  have g2:=Sat.path h a
  rw[h1]at g1
  refine dO g1 ?_
  rw[wt,Rat.add_comm c.m,←Rat.add_assoc]
  exact Yd g2
theorem Sat.circle{l:List Ed}{y:Nat→Rat}(h:Sat l y){w:Nat}{r:List Ed}(g:PR l w r w):0≤wt r:=by
 have:=h.path g
 rw[←Rat.add_zero (y w),Rat.add_assoc,Rat.zero_add]at this
 exact le_of_add this
theorem short{l:List Ed}{n:Nat}(hn:∀c∈l,c.fr<n∧c.to<n){y:Nat→Rat}(h:Sat l y) :
 ∀(k:Nat) {v u:Nat} {r:List Ed},r.length=k→v<n→PR l v r u→∃g,PR l v g u∧g.length<n∧wt g≤wt r:=by
 intro k
 induction k using Nat.strongRecOn with
 |ind k j=>
  intro v u r hk hv hp
  by_cases i:r.length<n
  ·exact⟨r,hp,i,eL⟩
  have mem:∀(r:List Ed) (v:Nat),v<n→PR l v r u→∀w∈vs v r,w<n:=by
   intro r
   induction r with
   |nil=>intro v hv _ w f;rw[aV.mp f];exact hv
   |cons c r j=>
    intro v hv hp w f
    rcases aL.mp f with rfl|f
    ·exact hv
    ·exact j c.fr (hn c hp.2.1).1 hp.2.2 w f
  have d:¬(vs v r).Nodup:=fun d=>by
   have:=YG d (t:=List.range n) fun w f=>dT.mpr (mem r v hv hp w f)
   rw[zdV,List.length_range]at this
   omega
  obtain⟨w,a,b,c,e,g1,g2,m,o⟩:=hp.twice d
  have hb:0<b.length:=List.length_pos_iff.mpr o
  have hl:(a++c).length<k:=by
   rw[←hk,e]
   simp only[aQ]
   omega
  obtain⟨g,p,q,s⟩:=j _ hl rfl hv (g1.app m)
  refine⟨g,p,q,dO s ?_⟩
  have:=h.circle g2
  rw[e,Zz,Zz,Zz]
  refine Rat.add_le_add_left.mpr ?_
  have:=Yd (c:=wt c) this
  rw[Rat.zero_add]at this
  exact this
structure Rx(l:List Ed)(n:Nat)(x:Nat→Rat):Prop where
 way:∀v,v<n→∃r u,PR l v r u∧x v=wt r
def UB(l:List Ed)(n k:Nat)(x:Nat→Rat):Prop:=∀v r u,v<n→PR l v r u→r.length≤k→x v≤wt r
theorem Rx.zero{l:List Ed}{n:Nat}:Rx l n fun _=>0:=⟨fun v _=>⟨[],v,rfl,rfl⟩⟩
theorem UB.zero{l:List Ed}{n:Nat}:UB l n 0 fun _=>0:=fun v r u _ _ hr=>by
 obtain rfl:r=[]:=bO.mp Oz
 exact eL
theorem done{l:List Ed}{n k:Nat}(hn:∀c∈l,c.fr<n∧c.to<n){y x:Nat→Rat}(h:Sat l y)(a:Rx l n x)(hu:UB l n k x)(hk:n≤k+1):Sat l x:=by
 intro c hc
 obtain⟨r,u,hp,e⟩:=a.way c.fr (hn c hc).1
 obtain⟨r',b,q2,d⟩:=short hn h _ rfl (hn c hc).2 (show PR l c.to (c::r) u from⟨rfl,hc,hp⟩)
 refine dO (hu _ _ _ (hn c hc).2 b Oz) (dO d ?_)
 rw[wt,e,Rat.add_comm]
 exact eL
theorem Rx.top{l:List Ed}{n:Nat}(hn:∀c∈l,c.fr<n∧c.to<n){x y:Nat→Rat}(a:Rx l n x)(h:Sat l y)(h0:∀v,v<n→y v≤0){v:Nat}(hv:v<n):y v≤x v:=by
 obtain⟨r,u,hp,e⟩:=a.way v hv
 have hu:u<n:=by
  have:∀(r:List Ed) (v:Nat),v<n→PR l v r u→u<n:=by
   intro r
   induction r with
   |nil=>intro v hv h;rw[←show v=u from h];exact hv
   |cons c r b=>intro v _ h;exact b c.fr (hn c h.2.1).1 h.2.2
  exact this r v hv hp
 have:=h.path hp
 rw[e]
 refine dO this ?_
 have:=Yd (c:=wt r) (h0 u hu)
 rw[Rat.zero_add]at this
 exact this
def Un(t:Q2):Prop:=t.1*t.1+t.2*t.2=1
theorem yu(a b c:Q2):aft (aft a b) c=aft a (aft b c):=by
 unfold aft
 refine Prod.ext ?_ ?_<;>dsimp only<;>grind
theorem vN(a:Q2):aft a zX=a:=by
 unfold aft zX
 refine Prod.ext ?_ ?_<;>dsimp only<;>grind
theorem jv(a:Q2):aft zX a=a:=by
 unfold aft zX
 refine Prod.ext ?_ ?_<;>dsimp only<;>grind
theorem vT{a:Q2}(h:Un a):aft (bck a) a=zX:=by
 unfold Un at h
 unfold aft bck zX
 refine Prod.ext ?_ ?_<;>dsimp only<;>grind
theorem QU{a:Q2}(h:Un a):aft a (bck a)=zX:=by
 unfold Un at h
 unfold aft bck zX
 refine Prod.ext ?_ ?_<;>dsimp only<;>grind
theorem uU:Un zX:=by unfold Un zX;grind
theorem Un.bck{a:Q2}(h:Un a):Un (bck a):=by
 unfold Un at h ⊢
 unfold Go.Proofs.C14.bck
 dsimp only
 grind
theorem Un.aft{a b:Q2}(h:Un a)(g:Un b):Un (aft a b):=by
 unfold Un at h g ⊢
 unfold Go.Proofs.C14.aft
 dsimp only
 have:(a.1*b.1-a.2*b.2)*(a.1*b.1-a.2*b.2)+(a.2*b.1+a.1*b.2)*(a.2*b.1+a.1*b.2)=(a.1*a.1+a.2*a.2)*(b.1*b.1+b.2*b.2):=by grind
 rw[this,h,g];grind
section
variable{e:Nat→Int×Int}{T:Nat→Q2}
structure Agr(e:Nat→Int×Int)(T:Nat→Q2)(n:Nat)(τ:Int→Q2):Prop where
 un:∀v,Un (τ v)
 fit:∀k,k<n→τ (e k).2=aft (τ (e k).1) (T k)
theorem Yb(g:Q2):∀(r:List Nat) (v:Int) (t:Q2),xJ e T r v (aft g t)=aft g (xJ e T r v t)
 | [],_,_=>rfl
 |k::r,v,t=>by rw[xJ,xJ,yu];exact Yb g r _ _
theorem Ju{n:Nat}{τ:Int→Q2}(b:∀k,k<n→Un (T k))(h:Agr e T n τ){tree:List Nat}(c:∀k∈tree,k<n):∀{r:List Nat} {v l w:Int},NB e tree v l r w→xJ e T r v (τ v)=τ w
 | [],v,l,w,hn=>by obtain rfl:v=w:=hn;rfl
 |k::r,v,l,w,hn=>by
  obtain⟨h1,h2,d,f⟩:=hn
  have hk:=c k h1
  have key:aft (τ v) (if (e k).1=v then T k else bck (T k))=τ (oth e k v):=by
   by_cases hv:(e k).1=v
   ·rw[aF hv,show oth e k v=(e k).2 by unfold oth;omega,h.fit k hk,hv]
   ·have a:(e k).2=v:=d.resolve_left hv
    rw[aD hv,show oth e k v=(e k).1 by unfold oth;omega,←a,h.fit k hk,yu,QU (b k hk),vN]
  rw[xJ,key]
  exact Ju b h c f
theorem XJ{n:Nat}{τ:Int→Q2}(a:∀k,k<n→Un (T k))(h:Agr e T n τ){tree:List Nat}(c:∀k∈tree,k<n){r:List Nat}{v w:Int}(b:way e tree v w=some r):xJ e T r v zX=aft (bck (τ v)) (τ w):=by
 have h1:=Ju a h c (ZX b)
 have h2:=Yb (e:=e) (T:=T) (bck (τ v)) r v (τ v)
 rw[vT (h.un v),h1]at h2
 exact h2
theorem Agr.le{m n:Nat}{τ:Int→Q2}(h:Agr e T n τ)(hm:m≤n):Agr e T m τ:=⟨h.un,fun k hk=>h.fit k Oz⟩
theorem Jv{τ:Int→Q2}:∀{n:Nat},(∀k,k<n→Un (T k))→Agr e T n τ→first e T n=none
 |0,_,_=>rfl
 |n+1,a,h=>by
  rw[first,Jv (fun k hk=>a k Oz) (h.le Oz)]
  show(v7 e T n).map _=none
  have:v7 e T n=none:=by
   unfold v7
   split
   ·rfl
   ·next r b=>
    rw[aF]
    rw[XJ a h (fun k hk=>by have:=qo n k hk;omega) b,h.fit n Oz,←yu,vT (h.un _),jv]
  rw[this];rfl
theorem Xr:∀{n:Nat},(∀k,k<n→Un (T k))→first e T n=none→∃τ,Agr e T n τ
 |0,_,_=>⟨fun _=>zX,fun _=>uU,fun k hk=>by omega⟩
 |n+1,f,h=>by
  rw[first]at h
  cases hf:first e T n with
  |some x=>rw[hf]at h;cases h
  |none=>
   rw[hf]at h
   obtain⟨τ,hτ⟩:=Xr (fun k hk=>f k Oz) hf
   have hc:v7 e T n=none:=by
    cases hc:v7 e T n with
    |none=>rfl
    |some r=>rw[hc]at h;cases h
   cases i:way e (yG e n) (e n).1 (e n).2 with
   |some r=>
    unfold v7 at hc
    rw[i]at hc
    dsimp only at hc
    split at hc
    ·next c=>
     refine⟨τ,hτ.un,fun k hk=>?_⟩
     by_cases b:k=n
     ·subst b
      rw[XJ (fun k hk=>f k Oz) hτ (qo _) i]at c
      rw[←c,←yu,QU (hτ.un _),jv]
     ·exact hτ.fit k Oz
    ·cases hc
   |none=>
    have hn:¬Cn e (yG e n) (e n).1 (e n).2:=fun hc=>by
     have:=(jq (xk n)).mpr hc
     rw[i]at this;cases this
    have g:Un (aft (aft (τ (e n).1) (T n)) (bck (τ (e n).2))):=((hτ.un _).aft (f n Oz)).aft (hτ.un _).bck
    open Classical in
    refine⟨fun v=>if Cn e (yG e n) (e n).2 v then aft (aft (aft (τ (e n).1) (T n)) (bck (τ (e n).2))) (τ v)else τ v,fun v=>?_,fun k hk=>?_⟩
    ·split
     ·exact g.aft (hτ.un v)
     ·exact hτ.un v
    ·by_cases b:k=n
     ·subst b
      rw[aF Cn.refl,aD (fun h=>hn h.symm),yu,vT (hτ.un _),vN]
     ·have a:k<n:=by omega
      have d:=Kl (e:=e) a
      by_cases hb:Cn e (yG e n) (e n).2 (e k).1
      ·rw[aF hb,aF (hb.trans d),hτ.fit k a,yu,yu]
       rw[yu,yu,yu]
      ·rw[aD hb,aD (fun h=>hb (h.trans d.symm))]
       exact hτ.fit k a
end
def Tx(d:Nat)(t:Q2):Prop:=0<d∧∃x y:Int,x*x+y*y=(d:Int)*(d:Int)∧t.1=mkRat x d∧t.2=mkRat y d
theorem Tn.ex{D:Nat}{t:Q2}(h:Tn D t):∃d,d≤D∧Tx d t:=by
 obtain⟨d,x,y,h0,h1,h2⟩:=h
 exact⟨d,h1,h0,x,y,h2⟩
theorem zbp:Tx 1 zX:=⟨by omega,1,0,rfl,by rw[zX];rfl,by rw[zX];rfl⟩
theorem Tx.bck{d:Nat}{t:Q2}(h:Tx d t):Tx d (bck t):=by
 obtain⟨h0,x,y,h1,h2,a⟩:=h
 refine⟨h0,x,-y,by rw[Int.neg_mul_neg];exact h1,h2,?_⟩
 show -t.2=_
 rw[a,Rat.neg_mkRat]
theorem Tx.aft{d e:Nat}{t u:Q2}(h:Tx d t)(k:Tx e u):Tx (d*e) (aft t u):=by
 obtain⟨h0,x,y,h1,h2,i⟩:=h
 obtain⟨f,x',j,g,b,c⟩:=k
 have a:d*e≠0:=Nat.mul_ne_zero Oz Oz
 refine⟨Nat.mul_pos h0 f,x*x'-y*j,y*x'+x*j,?_,?_,?_⟩
 ·have:((d*e:Nat):Int)*((d*e:Nat):Int)=(d*d:Int)*(e*e:Int):=by rw[Int.natCast_mul];grind
  rw[this,←h1,←g]
  grind
 ·show t.1*u.1-t.2*u.2=_
  rw[h2,i,b,c,eB,eB,Rat.sub_eq_add_neg,Rat.neg_mkRat,Rat.mkRat_add_mkRat _ _ a a,←Int.add_mul,Rat.mkRat_mul_right a,Int.sub_eq_add_neg]
 ·show t.2*u.1+t.1*u.2=_
  rw[h2,i,b,c,eB,eB,Rat.mkRat_add_mkRat _ _ a a,←Int.add_mul,Rat.mkRat_mul_right a]
def pr(D:Nat→Nat):List Nat→Nat
 | []=>1
 |k::r=>D k*pr D r
theorem zbW{D:Nat→Nat}:∀{t:List Nat} {k:Nat},k∈t→pr D t=D k*pr D (t.erase k)
 |j::t,k,h=>by
  by_cases e:j=k
  ·subst e
   rw[List.erase_cons_head,pr]
  ·have a:k∈t:=(aL.mp h).resolve_left fun q=>e q.symm
   rw[List.erase_cons_tail (by simpa using e),pr,pr,zbW a,Nat.mul_left_comm]
theorem zeh{D:Nat→Nat}:∀{r t:List Nat},r.Nodup→(∀k∈r,k∈t)→pr D r∣pr D t
 | [],_,_,_=>Nat.one_dvd _
 |k::r,t,hn,hs=>by
  rw[List.nodup_cons]at hn
  rw[zbW (hs k (aP ..)),pr]
  refine Nat.mul_dvd_mul (Nat.dvd_refl _) (zeh hn.2 fun j hj=>?_)
  have ne:j≠k:=fun e=>hn.1 (by rw[←e];exact hj)
  exact(List.mem_erase_of_ne ne).mpr (hs j (aN _ hj))
theorem pr_map{D:Nat→Nat}{f:Nat→Nat}:∀l:List Nat,pr D (l.map f)=pr (fun k=>D (f k)) l
 | []=>rfl
 |k::l=>by rw[List.map_cons,pr,pr,pr_map l]
theorem zdr{e:Nat→Int×Int}{T:Nat→Q2}{D:Nat→Nat}:∀{r:List Nat} {v:Int} {t:Q2} {d:Nat},(∀k∈r,Tx (D k) (T k))→Tx d t→Tx (d*pr D r) (xJ e T r v t)
 | [],v,t,d,_,h=>by rw[pr,cG];exact h
 |k::r,v,t,d,a,h=>by
  rw[pr,←Nat.mul_assoc,xJ]
  refine zdr (fun j hj=>a j (aN _ hj)) (h.aft ?_)
  have hk:=a k (aP ..)
  split
  ·exact hk
  ·exact hk.bck
section
variable{e:Nat→Int×Int}{T:Nat→Q2}
theorem edge_cn{tree:List Nat}{k:Nat}(hk:k∈tree):Cn e tree (e k).1 (e k).2:=
 ⟨[k],hk,by omega,.inl rfl,show oth e k (e k).1=(e k).2 by unfold oth;omega⟩
theorem NB.re{t1 t2:List Nat}:∀{r:List Nat} {v l w:Int},NB e t1 v l r w→(∀k∈r,k∈t2)→NB e t2 v l r w
 | [],_,_,_,h,_=>h
 |k::r,_,_,_,⟨_,h2,a,b⟩,hs=>⟨hs k (aP ..),h2,a,NB.re b fun j hj=>hs j (aN _ hj)⟩
theorem no_cn{tree t0:List Nat}(a:Fo e tree){j:Nat}(hj:j∈tree)(hs:∀k∈t0,k∈tree∧k≠j):¬Cn e t0 (e j).1 (e j).2:=by
 rintro⟨p,hp⟩
 have h1:NB e tree (e j).1 (j:Int) p (e j).2:=(hp.last (l2:=(j:Int)) fun k hk=>by have:=(hs k hk).2;omega).mono fun k hk=>(hs k hk).1
 have h2:NB e tree (e j).2 (-1) (j::p) (e j).2:=⟨hj,by omega,.inr rfl,by rw[show oth e j (e j).2=(e j).1 by unfold oth;omega];exact h1⟩
 have:=a _ _ _ h2
 cases this
theorem twist{τ:Int→Q2}(hu:∀v,Un (τ v)){L:List Nat}(c:∀i∈L,τ (e i).2=aft (τ (e i).1) (T i)){k:Nat}(hk:¬Cn e L (e k).1 (e k).2)(hU:Un (T k)) :
 ∃τ':Int→Q2,(∀v,Un (τ' v))∧(∀i∈L,τ' (e i).2=aft (τ' (e i).1) (T i))∧τ' (e k).2=aft (τ' (e k).1) (T k):=by
 have b:Un (aft (aft (τ (e k).1) (T k)) (bck (τ (e k).2))):=((hu _).aft hU).aft (hu _).bck
 open Classical in
 refine⟨fun v=>if Cn e L (e k).2 v then aft (aft (aft (τ (e k).1) (T k)) (bck (τ (e k).2))) (τ v)else τ v,fun v=>?_,fun i hi=>?_,?_⟩<;>dsimp only
 ·split
  ·exact b.aft (hu v)
  ·exact hu v
 ·have a:=edge_cn (e:=e) hi
  by_cases hb:Cn e L (e k).2 (e i).1
  ·rw[aF hb,aF (hb.trans a),c i hi,yu,yu]
   rw[yu,yu,yu]
  ·rw[aD hb,aD (fun h=>hb (h.trans a.symm))]
   exact c i hi
 ·rw[aF Cn.refl,aD (fun h=>hk h.symm),yu,vT (hu _),vN]
theorem zdu{τ:Int→Q2}:∀{r:List Nat} {tree:List Nat} {v l w:Int},(∀k∈r,Un (T k)∧τ (e k).2=aft (τ (e k).1) (T k))→NB e tree v l r w→xJ e T r v (τ v)=τ w
 | [],_,v,l,w,_,hn=>by obtain rfl:v=w:=hn;rfl
 |k::r,tree,v,l,w,b,hn=>by
  obtain⟨h1,h2,c,d⟩:=hn
  obtain⟨hU,hf⟩:=b k (aP ..)
  have key:aft (τ v) (if (e k).1=v then T k else bck (T k))=τ (oth e k v):=by
   by_cases hv:(e k).1=v
   ·rw[aF hv,show oth e k v=(e k).2 by unfold oth;omega,hf,hv]
   ·have a:(e k).2=v:=c.resolve_left hv
    rw[aD hv,show oth e k v=(e k).1 by unfold oth;omega,←a,hf,yu,QU hU,vN]
  rw[xJ,key]
  exact zdu (fun j hj=>b j (aN _ hj)) d
theorem wE:∀{m k:Nat} {r:List Nat},first e T m=some (k,r)→k<m∧first e T k=none∧v7 e T k=some r
 |0,_,_,h=>nomatch h
 |m+1,k,r,h=>by
  rw[first]at h
  cases hf:first e T m with
  |some x=>
   rw[hf]at h
   obtain rfl:=cR h
   obtain⟨h1,h2⟩:=wE hf
   exact⟨by omega,h2⟩
  |none=>
   rw[hf]at h
   cases hc:v7 e T m with
   |none=>rw[hc]at h;cases h
   |some r'=>
    rw[hc]at h
    cases h
    exact⟨by omega,hf,hc⟩
section
variable{m k:Nat}{r:List Nat}(hU:∀i,i<m→Un (T i))(h:first e T m=some (k,r))
include h
theorem XE:way e (yG e k) (e k).1 (e k).2=some r∧xJ e T r (e k).1 zX≠T k:=by
 obtain⟨-,-,hc⟩:=wE h
 unfold v7 at hc
 split at hc
 ·cases hc
 ·next r' b=>
  split at hc
  ·cases hc
  ·next a=>
   cases hc
   exact⟨b,a⟩
include hU
theorem no_turns{τ:Int→Q2}(hu:∀v,Un (τ v)):¬ ∀i∈k::r,τ (e i).2=aft (τ (e i).1) (T i):=by
 intro hτ
 obtain⟨hk,-,-⟩:=wE h
 obtain⟨c,b⟩:=XE h
 have a:∀i∈r,i<m:=fun i hi=>by have:=qo (e:=e) k i ((wm (xk k) c).2 i hi);omega
 have h1:=zdu (T:=T) (τ:=τ) (fun i hi=>⟨hU i (a i hi),hτ i (aN _ hi)⟩) (ZX c)
 have h2:=Yb (e:=e) (T:=T) (bck (τ (e k).1)) r (e k).1 (τ (e k).1)
 rw[vT (hu _),h1,hτ k (aP ..),←yu,vT (hu _),jv]at h2
 exact b h2
theorem zeb{j:Nat}(hj:j∈k::r):∃τ:Int→Q2,(∀v,Un (τ v))∧∀i∈k::r,i≠j→τ (e i).2=aft (τ (e i).1) (T i):=by
 obtain⟨hk,hn,-⟩:=wE h
 obtain⟨s,-⟩:=XE h
 obtain⟨d,b⟩:=wm (xk k) s
 have c:∀i∈r,i<k:=fun i hi=>qo (e:=e) k i (b i hi)
 obtain⟨τ,hτ⟩:=Xr (fun i hi=>hU i Oz) hn
 rcases aL.mp hj with rfl|hj
 ·exact⟨τ,hτ.un,fun i hi a=>hτ.fit i (c i ((aL.mp hi).resolve_left a))⟩
 ·have hjk:j<k:=c j hj
  have n:¬Cn e (r.filter fun i=>i≠j) (e k).1 (e k).2:=by
   intro hc
   obtain⟨r1,r2,rfl⟩:=dZ hj
   have o:∀i∈r1,i∈(r1++j::r2).filter fun i=>i≠j:=fun i hi=>by
    rw[List.mem_filter]
    refine⟨cE _ hi,aH fun f=>?_⟩
    subst f
    exact(List.nodup_append.mp d).2.2 i hi i (aP ..) rfl
   have p:∀i∈r2,i∈(r1++j::r2).filter fun i=>i≠j:=fun i hi=>by
    rw[List.mem_filter]
    refine⟨bE _ (aN _ hi),aH fun f=>?_⟩
    subst f
    exact(List.nodup_cons.mp (List.nodup_append.mp d).2.1).1 hi
   obtain⟨x,h1,h2,h3,u,-⟩:=NB.cut (ZX s)
   have c1:Cn e ((r1++j::r2).filter fun i=>i≠j) (e k).1 x:=⟨r1,h1.re o⟩
   have t:Cn e ((r1++j::r2).filter fun i=>i≠j) (oth e j x) (e k).2:=⟨r2,(u.start).re p⟩
   refine no_cn (xk k) (b j Y8) (t0:=(r1++j::r2).filter fun i=>i≠j) (fun i hi=>?_) (Cn.oth h2 ((t.trans hc.symm).trans c1))
   obtain⟨hi,a⟩:=List.mem_filter.mp hi
   exact⟨b i hi,dE a⟩
  obtain⟨τ',q,g,l⟩:=twist hτ.un (L:=r.filter fun i=>i≠j) (fun i hi=>hτ.fit i (c i (List.mem_filter.mp hi).1)) n (hU k hk)
  refine⟨τ',q,fun i hi a=>?_⟩
  rcases aL.mp hi with rfl|hi
  ·exact l
  ·exact g i (List.mem_filter.mpr ⟨hi,aH a⟩)
end
end
end Go.Proofs.C14
