/- Digits in base 10^9: the digits of a number, the value of digits. -/
/- Digits as they are written one by one; rational numbers: bounds, and how they are made. -/
/- How fractions are brought into lowest terms. -/
/- Walks in a forest that never go back: what a search along the edges finds, and how deep it goes. -/
/- The search for a way along the edges of a forest: it ends, and finds a way where there is one. -/
/- The turns of pieces: what the program and the reference both return. -/
/- The root of a piece: the least one that it hangs together with. -/
/- Turns whose numbers have small denominators; how far the turns along a way go. -/
import Derived.Test.YtocnbjjmmgolfaaGreatA00
namespace Go.Proofs.C14
def dg(n:Nat):List Int:=if h:n=0 then []else((n % 1000000000:Nat):Int)::dg (n / 1000000000)
termination_by n
decreasing_by exact Nat.div_lt_self (Nat.pos_of_ne_zero h) U
def zE:List Int→Nat
  | []=>0
  |x::l=>x.toNat+1000000000*zE l
def Dig(l:List Int):Prop:=∀x∈l,0≤x∧x<1000000000
theorem xb:dg 0=[]:=by rw[dg];simp
theorem dg_pos{n:Nat}(h:n≠0):dg n=((n % 1000000000:Nat):Int)::dg (n / 1000000000):=by rw[dg];simp[h]
theorem dg_small{n:Nat}(h:n≠0)(h2:n<1000000000):dg n=[(n:Int)]:=by
  rw[dg_pos h,Nat.mod_eq_of_lt h2,Nat.div_eq_of_lt h2,xb]
theorem xV(n:Nat):Dig (dg n):=by
  induction n using Nat.strongRecOn with
  |ind n ih=>
    by_cases h:n=0
    · subst h;rw[xb];intro x hx;cases hx
    · rw[dg_pos h]
      intro x hx
      rcases List.mem_cons.mp hx with rfl|hx
      · omega
      · exact ih _ (Nat.div_lt_self O U) x hx
theorem zX(n:Nat):zE (dg n)=n:=by
  induction n using Nat.strongRecOn with
  |ind n ih=>
    by_cases h:n=0
    · subst h;rw[xb];rfl
    · rw[dg_pos h,zE,ih _ (Nat.div_lt_self O U)]
      omega
theorem dg_inj{m n:Nat}(h:dg m=dg n):m=n:=by rw[←zX m,h,zX]
theorem dg_nil{n:Nat}:dg n=[]↔n=0:=by
  constructor
  · intro h;have:=zX n;rw[h]at this;exact this.symm
  · rintro rfl;exact xb
theorem dg_len0{n:Nat}:(dg n).length=0↔n=0:=by rw[List.length_eq_zero_iff,dg_nil]
theorem dg_len:∀(k n:Nat),n<1000000000 ^ k→(dg n).length≤k
  | 0, n, h => by have : n = 0 := by simpa using h
                  subst this;rw[xb];simp
  |k+1,n,h=>by
    by_cases hn:n=0
    · subst hn;rw[xb];simp
    · rw[dg_pos hn]
      have:=dg_len k (n / 1000000000) (by rw[Nat.pow_succ]at h;exact Nat.div_lt_of_lt_mul (by rw[Nat.mul_comm];exact h))
      simp only[List.length_cons]
      omega
theorem yv{n:Nat}(h:n<1000000000000000000):(dg n).length≤2:=dg_len 2 n (by simpa using h)
theorem dval_app(l r:List Int):zE (l++r)=zE l+1000000000 ^ l.length*zE r:=by
  induction l with
  |nil=>simp[zE]
  |cons x l ih=>simp only[List.cons_append,zE,ih,List.length_cons,Nat.pow_succ];rw[Nat.mul_add,←Nat.mul_assoc,Nat.mul_comm 1000000000 (1000000000 ^ l.length)];omega
theorem dval_lt{l:List Int}(h:Dig l):zE l<1000000000 ^ l.length:=by
  induction l with
  |nil=>simp[zE]
  |cons x l ih=>
    have h1:=h x Y8
    have h2:=ih fun y hy=>h y (by simp[hy])
    simp only[zE,List.length_cons,Nat.pow_succ]
    omega
theorem Dig.tail{x:Int}{l:List Int}(h:Dig (x::l)):Dig l:=fun y hy=>h y (by simp[hy])
theorem Dig.app{l r:List Int}(h:Dig l)(h2:Dig r):Dig (l++r):=fun x hx=>(List.mem_append.mp hx).elim (h x) (h2 x)
theorem Dig.nil:Dig []:=fun _ h=>by cases h
theorem Dig.one{x:Int}(h:0≤x)(h2:x<1000000000):Dig [x]:=fun y hy=>by rw[List.mem_singleton.mp hy];exact⟨h,h2⟩
theorem Dig.take{l:List Int}(h:Dig l)(n:Nat):Dig (l.take n):=fun x hx=>h x (List.mem_of_mem_take hx)
theorem Dig.at{l:List Int}(h:Dig l)(k:Nat):0≤l.getD k 0∧l.getD k 0<1000000000:=by
  rw[List.getD_eq_getElem?_getD]
  by_cases hk:k<l.length
  · rw[List.getElem?_eq_getElem hk];exact h _ (List.getElem_mem hk)
  · rw[List.getElem?_eq_none O];simp
def nlen(l:List Int):Nat→Nat
  |0=>0
  |n+1=>if l.getD n 0=0 then nlen l n else n+1
theorem nlen_le(l:List Int):∀n,nlen l n≤n
  |0=>Nat.le_refl _
  |n+1=>by simp only[nlen];split;{have:=nlen_le l n;omega};{omega}
theorem dg_dval:∀{l:List Int},Dig l→(l=[]∨l.getD (l.length-1) 0≠0)→dg (zE l)=l
  | [],_,_=>xb
  |x::l,h,h2=>by
    have hx:=h x Y8
    rcases h2 with h2|h2
    · cases h2
    · have hl:l=[]∨l.getD (l.length-1) 0≠0:=by
        cases l with
        |nil=>exact .inl rfl
        |cons y l=>exact .inr (by simpa using h2)
      have ih:=dg_dval h.tail hl
      have hv:zE (x::l)≠0:=by
        cases l with
        |nil=>simp at h2;simp only[zE];omega
        |cons y l=>
          intro h0
          have:zE (y::l)=0:=by simp only[zE]at h0 ⊢;omega
          rw[this,xb]at ih
          cases ih
      rw[dg_pos hv,zE]
      have e1:(x.toNat+1000000000*zE l) % 1000000000=x.toNat:=by omega
      have e2:(x.toNat+1000000000*zE l) / 1000000000=zE l:=by omega
      rw[e1,e2,ih]
      congr 1
      omega
theorem dval_take0{l:List Int}{n:Nat}(hn:n<l.length)(h:l.getD n 0=0):zE (l.take (n+1))=zE (l.take n):=by
  rw[List.take_succ_eq_append_getElem hn,dval_app]
  rw[List.getD_eq_getElem?_getD,List.getElem?_eq_getElem hn]at h
  simp only[Option.getD_some]at h
  rw[h]
  simp[zE]
theorem nlen_val{l:List Int}:∀n,n≤l.length→zE (l.take (nlen l n))=zE (l.take n)
  |0,_=>rfl
  |n+1,h=>by
    simp only[nlen]
    split
    · next h0=>rw[nlen_val n O,dval_take0 O h0]
    · rfl
theorem nlen_last{l:List Int}:∀n,n≤l.length→l.take (nlen l n)=[]∨(l.take (nlen l n)).getD ((l.take (nlen l n)).length-1) 0≠0
  |0,_=>.inl rfl
  |n+1,h=>by
    simp only[nlen]
    split
    · exact nlen_last n O
    · next h0=>
      right
      have e:(l.take (n+1)).length-1=n:=by simp;omega
      rw[e,List.getD_eq_getElem?_getD,List.getElem?_take,if_pos O,←List.getD_eq_getElem?_getD]
      exact h0
theorem take_nlen{l:List Int}(h:Dig l):l.take (nlen l l.length)=dg (zE l):=by
  rw[←dg_dval (h.take _) (nlen_last _ Z3),nlen_val _ Z3,List.take_length]
theorem nlen_eq{l:List Int}(h:Dig l):nlen l l.length=(dg (zE l)).length:=by
  rw[←take_nlen h,List.length_take]
  have:=nlen_le l l.length
  omega
theorem nlen0{l:List Int}(h:Dig l):nlen l l.length=0↔zE l=0:=by rw[nlen_eq h,dg_len0]
def cmpD(la lb:List Int):Nat→Int
  |0=>0
  |n+1=>if la.getD n 0<lb.getD n 0 then -1 else if lb.getD n 0<la.getD n 0 then 1 else cmpD la lb n
def cmpZ(la lb:List Int):Int:=if la.length<lb.length then -1 else if lb.length<la.length then 1 else cmpD la lb la.length
def cmpN(m n:Nat):Int:=if m<n then -1 else if n<m then 1 else 0
def zV(m n:Int):Int:=if m<n then -1 else if n<m then 1 else 0
theorem dval_last{l:List Int}{n:Nat}(hn:n<l.length):zE (l.take (n+1))=zE (l.take n)+1000000000 ^ n*(l.getD n 0).toNat:=by
  rw[List.take_succ_eq_append_getElem hn,dval_app,List.getD_eq_getElem?_getD,List.getElem?_eq_getElem hn]
  have:(l.take n).length=n:=by simp;omega
  rw[this]
  simp[zE]
theorem cmpD_val{la lb:List Int}(ha:Dig la)(hb:Dig lb):∀n,n≤la.length→n≤lb.length→cmpD la lb n=cmpN (zE (la.take n)) (zE (lb.take n))
  |0,_,_=>by simp[cmpD,cmpN,zE]
  |n+1,h1,h2=>by
    simp only[cmpD]
    rw[dval_last O,dval_last O]
    have l1:=dval_lt (ha.take n)
    have l2:=dval_lt (hb.take n)
    have e1:(la.take n).length=n:=by simp;omega
    have e2:(lb.take n).length=n:=by simp;omega
    rw[e1]at l1
    rw[e2]at l2
    have d1:=ha.at n
    have d2:=hb.at n
    generalize la.getD n 0=x at *
    generalize lb.getD n 0=y at *
    generalize hA:zE (la.take n)=A at *
    generalize hB:zE (lb.take n)=B at *
    generalize hP:1000000000 ^ n=P at *
    have ih:=cmpD_val ha hb n O O
    rw[hA,hB]at ih
    have key:∀{A B P:Nat} {x y:Int},0≤x→A<P→x<y→A+P*x.toNat<B+P*y.toNat:=by
      intro A B P x y h0 h1 h2
      have h3:P*(x.toNat+1)≤P*y.toNat:=Nat.mul_le_mul_left _ O
      rw[Nat.mul_add,Nat.mul_one]at h3
      omega
    by_cases hxy:x<y
    · rw[if_pos hxy,cmpN,if_pos (key d1.1 l1 hxy)]
    · rw[if_neg hxy]
      by_cases hyx:y<x
      · have:=key (A:=B) (B:=A) (P:=P) d2.1 l2 hyx
        rw[if_pos hyx,cmpN,if_neg O,if_pos this]
      · have e:x=y:=by omega
        subst e
        rw[if_neg hyx,ih]
        simp only[cmpN,Nat.add_lt_add_iff_right]
theorem dg_len_lt{m n:Nat}(h:(dg m).length<(dg n).length):m<n:=by
  apply Decidable.byContradiction
  intro hn
  have h1:=dval_lt (xV n)
  have:∀k n,(dg n).length=k+1→1000000000 ^ k≤n:=by
    intro k
    induction k with
    |zero=>
      intro n hk
      have h0:n≠0:=fun h0=>by rw[h0,xb]at hk;simp at hk
      rw[Nat.pow_zero]
      omega
    |succ k ih=>
      intro n hk
      have hn:n≠0:=fun h0=>by rw[h0,xb]at hk;simp at hk
      rw[dg_pos hn,List.length_cons]at hk
      rw[Nat.pow_succ]
      have:=Nat.div_add_mod n 1000000000
      have:=Nat.mul_le_mul_right 1000000000 (ih (n / 1000000000) O)
      omega
  obtain⟨k,hk⟩:∃k,(dg n).length=k+1:=⟨(dg n).length-1,by omega⟩
  have h2:=this k n hk
  have h3:=dval_lt (xV m)
  rw[zX]at h3
  have h4:1000000000 ^ (dg m).length≤1000000000 ^ k:=Nat.pow_le_pow_right U O
  omega
theorem cmpZ_dg(m n:Nat):cmpZ (dg m) (dg n)=cmpN m n:=by
  unfold cmpZ
  by_cases h1:(dg m).length<(dg n).length
  · rw[if_pos h1,cmpN,if_pos (dg_len_lt h1)]
  · rw[if_neg h1]
    by_cases h2:(dg n).length<(dg m).length
    · have:=dg_len_lt h2
      rw[if_pos h2,cmpN,if_neg O,if_pos this]
    · rw[if_neg h2,cmpD_val (xV m) (xV n) _ Z3 O,List.take_length,show(dg m).length=(dg n).length by omega,List.take_length,zX,zX]
end Go.Proofs.C14
namespace Go.Proofs.C14
def dv:List Int→Int
 | []=>0
 |x::l=>x+1000000000*dv l
theorem dv_app(l r:List Int):dv (l++r)=dv l+1000000000 ^ l.length*dv r:=by
 induction l with
 |nil=>simp[dv]
 |cons x l ih=>
  simp only[List.cons_append,dv,ih,List.length_cons,Int.pow_succ]
  rw[Int.mul_add,←Int.mul_assoc,Int.mul_comm 1000000000 (1000000000 ^ l.length)]
  omega
theorem yW{l:List Int}(h:Dig l):dv l=(zE l:Int):=by
 induction l with
 |nil=>rfl
 |cons x l ih=>
  have:=h x Y8
  rw[dv,zE,ih h.tail]
  omega
theorem dv_take_succ{l:List Int}{n:Nat}(hn:n<l.length):dv (l.take (n+1))=dv (l.take n)+1000000000 ^ n*l.getD n 0:=by
 rw[List.take_succ_eq_append_getElem hn,dv_app,List.getD_eq_getElem?_getD,List.getElem?_eq_getElem hn]
 have:(l.take n).length=n:=by simp;omega
 rw[this]
 simp[dv]
theorem zL(l:List Int)(n:Nat):dv (l.take (n+1))=dv (l.take n)+1000000000 ^ n*l.getD n 0:=by
 by_cases hn:n<l.length
 ·exact dv_take_succ hn
 ·rw[List.take_of_length_le O,List.take_of_length_le O,List.getD_eq_getElem?_getD,List.getElem?_eq_none O]
  simp
theorem y7{l:List Int}{n:Nat}(h:l.length≤n):dv (l.take n)=dv l:=by rw[List.take_of_length_le h]
theorem dv_set{l:List Int}:∀{k:Nat} {x:Int},k<l.length→dv (l.set k x)=dv l+1000000000 ^ k*(x-l.getD k 0):=by
 induction l with
 |nil=>intro k x h;simp at h
 |cons y l ih=>
  intro k x h
  cases k with
  |zero=>simp only[List.set_cons_zero,dv,List.getD_cons_zero,Int.pow_zero];omega
  |succ k=>
   simp only[List.set_cons_succ,dv,List.getD_cons_succ,ih (by simpa using h:k<l.length),Int.pow_succ]
   rw[Int.mul_add,←Int.mul_assoc,Int.mul_comm 1000000000 (1000000000 ^ k)]
   omega
theorem dv_snoc(l:List Int)(x:Int):dv (l++[x])=dv l+1000000000 ^ l.length*x:=by rw[dv_app];simp[dv]
theorem dv_zeros(n:Nat):dv (List.replicate n 0)=0:=by
 induction n with
 |zero=>rfl
 |succ n ih=>rw[List.replicate_succ,dv,ih];rfl
theorem dig_zeros(n:Nat):Dig (List.replicate n 0):=fun x hx=>by rw[(List.mem_replicate.mp hx).2];decide
theorem Dig.set{l:List Int}(h:Dig l){k:Nat}{x:Int}(h0:0≤x)(h1:x<1000000000):Dig (l.set k x):=fun y hy=>
 (List.mem_or_eq_of_mem_set hy).elim (h y) fun e=>by rw[e];exact⟨h0,h1⟩
theorem dv_lt{l:List Int}(h:Dig l):dv l<1000000000 ^ l.length:=by
 rw[yW h]
 have:=Int.ofNat_lt.mpr (dval_lt h)
 rw[Int.natCast_pow]at this
 exact this
theorem powB(n:Nat):(0:Int)<1000000000 ^ n:=Int.pow_pos U
theorem step_sum{P A S c x w:Int}(h:A+P*c=S)(hw:w=x+c):(A+P*(w % 1000000000))+P*1000000000*(w / 1000000000)=S+P*x:=by
 have e:P*1000000000*(w / 1000000000)=P*(1000000000*(w / 1000000000)):=by rw[Int.mul_assoc]
 have e2:=Int.mul_ediv_add_emod w 1000000000
 have e3:P*(w % 1000000000)+P*(1000000000*(w / 1000000000))=P*w:=by rw[←Int.mul_add];congr 1;omega
 have e4:P*w=P*x+P*c:=by rw[hw,Int.mul_add]
 omega
def Bd(q:Rat)(N D:Nat):Prop:=q.num.natAbs≤N∧q.den≤D
theorem Bd.le{q:Rat}{N D N' D':Nat}(h:Bd q N D)(h1:N≤N')(h2:D≤D'):Bd q N' D':=⟨Nat.le_trans h.1 h1,Nat.le_trans h.2 h2⟩
theorem bd_mkRat{n:Int}{d:Nat}:Bd (mkRat n d) n.natAbs (max d 1):=by
 constructor
 ·rw[Rat.num_mkRat]
  split
  ·simp
  ·exact Nat.le_trans (Int.natAbs_ediv_le_natAbs _ _) Z3
 ·rw[Rat.den_mkRat]
  split
  ·omega
  ·exact Nat.le_trans (Nat.div_le_self _ _) O
end Go.Proofs.C14
namespace Go.Proofs.C14
theorem gcd_pos{p q:Int}(hq:q≠0):0<Nat.gcd p.natAbs q.natAbs:=Nat.gcd_pos_of_pos_right _ O
theorem sign_mul_ediv{p q:Int}(hq:q≠0):(Rat.divInt p q).num=if q<0 then -(p / (Nat.gcd p.natAbs q.natAbs:Int))else p / (Nat.gcd p.natAbs q.natAbs:Int):=by
 rw[Rat.num_divInt]
 have e:Int.gcd q p=Nat.gcd p.natAbs q.natAbs:=by rw[Int.gcd,Nat.gcd_comm]
 rw[e]
 have hd:((Nat.gcd p.natAbs q.natAbs:Nat):Int)∣p:=Int.ofNat_dvd_left.mpr (Nat.gcd_dvd_left _ _)
 by_cases h:q<0
 ·rw[if_pos h,Int.sign_eq_neg_one_of_neg h,Int.neg_one_mul,Int.neg_ediv_of_dvd hd]
 ·rw[if_neg h,Int.sign_eq_one_of_pos O,Int.one_mul]
theorem den_ediv{p q:Int}(hq:q≠0):((Rat.divInt p q).den:Int)=if q<0 then -(q / (Nat.gcd p.natAbs q.natAbs:Int))else q / (Nat.gcd p.natAbs q.natAbs:Int):=by
 rw[Rat.den_divInt,if_neg hq]
 have e:Int.gcd q p=Nat.gcd p.natAbs q.natAbs:=by rw[Int.gcd,Nat.gcd_comm]
 rw[e]
 have hd:((Nat.gcd p.natAbs q.natAbs:Nat):Int)∣q:=Int.ofNat_dvd_left.mpr (Nat.gcd_dvd_right _ _)
 by_cases h:q<0
 ·rw[if_pos h,←Int.neg_ediv_of_dvd hd,Int.natCast_ediv]
  congr 1
  omega
 ·rw[if_neg h,Int.natCast_ediv]
  congr 1
  omega
theorem ediv_neg_iff{p q:Int}(hq:q≠0):q / (Nat.gcd p.natAbs q.natAbs:Int)<0↔q<0:=by
 have hg:=gcd_pos (p:=p) hq
 constructor
 ·intro h
  apply Decidable.byContradiction
  intro h2
  have:=Int.ediv_nonneg (a:=q) (b:=(Nat.gcd p.natAbs q.natAbs:Int)) O O
  omega
 ·intro h
  exact Int.ediv_neg_of_neg_of_pos h O
theorem lowest_terms{N:Int}{D:Nat}(hD:D≠0)(h:N.natAbs.Coprime D):(mkRat N D).num=N∧(mkRat N D).den=D:=by
 have:mkRat N D=⟨N,D,hD,h⟩:=(Rat.mk_eq_mkRat N D hD h).symm
 rw[this]
 exact⟨rfl,rfl⟩
theorem mul_across(a b:Rat):(a*b).num=(mkRat a.num b.den).num*(mkRat b.num a.den).num∧(a*b).den=(mkRat a.num b.den).den*(mkRat b.num a.den).den:=by
 have e:a*b=mkRat ((mkRat a.num b.den).num*(mkRat b.num a.den).num) ((mkRat a.num b.den).den*(mkRat b.num a.den).den):=by
  rw[←Rat.mul_def',Rat.mkRat_mul_mkRat,Rat.mul_def',Nat.mul_comm b.den a.den]
 have hx:(mkRat a.num b.den).num.natAbs∣a.num.natAbs:=by
  rw[Rat.num_mkRat,if_neg b.den_nz,Int.natAbs_ediv_of_dvd (Int.ofNat_dvd_left.mpr (Nat.gcd_dvd_right _ _)),Int.natAbs_natCast]
  exact Nat.div_dvd_of_dvd (Nat.gcd_dvd_right _ _)
 have hy:(mkRat b.num a.den).num.natAbs∣b.num.natAbs:=by
  rw[Rat.num_mkRat,if_neg a.den_nz,Int.natAbs_ediv_of_dvd (Int.ofNat_dvd_left.mpr (Nat.gcd_dvd_right _ _)),Int.natAbs_natCast]
  exact Nat.div_dvd_of_dvd (Nat.gcd_dvd_right _ _)
 have dx:(mkRat a.num b.den).den∣b.den:=by
  rw[Rat.den_mkRat,if_neg b.den_nz];exact Nat.div_dvd_of_dvd (Nat.gcd_dvd_left _ _)
 have dy:(mkRat b.num a.den).den∣a.den:=by
  rw[Rat.den_mkRat,if_neg a.den_nz];exact Nat.div_dvd_of_dvd (Nat.gcd_dvd_left _ _)
 have c:((mkRat a.num b.den).num*(mkRat b.num a.den).num).natAbs.Coprime ((mkRat a.num b.den).den*(mkRat b.num a.den).den):=by
  rw[Int.natAbs_mul]
  refine Nat.Coprime.mul_left (Nat.Coprime.mul_right (mkRat a.num b.den).reduced ?_) (Nat.Coprime.mul_right ?_ (mkRat b.num a.den).reduced)
  ·exact Nat.Coprime.coprime_dvd_left hx (Nat.Coprime.coprime_dvd_right dy a.reduced)
  ·exact Nat.Coprime.coprime_dvd_left hy (Nat.Coprime.coprime_dvd_right dx b.reduced)
 have hD:(mkRat a.num b.den).den*(mkRat b.num a.den).den≠0:=Nat.mul_ne_zero (mkRat a.num b.den).den_nz (mkRat b.num a.den).den_nz
 have:=lowest_terms hD c
 rw[e]
 exact this
theorem add_int{a b:Rat}(ha:a.den=1)(hb:b.den=1):(a+b).num=a.num+b.num∧(a+b).den=1:=by
 have e:a+b=mkRat (a.num+b.num) 1:=by rw[Rat.add_def',ha,hb];simp
 rw[e]
 exact lowest_terms U (Nat.coprime_one_right _)
theorem mul_int{a b:Rat}(ha:a.den=1)(hb:b.den=1):(a*b).num=a.num*b.num∧(a*b).den=1:=by
 have e:a*b=mkRat (a.num*b.num) 1:=by rw[Rat.mul_def',ha,hb]
 rw[e]
 exact lowest_terms U (Nat.coprime_one_right _)
def cmpQ(a b:Rat):Int:=if a<b then -1 else if b<a then 1 else 0
theorem cmpQ_eq(a b:Rat):zV (a.num*b.den) (b.num*a.den)=cmpQ a b:=by
 unfold zV cmpQ
 simp only[Rat.lt_iff]
end Go.Proofs.C14
namespace Go.Proofs.C14
section
variable(e:Nat→Int×Int)
def Inc(k:Nat)(v:Int):Prop:=(e k).1=v∨(e k).2=v
instance (k:Nat)(v:Int):Decidable (Inc e k v):=inferInstanceAs (Decidable (_∨_))
def oth(k:Nat)(v:Int):Int:=(e k).1+(e k).2-v
def NB(tree:List Nat):Int→Int→List Nat→Int→Prop
 |v,_,[],w=>v=w
 |v,last,k::r,w=>k∈tree∧(k:Int)≠last∧Inc e k v∧NB tree (oth e k v) k r w
def Fo(tree:List Nat):Prop:=∀v last r,NB e tree v last r v→r=[]
variable{e}
theorem oth_inc{k:Nat}{v:Int}(h:Inc e k v):Inc e k (oth e k v):=by
 unfold Inc oth at *;omega
theorem oth_oth{k:Nat}{v:Int}:oth e k (oth e k v)=v:=by unfold oth;omega
theorem inc_two{k:Nat}{v w:Int}(h:Inc e k v)(h2:Inc e k w):w=v∨w=oth e k v:=by
 unfold Inc oth at *;omega
theorem NB.last{tree:List Nat}{v l1 l2:Int}{r:List Nat}{w:Int}(h:NB e tree v l1 r w)(hl:∀k,k∈tree→(k:Int)≠l2):NB e tree v l2 r w:=by
 cases r with
 |nil=>exact h
 |cons k r=>exact⟨h.1,hl k h.1,h.2.2.1,h.2.2.2⟩
theorem NB.start{tree:List Nat}{v l1:Int}{r:List Nat}{w:Int}(h:NB e tree v l1 r w):NB e tree v (-1) r w:=h.last fun k _=>by omega
theorem NB.mono{t1 t2:List Nat}(hs:∀k∈t1,k∈t2):∀{r:List Nat} {v l w:Int},NB e t1 v l r w→NB e t2 v l r w
 | [],_,_,_,h=>h
 |_::_,_,_,_,h=>⟨hs _ h.1,h.2.1,h.2.2.1,NB.mono hs h.2.2.2⟩
theorem NB.cut{tree:List Nat}:∀{r1:List Nat} {v l w:Int} {k:Nat} {r2:List Nat},NB e tree v l (r1++k::r2) w →
  ∃x,NB e tree v l r1 x∧Inc e k x∧k∈tree∧NB e tree (oth e k x) k r2 w∧(r1=[]→(k:Int)≠l)
 | [],v,l,w,k,r2,h=>⟨v,rfl,h.2.2.1,h.1,h.2.2.2,fun _=>h.2.1⟩
 |j::r1,v,l,w,k,r2,h=>by
  obtain⟨x,h1,h2,h3,h4,_⟩:=NB.cut (r1:=r1) h.2.2.2
  exact⟨x,⟨h.1,h.2.1,h.2.2.1,h1⟩,h2,h3,h4,fun h0=>by cases h0⟩
theorem Fo.nodup{tree:List Nat}(hF:Fo e tree):∀{r:List Nat} {v l w:Int},NB e tree v l r w→r.Nodup
 | [],_,_,_,_=>List.nodup_nil
 |k::r,v,l,w,h=>by
  refine List.nodup_cons.mpr ⟨fun hk=>?_,Fo.nodup hF h.2.2.2⟩
  obtain⟨r1,r2,hr⟩:=List.append_of_mem hk
  have h2:=h.2.2.2
  rw[hr]at h2
  obtain⟨x,hx1,hx2,_,_,hx5⟩:=NB.cut h2
  rcases inc_two h.2.2.1 hx2 with hx|hx
  ·subst hx
   have:=hF x l (k::r1) ⟨h.1,h.2.1,h.2.2.1,hx1⟩
   cases this
  ·subst hx
   have:=hF _ _ r1 hx1
   subst this
   exact hx5 rfl rfl
theorem len_sub:∀{r t:List Nat},r.Nodup→(∀k∈r,k∈t)→r.length≤t.length
 | [],_,_,_=>Nat.zero_le _
 |k::r,t,h,hs=>by
  obtain⟨t1,t2,ht⟩:=List.append_of_mem (hs k Y8)
  obtain⟨hk,hn⟩:=List.nodup_cons.mp h
  have:r.length≤(t1++t2).length:=len_sub hn fun j hj=>by
   have h1:=hs j (by simp[hj])
   rw[ht]at h1
   rcases List.mem_append.mp h1 with h1|h1
   ·exact List.mem_append_left _ h1
   ·rcases List.mem_cons.mp h1 with h1|h1
    ·subst h1;exact(hk hj).elim
    ·exact List.mem_append_right _ h1
  rw[ht]
  simp only[List.length_append,List.length_cons]at this ⊢
  omega
theorem NB.mem{tree:List Nat}:∀{r:List Nat} {v l w:Int},NB e tree v l r w→∀k∈r,k∈tree
 | [],_,_,_,_,k,hk=>by cases hk
 |j::r,_,_,_,h,k,hk=>by
  rcases List.mem_cons.mp hk with hk|hk
  ·subst hk;exact h.1
  ·exact NB.mem h.2.2.2 k hk
theorem Fo.short{tree:List Nat}(hF:Fo e tree){r:List Nat}{v l w:Int}(h:NB e tree v l r w):r.length≤tree.length:=len_sub (hF.nodup h) h.mem
theorem NB.snoc{tree:List Nat}:∀{r:List Nat} {v l w:Int} {k:Nat},NB e tree v l r w→k∈tree→Inc e k w→(∀j,r.getLast? = some j→j≠k)→(r=[]→(k:Int)≠l)→NB e tree v l (r++[k]) (oth e k w)
 | [],v,l,w,k,h,hk,hi,_,hl=>by
  have:v=w:=h
  subst this
  exact⟨hk,hl rfl,hi,rfl⟩
 |j::r,v,l,w,k,h,hk,hi,hj,_=>by
  refine⟨h.1,h.2.1,h.2.2.1,NB.snoc (r:=r) h.2.2.2 hk hi (fun i hr=>hj i ?_) (fun hr=>?_)⟩
  ·cases r with
   |nil=>cases hr
   |cons a r=>simpa[List.getLast?_cons_cons]using hr
  ·subst hr
   have:=hj j Y8
   omega
theorem NB.reverse{tree:List Nat}:∀{r:List Nat} {v l w:Int},NB e tree v l r w→NB e tree w (-1) r.reverse v
 | [],v,l,w,h=>h.symm
 |k::r,v,l,w,h=>by
  rw[List.reverse_cons]
  have h1:=NB.reverse h.2.2.2
  have h2:=NB.snoc (k:=k) h1 h.1 (oth_inc h.2.2.1) (fun j hj=>?_) (fun _=>by omega)
  ·rwa[oth_oth]at h2
  ·rw[List.getLast?_reverse]at hj
   cases r with
   |nil=>cases hj
   |cons a r=>
    have:a=j:=by simpa using hj
    subst this
    have:=h.2.2.2.2.1
    omega
def Cn(e:Nat→Int×Int)(tree:List Nat)(v w:Int):Prop:=∃r,NB e tree v (-1) r w
theorem Cn.refl{tree:List Nat}{v:Int}:Cn e tree v v:=⟨[],rfl⟩
theorem Cn.symm{tree:List Nat}{v w:Int}(h:Cn e tree v w):Cn e tree w v:=by obtain⟨r,h⟩:=h;exact⟨_,h.reverse⟩
theorem NB.trans{tree:List Nat}:∀(r:List Nat) {v w x:Int} {s:List Nat},NB e tree v (-1) r w→NB e tree w (-1) s x→Cn e tree v x:=by
 intro r
 induction hn:r.length generalizing r with
 |zero=>
  intro v w x s h1 h2
  have:r=[]:=List.length_eq_zero_iff.mp hn
  subst this
  have:v=w:=h1
  subst this
  exact⟨s,h2⟩
 |succ n ih=>
  intro v w x s h1 h2
  obtain⟨r',k,rfl⟩:∃r' k,r=r'++[k]:=by
   rcases List.eq_nil_or_concat r with h|⟨r',k,h⟩
   ·subst h;simp at hn
   ·exact⟨r',k,by simpa using h⟩
  obtain⟨y,hy1,hy2,hy3,hy4,_⟩:=NB.cut (r2:=[]) h1
  have hw:oth e k y=w:=hy4
  have hlen:r'.length=n:=by simpa using hn
  cases s with
  |nil=>
   have:w=x:=h2
   subst this
   exact⟨_,h1⟩
  |cons j s=>
   by_cases hjk:j=k
   ·subst hjk
    have h3:=h2.2.2.2
    rw[←hw,oth_oth]at h3
    exact ih r' hlen hy1 h3.start
   ·have h3:NB e tree y (-1) (k::j::s) x:=⟨hy3,by omega,hy2,by rw[hw];exact⟨h2.1,by omega,h2.2.2.1,h2.2.2.2⟩⟩
    exact ih r' hlen hy1 h3
theorem Cn.trans{tree:List Nat}{v w x:Int}(h1:Cn e tree v w)(h2:Cn e tree w x):Cn e tree v x:=by
 obtain⟨r,h1⟩:=h1
 obtain⟨s,h2⟩:=h2
 exact NB.trans r h1 h2
theorem Cn.mono{t1 t2:List Nat}(hs:∀k∈t1,k∈t2){v w:Int}(h:Cn e t1 v w):Cn e t2 v w:=by obtain⟨r,h⟩:=h;exact⟨r,h.mono hs⟩
theorem NB.split{tree:List Nat}{k:Nat}:∀{r:List Nat} {v l w:Int},NB e (tree++[k]) v l r w →
  NB e tree v l r w∨∃r1 r2 x,r=r1++k::r2∧NB e tree v l r1 x∧Inc e k x∧NB e (tree++[k]) (oth e k x) k r2 w∧(r1=[]→(k:Int)≠l)
 | [],v,l,w,h=>.inl h
 |j::r,v,l,w,h=>by
  by_cases hj:j=k
  ·subst hj
   exact .inr ⟨[],r,v,rfl,rfl,h.2.2.1,h.2.2.2,fun _=>h.2.1⟩
  ·have hm:j∈tree:=by
    rcases List.mem_append.mp h.1 with h1|h1
    ·exact h1
    ·exact(hj (List.mem_singleton.mp h1)).elim
   rcases NB.split h.2.2.2 with h1|⟨r1,r2,x,h1,h2,h3,h4,_⟩
   ·exact .inl ⟨hm,h.2.1,h.2.2.1,h1⟩
   ·exact .inr ⟨j::r1,r2,x,by rw[h1];rfl,⟨hm,h.2.1,h.2.2.1,h2⟩,h3,h4,fun h0=>by cases h0⟩
theorem NB.once{tree:List Nat}(hF:Fo e tree){k:Nat}(hn:¬Cn e tree (e k).1 (e k).2){x:Int}(hx:Inc e k x){r:List Nat}{w:Int}(h:NB e (tree++[k]) (oth e k x) k r w):NB e tree (oth e k x) k r w:=by
 rcases NB.split h with h|⟨r1,r2,z,_,h2,h3,_,h5⟩
 ·exact h
 ·exfalso
  rcases inc_two (oth_inc hx) h3 with hz|hz
  ·subst hz
   have:=hF _ _ _ h2
   exact h5 this rfl
  ·rw[oth_oth]at hz
   subst hz
   have hc:Cn e tree (oth e k z) z:=⟨_,h2.start⟩
   apply hn
   rcases hx with hx|hx
   ·have:oth e k z=(e k).2:=by unfold oth;omega
    rw[this]at hc
    rw[←hx]at hc
    exact hc.symm
   ·have:oth e k z=(e k).1:=by unfold oth;omega
    rw[this]at hc
    rw[←hx]at hc
    exact hc
theorem Cn.oth{tree:List Nat}{k:Nat}{x:Int}(hx:Inc e k x)(h:Cn e tree (oth e k x) x):Cn e tree (e k).1 (e k).2:=by
 rcases hx with hx|hx
 ·have:C14.oth e k x=(e k).2:=by unfold C14.oth;omega
  rw[this,←hx]at h
  exact h.symm
 ·have:C14.oth e k x=(e k).1:=by unfold C14.oth;omega
  rw[this,←hx]at h
  exact h
theorem Fo.add{tree:List Nat}(hF:Fo e tree){k:Nat}(hn:¬Cn e tree (e k).1 (e k).2):Fo e (tree++[k]):=by
 intro v l r h
 rcases NB.split h with h1|⟨r1,r2,x,h1,h2,h3,h4,_⟩
 ·exact hF _ _ _ h1
 ·exfalso
  have h5:=NB.once hF hn h3 h4
  exact hn (Cn.oth h3 (Cn.trans ⟨_,h5.start⟩ ⟨_,h2.start⟩))
theorem Fo.nil:Fo e []:=by
 intro v l r h
 cases r with
 |nil=>rfl
 |cons k r=>exact absurd h.1 Y8
theorem Cn.add{tree:List Nat}(hF:Fo e tree){k:Nat}(hn:¬Cn e tree (e k).1 (e k).2){v w:Int}:Cn e (tree++[k]) v w ↔
  Cn e tree v w∨(Cn e tree v (e k).1∧Cn e tree (e k).2 w)∨(Cn e tree v (e k).2∧Cn e tree (e k).1 w):=by
 constructor
 ·rintro⟨r,h⟩
  rcases NB.split h with h1|⟨r1,r2,x,h1,h2,h3,h4,_⟩
  ·exact .inl ⟨r,h1⟩
  ·have h5:=NB.once hF hn h3 h4
   right
   rcases h3 with hx|hx
   ·left
    have:C14.oth e k x=(e k).2:=by unfold C14.oth;omega
    rw[this]at h5
    rw[hx]
    exact⟨⟨_,h2⟩,⟨_,h5.start⟩⟩
   ·right
    have:C14.oth e k x=(e k).1:=by unfold C14.oth;omega
    rw[this]at h5
    rw[hx]
    exact⟨⟨_,h2⟩,⟨_,h5.start⟩⟩
 ·have hm:∀j∈tree,j∈tree++[k]:=fun j hj=>List.mem_append_left _ hj
  have hk:Cn e (tree++[k]) (e k).1 (e k).2:=⟨[k],by simp,by omega,.inl rfl,by show _=_;unfold C14.oth;omega⟩
  rintro(h|⟨h1,h2⟩|⟨h1,h2⟩)
  ·exact h.mono hm
  ·exact((h1.mono hm).trans hk).trans (h2.mono hm)
  ·exact((h1.mono hm).trans hk.symm).trans (h2.mono hm)
end
end Go.Proofs.C14
namespace Go.Proofs.C14
section
variable(e:Nat→Int×Int)
def dfs(tree:List Nat):Nat→Int→Int→Int→Option (List Nat)
 |0,_,_,_=>none
 |f+1,v,w,l=>if v=w then some []else
  tree.findSome? fun(k:Nat)=>if (k:Int)=l∨¬Inc e k v then none else(dfs tree f (oth e k v) w k).map (k::·)
def Tm(tree:List Nat):Nat→Int→Int→Prop
 |0,_,_=>False
 |f+1,v,l=>∀k∈tree,(k:Int)≠l→Inc e k v→Tm tree f (oth e k v) k
variable{e}
theorem findSome_congr{α β:Type}{f g:α→Option β}:∀{l:List α},(∀a∈l,f a=g a)→l.findSome? f=l.findSome? g
 | [],_=>rfl
 |a::l,h=>by
  rw[List.findSome?_cons,List.findSome?_cons,h a Y8,findSome_congr (l:=l) fun b hb=>h b (by simp[hb])]
theorem Tm.up{tree:List Nat}:∀{f:Nat} {v l:Int},Tm e tree f v l→Tm e tree (f+1) v l
 |0,_,_,h=>h.elim
 |_+1,_,_,h=>fun k hk hl hi=>Tm.up (h k hk hl hi)
theorem Tm.le{tree:List Nat}{f g:Nat}(hfg:f≤g){v l:Int}(h:Tm e tree f v l):Tm e tree g v l:=by
 induction hfg with
 |refl=>exact h
 |step _ ih=>exact ih.up
theorem dfs_up{tree:List Nat}:∀{f:Nat} {v w l:Int},Tm e tree f v l→dfs e tree (f+1) v w l=dfs e tree f v w l
 |0,_,_,_,h=>h.elim
 |f+1,v,w,l,h=>by
  rw[dfs,dfs]
  split
  ·rfl
  ·refine findSome_congr fun k hk=>?_
   split
   ·rfl
   ·next hc=>
    have h1:(k:Int)≠l:=fun h0=>hc (.inl h0)
    have h2:Inc e k v:=Decidable.byContradiction fun h0=>hc (.inr h0)
    rw[dfs_up (h k hk h1 h2)]
theorem dfs_le{tree:List Nat}{f g:Nat}(hfg:f≤g){v w l:Int}(h:Tm e tree f v l):dfs e tree g v w l=dfs e tree f v w l:=by
 induction hfg with
 |refl=>rfl
 |step hm ih=>rw[dfs_up (h.le hm),ih]
theorem dfs_nb{tree:List Nat}:∀{f:Nat} {v w l:Int} {r:List Nat},dfs e tree f v w l=some r→NB e tree v l r w
 |0,_,_,_,_,h=>by cases h
 |f+1,v,w,l,r,h=>by
  rw[dfs]at h
  split at h
  ·next hv=>cases h;exact hv
  ·obtain⟨k,hk,hs⟩:=List.exists_of_findSome?_eq_some h
   split at hs
   ·cases hs
   ·next hc=>
    cases hd:dfs e tree f (oth e k v) w k with
    |none=>rw[hd]at hs;cases hs
    |some r'=>
     rw[hd]at hs
     cases hs
     exact⟨hk,fun h0=>hc (.inl h0),Decidable.byContradiction fun h0=>hc (.inr h0),dfs_nb hd⟩
theorem dfs_some{tree:List Nat}:∀{r:List Nat} {f:Nat} {v w l:Int},NB e tree v l r w→r.length<f→(dfs e tree f v w l).isSome
 |r,0,_,_,_,_,h=>by omega
 | [],f+1,v,w,l,h,_=>by
  have:v=w:=h
  rw[dfs,if_pos this]
  rfl
 |k::r,f+1,v,w,l,h,hl=>by
  rw[dfs]
  split
  ·rfl
  ·rw[List.findSome?_isSome_iff]
   refine⟨k,h.1,?_⟩
   rw[if_neg (fun h0=>h0.elim h.2.1 fun h1=>h1 h.2.2.1)]
   have:=dfs_some (r:=r) (f:=f) h.2.2.2 (by simpa using hl)
   rw[Option.isSome_map]
   exact this
theorem not_tm{tree:List Nat}:∀{f:Nat} {v l:Int},¬Tm e tree f v l→∃r w,NB e tree v l r w∧r.length=f
 |0,v,_,_=>⟨[],v,rfl,rfl⟩
 |f+1,v,l,h=>by
  apply Classical.byContradiction
  intro hn
  apply h
  intro k hk hl hi
  apply Classical.byContradiction
  intro ht
  obtain⟨r,w,h1,h2⟩:=not_tm ht
  exact hn ⟨k::r,w,⟨hk,hl,hi,h1⟩,by simp[h2]⟩
theorem Fo.tm{tree:List Nat}(hF:Fo e tree)(v l:Int):Tm e tree (tree.length+1) v l:=by
 apply Classical.byContradiction
 intro h
 obtain⟨r,w,h1,h2⟩:=not_tm h
 have:=hF.short h1
 omega
def way(e:Nat→Int×Int)(tree:List Nat)(v w:Int):Option (List Nat):=dfs e tree (tree.length+1) v w (-1)
theorem way_some{tree:List Nat}(hF:Fo e tree){v w:Int}:(way e tree v w).isSome↔Cn e tree v w:=by
 constructor
 ·intro h
  obtain⟨r,hr⟩:=Option.isSome_iff_exists.mp h
  exact⟨r,dfs_nb hr⟩
 ·rintro⟨r,hr⟩
  have:=hF.short hr
  exact dfs_some hr O
def trees(e:Nat→Int×Int):Nat→List Nat
 |0=>[]
 |n+1=>if (way e (trees e n) (e n).1 (e n).2).isSome then trees e n else trees e n++[n]
theorem trees_len:∀n,(trees e n).length≤n
 |0=>Nat.le_refl _
 |n+1=>by have:=trees_len n;rw[trees];split<;>simp<;>omega
theorem trees_lt:∀n,∀k∈trees e n,k<n
 |0,k,h=>by cases h
 |n+1,k,h=>by
  rw[trees]at h
  split at h
  ·have:=trees_lt n k h;omega
  ·rcases List.mem_append.mp h with h|h
   ·have:=trees_lt n k h;omega
   ·have:=List.mem_singleton.mp h;omega
theorem trees_fo:∀n,Fo e (trees e n)
 |0=>Fo.nil
 |n+1=>by
  rw[trees]
  split
  ·exact trees_fo n
  ·next h=>exact Fo.add (trees_fo n) fun hc=>h ((way_some (trees_fo n)).mpr hc)
def merge(l:List Int)(a b:Int):List Int:=l.map fun x=>if x=max (l.getD a.toNat 0) (l.getD b.toNat 0)then min (l.getD a.toNat 0) (l.getD b.toNat 0)else x
def roots(e:Nat→Int×Int)(n:Nat):Nat→List Int
 |0=>(List.range n).map fun(i:Nat)=>(i:Int)
 |m+1=>merge (roots e n m) (e m).1 (e m).2
structure RootsOf(e:Nat→Int×Int)(n:Nat)(tree:List Nat)(l:List Int):Prop where
 len:l.length=n
 le:∀i:Nat,i<n→0≤l.getD i 0∧l.getD i 0≤i
 cn:∀i:Nat,i<n→Cn e tree (l.getD i 0) i
 same:∀i j:Nat,i<n→j<n→(Cn e tree i j↔l.getD i 0=l.getD j 0)
theorem merge_getD{l:List Int}{a b:Int}{i:Nat}(h:i<l.length):(merge l a b).getD i 0=if l.getD i 0=max (l.getD a.toNat 0) (l.getD b.toNat 0)then min (l.getD a.toNat 0) (l.getD b.toNat 0)else l.getD i 0:=by
 unfold merge
 rw[List.getD_eq_getElem?_getD,List.getElem?_map,List.getD_eq_getElem?_getD (l:=l) (i:=i),List.getElem?_eq_getElem h]
 rfl
theorem cn_nil{v w:Int}:Cn e [] v w↔v=w:=by
 constructor
 ·rintro⟨r,h⟩
  cases r with
  |nil=>exact h
  |cons k r=>exact absurd h.1 Y8
 ·rintro rfl;exact .refl
theorem roots_of{n:Nat}:∀{m:Nat},(∀k,k<m→0≤(e k).1∧(e k).1<(e k).2∧(e k).2<n)→RootsOf e n (trees e m) (roots e n m)
 |0,_=>by
  have hg:∀i:Nat,i<n→((List.range n).map fun(i:Nat)=>(i:Int)).getD i 0=i:=fun i hi=>by
   rw[List.getD_eq_getElem?_getD,List.getElem?_map,List.getElem?_range hi];rfl
  refine⟨by simp[roots],fun i hi=>?_,fun i hi=>?_,fun i j hi hj=>?_⟩
  ·rw[roots,hg i hi];omega
  ·rw[roots,hg i hi];exact .refl
  ·rw[roots,hg i hi,hg j hj,trees,cn_nil]
 |m+1,h=>by
  have ih:=roots_of (m:=m) fun k hk=>h k O
  obtain⟨h1,h2,h3⟩:=h m O
  obtain⟨a,ha⟩:∃a:Nat,(e m).1=a:=⟨(e m).1.toNat,by omega⟩
  obtain⟨b,hb⟩:∃b:Nat,(e m).2=b:=⟨(e m).2.toNat,by omega⟩
  have han:a<n:=by omega
  have hbn:b<n:=by omega
  have hla:=ih.le a han
  have hlb:=ih.le b hbn
  rw[roots,trees,ha,hb]
  have hg:∀i:Nat,i<n→(merge (roots e n m) (a:Int) (b:Int)).getD i 0=if (roots e n m).getD i 0=max ((roots e n m).getD a 0) ((roots e n m).getD b 0)then min ((roots e n m).getD a 0) ((roots e n m).getD b 0)else(roots e n m).getD i 0:=fun i hi=>merge_getD (by rw[ih.len];exact hi)
  split
  ·next hs=>
   have hc:=(way_some (trees_fo m)).mp hs
   have hab:=(ih.same a b han hbn).mp hc
   refine⟨by simp[merge,ih.len],fun i hi=>?_,fun i hi=>?_,fun i j hi hj=>?_⟩
   ·have:=ih.le i hi
    rw[hg i hi];split<;>omega
   ·have:=ih.cn i hi
    rw[hg i hi,hab];split
    ·next h0=>rw[h0]at this;rw[Int.max_self]at this;rw[Int.min_self];exact this
    ·exact this
   ·rw[ih.same i j hi hj,hg i hi,hg j hj,hab]
    split<;>split<;>omega
  ·next hs=>
   have hc:¬Cn e (trees e m) (e m).1 (e m).2:=fun h0=>hs ((way_some (trees_fo m)).mpr (by rw[←ha,←hb];exact h0))
   have hadd:= @Cn.add e (trees e m) (trees_fo m) m hc
   rw[ha,hb]at hadd
   have hca:=ih.cn a han
   have hcb:=ih.cn b hbn
   have hne:(roots e n m).getD a 0≠(roots e n m).getD b 0:=fun h0=>hc (by rw[ha,hb];exact(ih.same a b han hbn).mpr h0)
   generalize hA:(roots e n m).getD a 0=A at *
   generalize hB:(roots e n m).getD b 0=B at *
   refine⟨by simp[merge,ih.len],fun i hi=>?_,fun i hi=>?_,fun i j hi hj=>?_⟩
   ·have:=ih.le i hi
    rw[hg i hi];split<;>omega
   ·have hci:=ih.cn i hi
    have hm:∀{x y:Int},Cn e (trees e m) x y→Cn e (trees e m++[m]) x y:=fun h0=>h0.mono fun j hj=>List.mem_append_left _ hj
    have hAB:Cn e (trees e m++[m]) A B:=((hm hca).trans (hadd.mpr (.inr (.inl ⟨.refl,.refl⟩)))).trans (hm hcb.symm)
    rw[hg i hi]
    split
    ·next h0=>
     rw[h0]at hci
     by_cases hlt:A<B
     ·rw[show max A B=B by omega]at hci
      rw[show min A B=A by omega]
      exact hAB.trans (hm hci)
     ·rw[show max A B=A by omega]at hci
      rw[show min A B=B by omega]
      exact hAB.symm.trans (hm hci)
    ·exact hm hci
   ·have e1:=ih.same i j hi hj
    have e2:=ih.same i a hi han
    have e3:=ih.same b j hbn hj
    have e4:=ih.same i b hi hbn
    have e5:=ih.same a j han hj
    rw[hA]at e2 e5
    rw[hB]at e3 e4
    rw[hadd,e1,e2,e3,e4,e5,hg i hi,hg j hj]
    split<;>split<;>omega
end
end Go.Proofs.C14
namespace Go.Proofs.C14
abbrev Q2:=Rat×Rat
def still:Q2:=(1,0)
def aft(t u:Q2):Q2:=(t.1*u.1-t.2*u.2,t.2*u.1+t.1*u.2)
def bck(t:Q2):Q2:=(t.1,-t.2)
section
variable(e:Nat→Int×Int)(T:Nat→Q2)
variable{e T}
end
end Go.Proofs.C14
namespace Go.Proofs.C14
section
variable{e:Nat→Int×Int}
def lst(e:Nat→Int×Int)(tree:List Nat)(i:Nat):Nat→Int
 |0=>i
 |j+1=>if (way e tree ((i:Int)-j) i).isSome then(i:Int)-j else lst e tree i j
theorem lst_root{n:Nat}{tree:List Nat}{l:List Int}(hF:Fo e tree)(h:RootsOf e n tree l){i:Nat}(hi:i<n):lst e tree i (i+1)=l.getD i 0:=by
 obtain⟨h0,h1⟩:=h.le i hi
 obtain⟨r,hr⟩:∃r:Nat,l.getD i 0=r:=⟨(l.getD i 0).toNat,by omega⟩
 have hc:=h.cn i hi
 rw[hr]at hc h1 ⊢
 have key:∀d,d≤r→lst e tree i (i-r+1+d)=r:=by
  intro d
  induction d with
  |zero=>
   intro _
   rw[Nat.add_zero,lst]
   have e1:(i:Int)-((i-r:Nat):Int)=r:=by omega
   rw[e1,if_pos ((way_some hF).mpr hc)]
  |succ d ih=>
   intro hd
   rw[←Nat.add_assoc,lst,ih O,if_neg]
   intro hs
   have hk:=(way_some hF).mp hs
   obtain⟨k,hk2⟩:∃k:Nat,(i:Int)-((i-r+1+d:Nat):Int)=k:=⟨r-1-d,by omega⟩
   rw[hk2]at hk
   have:=(h.same k i O hi).mp hk
   have h2:=h.le k O
   omega
 have:=key r Z3
 rw[←this]
 congr 1
 omega
end
end Go.Proofs.C14
namespace Go.Proofs.C14
def Tn(D:Nat)(t:Q2):Prop:=∃(d:Nat) (x y:Int),0<d∧d≤D∧x*x+y*y=(d:Int)*(d:Int)∧t.1=mkRat x d∧t.2=mkRat y d
theorem sq_le{x d:Int}{y:Int}(hd:0<d)(h:x*x+y*y=d*d):x.natAbs≤d.natAbs:=by
 have hy:0≤y*y:=by rcases Int.le_total 0 y with h0|h0;exact Int.mul_nonneg h0 h0;exact Int.mul_nonneg_of_nonpos_of_nonpos h0 h0
 have hx:x*x≤d*d:=by omega
 have e:(x.natAbs:Int)*x.natAbs=x*x:=by rw[←Int.natCast_mul,Int.natAbs_mul_self]
 apply Decidable.byContradiction
 intro hc
 have h1:d+1≤(x.natAbs:Int):=by omega
 have h2:(d+1)*(d+1)≤(x.natAbs:Int)*x.natAbs:=Int.mul_le_mul h1 h1 O O
 rw[e]at h2
 have h3:(d+1)*(d+1)=d*d+2*d+1:=by rw[Int.add_mul,Int.mul_add,Int.one_mul,Int.mul_one];omega
 omega
theorem Tn.le{D E:Nat}{t:Q2}(h:Tn D t)(hDE:D≤E):Tn E t:=by
 obtain⟨d,x,y,h1,h2,h3⟩:=h
 exact⟨d,x,y,h1,by omega,h3⟩
theorem Tn.bd{D:Nat}{t:Q2}(h:Tn D t):Bd t.1 D D∧Bd t.2 D D:=by
 obtain⟨d,x,y,h1,h2,h3,e1,e2⟩:=h
 have hd0:(0:Int)<d:=by omega
 have hx:=sq_le hd0 h3
 have hy:=sq_le (x:=y) (y:=x) hd0 (by rw[←h3];omega)
 rw[Int.natAbs_natCast]at hx hy
 rw[e1,e2]
 exact⟨(@bd_mkRat x d).le O O,(@bd_mkRat y d).le O O⟩
theorem Tn.one{D:Nat}{t:Q2}(h:Tn D t):t.1*t.1+t.2*t.2=1:=by
 obtain⟨d,x,y,h1,h2,h3,e1,e2⟩:=h
 have hdd:d*d≠0:=Nat.mul_ne_zero O O
 rw[e1,e2,Rat.mkRat_mul_mkRat,Rat.mkRat_mul_mkRat,Rat.mkRat_add_mkRat _ _ hdd hdd,←Int.add_mul,h3,←Int.natCast_mul]
 rw[Rat.mkRat_mul_right hdd]
 have:=Rat.mkRat_mul_right (n:=1) (d:=1) hdd
 rw[Int.one_mul,Nat.one_mul]at this
 rw[this]
 rfl
theorem tn_still:Tn 1 still:=⟨1,1,0,by omega,by omega,rfl,by rw[still];rfl,by rw[still];rfl⟩
theorem Tn.bck{D:Nat}{t:Q2}(h:Tn D t):Tn D (bck t):=by
 obtain⟨d,x,y,h1,h2,h3,e1,e2⟩:=h
 refine⟨d,x,-y,h1,h2,by rw[Int.neg_mul_neg];exact h3,e1,?_⟩
 show -t.2=_
 rw[e2,Rat.neg_mkRat]
theorem Tn.aft{D E:Nat}{t u:Q2}(h:Tn D t)(h':Tn E u):Tn (D*E) (aft t u):=by
 obtain⟨d,x,y,h1,h2,h3,e1,e2⟩:=h
 obtain⟨e,p,q,g1,g2,g3,f1,f2⟩:=h'
 have hde:d*e≠0:=Nat.mul_ne_zero O O
 refine⟨d*e,x*p-y*q,y*p+x*q,Nat.mul_pos h1 g1,Nat.mul_le_mul h2 g2,?_,?_,?_⟩
 ·have:((d*e:Nat):Int)*((d*e:Nat):Int)=(d*d:Int)*(e*e:Int):=by rw[Int.natCast_mul];grind
  rw[this,←h3,←g3]
  grind
 ·show t.1*u.1-t.2*u.2=_
  rw[e1,e2,f1,f2,Rat.mkRat_mul_mkRat,Rat.mkRat_mul_mkRat,Rat.sub_eq_add_neg,Rat.neg_mkRat,Rat.mkRat_add_mkRat _ _ hde hde,←Int.add_mul,Rat.mkRat_mul_right hde,Int.sub_eq_add_neg]
 ·show t.2*u.1+t.1*u.2=_
  rw[e1,e2,f1,f2,Rat.mkRat_mul_mkRat,Rat.mkRat_mul_mkRat,Rat.mkRat_add_mkRat _ _ hde hde,←Int.add_mul,Rat.mkRat_mul_right hde]
theorem Tn.quarter{D:Nat}{t:Q2}(h:Tn D t):Tn D (-t.2,t.1):=by
 obtain⟨d,x,y,h1,h2,h3,e1,e2⟩:=h
 refine⟨d,-y,x,h1,h2,by rw[Int.neg_mul_neg];omega,?_,e1⟩
 show -t.2=_
 rw[e2,Rat.neg_mkRat]
end Go.Proofs.C14
