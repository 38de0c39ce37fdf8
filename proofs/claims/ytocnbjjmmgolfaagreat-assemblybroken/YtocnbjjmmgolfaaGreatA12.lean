/- Digits in base 10^9: the digits of a number, the value of digits. -/
import Derived.Test.YtocnbjjmmgolfaaGreatA00
set_option linter.unusedSimpArgs false
set_option linter.unusedVariables false
set_option linter.unusedSectionVars false
namespace Go.Proofs.C14
def dg(n:Nat):List Int:=if h:n=0 then []else((n % 1000000000:Nat):Int)::dg (n / 1000000000)
termination_by n
decreasing_by exact Nat.div_lt_self (Nat.pos_of_ne_zero h) U
def z5:List Int->Nat
 | []=>0
 |x::l=>x.toNat+1000000000*z5 l
def b8(l:List Int):Prop:=∀x∈l,0<=x/\x<1000000000
theorem qw:dg 0=[]:=by rw[dg];simp
theorem uy{n:Nat}(h:n≠0):dg n=((n % 1000000000:Nat):Int)::dg (n / 1000000000):=by rw[dg];simp[h]
theorem VI{n:Nat}(h:n≠0)(h2:n<1000000000):dg n=[(n:Int)]:=by
 rw[uy h,Nat.mod_eq_of_lt h2,Nat.div_eq_of_lt h2,qw]
theorem kU(n:Nat):b8 (dg n):=by
 induction n using Nat.strongRecOn with
 |ind n a=>
  by_cases h:n=0
  .subst h;rw[qw];intro x hx;cases hx
  .rw[uy h]
   intro x hx
   rcases aJ.mp hx with rfl|hx
   .omega
   .exact a _ (Nat.div_lt_self O U) x hx
theorem yy(n:Nat):z5 (dg n)=n:=by
 induction n using Nat.strongRecOn with
 |ind n a=>
  by_cases h:n=0
  .subst h;rw[qw];rfl
  .rw[uy h,z5,a _ (Nat.div_lt_self O U)]
   omega
theorem oy{m n:Nat}(h:dg m=dg n):m=n:=by rw[<-yy m,h,yy]
theorem e9{n:Nat}:dg n=[]↔n=0:=by
 constructor
 .intro h;have:=yy n;rw[h]at this;exact this.symm
 .rintro rfl;exact qw
theorem bl{n:Nat}:(dg n).length=0↔n=0:=by rw[bV,e9]
theorem oz:∀(k n:Nat),n<1000000000 ^ k->(dg n).length<=k
 |0,n,h=>by have:n=0:=(by simpa using h);subst this;rw[qw];simp
 |k+1,n,h=>by
  by_cases hn:n=0
  .subst hn;rw[qw];simp
  .rw[uy hn]
   have:=oz k (n / 1000000000) (by rw[Nat.pow_succ]at h;exact Nat.div_lt_of_lt_mul (by rw[Nat.mul_comm];exact h))
   simp only[aU]
   omega
theorem xv{n:Nat}(h:n<1000000000000000000):(dg n).length<=2:=oz 2 n (by simpa using h)
theorem VD(l r:List Int):z5 (l++r)=z5 l+1000000000 ^ l.length*z5 r:=by
 induction l with
 |nil=>simp[z5]
 |cons x l a=>simp only[bY,z5,a,aU,Nat.pow_succ];rw[Nat.mul_add,<-Nat.mul_assoc,Nat.mul_comm 1000000000 (1000000000 ^ l.length)];omega
theorem YW{l:List Int}(h:b8 l):z5 l<1000000000 ^ l.length:=by
 induction l with
 |nil=>simp[z5]
 |cons x l b=>
  have h1:=h x Y8
  have h2:=b λy a=>h y (by simp[a])
  simp only[z5,aU,Nat.pow_succ]
  omega
theorem b8.tail{x:Int}{l:List Int}(h:b8 (x::l)):b8 l:=λy a=>h y (by simp[a])
theorem b8.app{l r:List Int}(h:b8 l)(h2:b8 r):b8 (l++r):=λx hx=>(aW.mp hx).elim (h x) (h2 x)
theorem b8.nil:b8 []:=λ_ h=>by cases h
theorem b8.one{x:Int}(h:0<=x)(h2:x<1000000000):b8 [x]:=λy a=>by rw[bC.mp a];exact⟨h,h2⟩
theorem b8.take{l:List Int}(h:b8 l)(n:Nat):b8 (l.take n):=λx hx=>h x (List.mem_of_mem_take hx)
theorem b8.at{l:List Int}(h:b8 l)(k:Nat):0<=l.getD k 0/\l.getD k 0<1000000000:=by
 rw[aB]
 by_cases hk:k<l.length
 .rw[aE hk];exact h _ (aL hk)
 .rw[cU O];simp
def ud(l:List Int):Nat->Nat
 |0=>0
 |n+1=>if l.getD n 0=0 then ud l n else n+1
theorem zaw(l:List Int):∀n,ud l n<=n
 |0=>aN _
 |n+1=>by simp only[ud];split;{have:=zaw l n;omega};{omega}
theorem zhw:∀{l:List Int},b8 l->(l=[]\/l.getD (l.length-1) 0≠0)->dg (z5 l)=l
 | [],_,_=>qw
 |x::l,h,h2=>by
  have hx:=h x Y8
  rcases h2 with h2|h2
  .cases h2
  .have hl:l=[]\/l.getD (l.length-1) 0≠0:=by
    cases l with
    |nil=>exact .inl rfl
    |cons y l=>exact .inr (by simpa using h2)
   have a:=zhw h.tail hl
   have hv:z5 (x::l)≠0:=by
    cases l with
    |nil=>simp at h2;simp only[z5];omega
    |cons y l=>
     intro h0
     have:z5 (y::l)=0:=by simp only[z5]at h0 |-;omega
     rw[this,qw]at a
     cases a
   rw[uy hv,z5]
   have e1:(x.toNat+1000000000*z5 l) % 1000000000=x.toNat:=by omega
   have e2:(x.toNat+1000000000*z5 l) / 1000000000=z5 l:=by omega
   rw[e1,e2,a]
   congr 1
   omega
theorem zfv{l:List Int}{n:Nat}(hn:n<l.length)(h:l.getD n 0=0):z5 (l.take (n+1))=z5 (l.take n):=by
 rw[List.take_succ_eq_append_getElem hn,VD]
 rw[aB,aE hn]at h
 simp only[bN]at h
 rw[h]
 simp[z5]
theorem zcF{l:List Int}:∀n,n<=l.length->z5 (l.take (ud l n))=z5 (l.take n)
 |0,_=>rfl
 |n+1,h=>by
  simp only[ud]
  split
  .next h0=>rw[zcF n O,zfv O h0]
  .rfl
theorem W8{l:List Int}:∀n,n<=l.length->l.take (ud l n)=[]\/(l.take (ud l n)).getD ((l.take (ud l n)).length-1) 0≠0
 |0,_=>.inl rfl
 |n+1,h=>by
  simp only[ud]
  split
  .exact W8 n O
  .next h0=>
   right
   have e:(l.take (n+1)).length-1=n:=by simp;omega
   rw[e,aB,List.getElem?_take,aG O,<-aB]
   exact h0
theorem WI{l:List Int}(h:b8 l):l.take (ud l l.length)=dg (z5 l):=by
 rw[<-zhw (h.take _) (W8 _ Z3),zcF _ Z3,bE]
theorem AS{l:List Int}(h:b8 l):ud l l.length=(dg (z5 l)).length:=by
 rw[<-WI h,bX]
 have:=zaw l l.length
 omega
theorem Om{l:List Int}(h:b8 l):ud l l.length=0↔z5 l=0:=by rw[AS h,bl]
def Z6(la lb:List Int):Nat->Int
 |0=>0
 |n+1=>if la.getD n 0<lb.getD n 0 then -1 else if lb.getD n 0<la.getD n 0 then 1 else Z6 la lb n
def cmpZ(la lb:List Int):Int:=if la.length<lb.length then -1 else if lb.length<la.length then 1 else Z6 la lb la.length
def uQ(m n:Nat):Int:=if m<n then -1 else if n<m then 1 else 0
def yz(m n:Int):Int:=if m<n then -1 else if n<m then 1 else 0
theorem JC{l:List Int}{n:Nat}(hn:n<l.length):z5 (l.take (n+1))=z5 (l.take n)+1000000000 ^ n*(l.getD n 0).toNat:=by
 rw[List.take_succ_eq_append_getElem hn,VD,aB,aE hn]
 have:(l.take n).length=n:=by simp;omega
 rw[this]
 simp[z5]
theorem zdz{la lb:List Int}(ha:b8 la)(hb:b8 lb):∀n,n<=la.length->n<=lb.length->Z6 la lb n=uQ (z5 (la.take n)) (z5 (lb.take n))
 |0,_,_=>by simp[Z6,uQ,z5]
 |n+1,h1,h2=>by
  simp only[Z6]
  rw[JC O,JC O]
  have d:=YW (ha.take n)
  have f:=YW (hb.take n)
  have e1:(la.take n).length=n:=by simp;omega
  have e2:(lb.take n).length=n:=by simp;omega
  rw[e1]at d
  rw[e2]at f
  have d1:=ha.at n
  have d2:=hb.at n
  generalize la.getD n 0=x at *
  generalize lb.getD n 0=y at *
  generalize h:z5 (la.take n)=A at *
  generalize i:z5 (lb.take n)=B at *
  generalize hP:1000000000 ^ n=P at *
  have c:=zdz ha hb n O O
  rw[h,i]at c
  have key:∀{A B P:Nat} {x y:Int},0<=x->A<P->x<y->A+P*x.toNat<B+P*y.toNat:=by
   intro A B P x y h0 h1 h2
   have g:P*(x.toNat+1)<=P*y.toNat:=cI _ O
   rw[Nat.mul_add,cG]at g
   omega
  by_cases a:x<y
  .rw[aG a,uQ,aG (key d1.1 d a)]
  .rw[aD a]
   by_cases b:y<x
   .have:=key (A:=B) (B:=A) (P:=P) d2.1 f b
    rw[aG b,uQ,aD O,aG this]
   .have e:x=y:=by omega
    subst e
    rw[aD b,c]
    simp only[uQ,Nat.add_lt_add_iff_right]
theorem XG{m n:Nat}(h:(dg m).length<(dg n).length):m<n:=by
 apply cX
 intro hn
 have h1:=YW (kU n)
 have:∀k n,(dg n).length=k+1->1000000000 ^ k<=n:=by
  intro k
  induction k with
  |zero=>
   intro n hk
   have h0:n≠0:=λh0=>by rw[h0,qw]at hk;simp at hk
   rw[Nat.pow_zero]
   omega
  |succ k b=>
   intro n hk
   have hn:n≠0:=λh0=>by rw[h0,qw]at hk;simp at hk
   rw[uy hn,aU]at hk
   rw[Nat.pow_succ]
   have:=Nat.div_add_mod n 1000000000
   have:=bQ 1000000000 (b (n / 1000000000) O)
   omega
 obtain⟨k,hk⟩:∃k,(dg n).length=k+1:=⟨(dg n).length-1,by omega⟩
 have h2:=this k n hk
 have a:=YW (kU m)
 rw[yy]at a
 have h4:1000000000 ^ (dg m).length<=1000000000 ^ k:=Nat.pow_le_pow_right U O
 omega
theorem Zk(m n:Nat):cmpZ (dg m) (dg n)=uQ m n:=by
 unfold cmpZ
 by_cases h1:(dg m).length<(dg n).length
 .rw[aG h1,uQ,aG (XG h1)]
 .rw[aD h1]
  by_cases h2:(dg n).length<(dg m).length
  .have:=XG h2
   rw[aG h2,uQ,aD O,aG this]
  .rw[aD h2,zdz (kU m) (kU n) _ Z3 O,bE,show(dg m).length=(dg n).length by omega,bE,yy,yy]
def dv:List Int->Int
 | []=>0
 |x::l=>x+1000000000*dv l
theorem oJ(l r:List Int):dv (l++r)=dv l+1000000000 ^ l.length*dv r:=by
 induction l with
 |nil=>simp[dv]
 |cons x l a=>
  simp only[bY,dv,a,aU,Int.pow_succ]
  rw[Int.mul_add,<-Int.mul_assoc,Int.mul_comm 1000000000 (1000000000 ^ l.length)]
  omega
theorem qb{l:List Int}(h:b8 l):dv l=(z5 l:Int):=by
 induction l with
 |nil=>rfl
 |cons x l a=>
  have:=h x Y8
  rw[dv,z5,a h.tail]
  omega
theorem zbb{l:List Int}{n:Nat}(hn:n<l.length):dv (l.take (n+1))=dv (l.take n)+1000000000 ^ n*l.getD n 0:=by
 rw[List.take_succ_eq_append_getElem hn,oJ,aB,aE hn]
 have:(l.take n).length=n:=by simp;omega
 rw[this]
 simp[dv]
theorem yj(l:List Int)(n:Nat):dv (l.take (n+1))=dv (l.take n)+1000000000 ^ n*l.getD n 0:=by
 by_cases hn:n<l.length
 .exact zbb hn
 .rw[dJ O,dJ O,aB,cU O]
  simp
theorem qp{l:List Int}{n:Nat}(h:l.length<=n):dv (l.take n)=dv l:=by rw[dJ h]
theorem VE{l:List Int}:∀{k:Nat} {x:Int},k<l.length->dv (l.set k x)=dv l+1000000000 ^ k*(x-l.getD k 0):=by
 induction l with
 |nil=>intro k x h;simp at h
 |cons y l a=>
  intro k x h
  cases k with
  |zero=>simp only[List.set_cons_zero,dv,List.getD_cons_zero,Int.pow_zero];omega
  |succ k=>
   simp only[List.set_cons_succ,dv,List.getD_cons_succ,a (by simpa using h:k<l.length),Int.pow_succ]
   rw[Int.mul_add,<-Int.mul_assoc,Int.mul_comm 1000000000 (1000000000 ^ k)]
   omega
theorem zbc(l:List Int)(x:Int):dv (l++[x])=dv l+1000000000 ^ l.length*x:=by rw[oJ];simp[dv]
theorem oL(n:Nat):dv (List.replicate n 0)=0:=by
 induction n with
 |zero=>rfl
 |succ n a=>rw[List.replicate_succ,dv,a];rfl
theorem JD(n:Nat):b8 (List.replicate n 0):=λx hx=>by rw[(List.mem_replicate.mp hx).2];decide
theorem b8.set{l:List Int}(h:b8 l){k:Nat}{x:Int}(h0:0<=x)(h1:x<1000000000):b8 (l.set k x):=λy a=>
 (List.mem_or_eq_of_mem_set a).elim (h y) λe=>by rw[e];exact⟨h0,h1⟩
theorem Ns{l:List Int}(h:b8 l):dv l<1000000000 ^ l.length:=by
 rw[qb h]
 have:=Int.ofNat_lt.mpr (YW h)
 rw[Int.natCast_pow]at this
 exact this
theorem Tz(n:Nat):(0:Int)<1000000000 ^ n:=Int.pow_pos U
theorem zbS{P A S c x w:Int}(h:A+P*c=S)(hw:w=x+c):(A+P*(w % 1000000000))+P*1000000000*(w / 1000000000)=S+P*x:=by
 have e:P*1000000000*(w / 1000000000)=P*(1000000000*(w / 1000000000)):=by rw[Int.mul_assoc]
 have e2:=Int.mul_ediv_add_emod w 1000000000
 have e3:P*(w % 1000000000)+P*(1000000000*(w / 1000000000))=P*w:=by rw[<-Int.mul_add];congr 1;omega
 have e4:P*w=P*x+P*c:=by rw[hw,Int.mul_add]
 omega
def Bd(q:Rat)(N D:Nat):Prop:=q.num.natAbs<=N/\q.den<=D
theorem Bd.le{q:Rat}{N D a D':Nat}(h:Bd q N D)(h1:N<=a)(h2:D<=D'):Bd q a D':=⟨bK h.1 h1,bK h.2 h2⟩
theorem ee{n:Int}{d:Nat}:Bd (mkRat n d) n.natAbs (max d 1):=by
 constructor
 .rw[Rat.num_mkRat]
  split
  .simp
  .exact bK (Int.natAbs_ediv_le_natAbs _ _) Z3
 .rw[Rat.den_mkRat]
  split
  .omega
  .exact bK (Nat.div_le_self _ _) O
theorem Bd.mul{a b:Rat}{e c f d:Nat}(h1:Bd a e c)(h2:Bd b f d):Bd (a*b) (e*f) (c*d):=by
 rw[Rat.mul_def']
 have hd:=eE h1.2 h2.2
 have hp:=Nat.mul_pos a.den_pos b.den_pos
 refine ee.le ?_ O
 rw[dW]
 exact eE h1.1 h2.1
theorem zaI{p q:Int}(hq:q≠0):0<Nat.gcd p.natAbs q.natAbs:=Nat.gcd_pos_of_pos_right _ O
theorem Zr{p q:Int}(hq:q≠0):(Rat.divInt p q).num=if q<0 then -(p / (Nat.gcd p.natAbs q.natAbs:Int))else p / (Nat.gcd p.natAbs q.natAbs:Int):=by
 rw[Rat.num_divInt]
 have e:Int.gcd q p=Nat.gcd p.natAbs q.natAbs:=by rw[Int.gcd,Nat.gcd_comm]
 rw[e]
 have hd:((Nat.gcd p.natAbs q.natAbs:Nat):Int)∣p:=Int.ofNat_dvd_left.mpr (Nat.gcd_dvd_left _ _)
 by_cases h:q<0
 .rw[aG h,Int.sign_eq_neg_one_of_neg h,Int.neg_one_mul,Int.neg_ediv_of_dvd hd]
 .rw[aD h,Int.sign_eq_one_of_pos O,Int.one_mul]
theorem zds{p q:Int}(a:q≠0):((Rat.divInt p q).den:Int)=if q<0 then -(q / (Nat.gcd p.natAbs q.natAbs:Int))else q / (Nat.gcd p.natAbs q.natAbs:Int):=by
 rw[Rat.den_divInt,aD a]
 have e:Int.gcd q p=Nat.gcd p.natAbs q.natAbs:=by rw[Int.gcd,Nat.gcd_comm]
 rw[e]
 have hd:((Nat.gcd p.natAbs q.natAbs:Nat):Int)∣q:=Int.ofNat_dvd_left.mpr (Nat.gcd_dvd_right _ _)
 by_cases h:q<0
 .rw[aG h,<-Int.neg_ediv_of_dvd hd,Int.natCast_ediv]
  congr 1
  omega
 .rw[aD h,Int.natCast_ediv]
  congr 1
  omega
theorem YV{p q:Int}(c:q≠0):q / (Nat.gcd p.natAbs q.natAbs:Int)<0↔q<0:=by
 have hg:=zaI (p:=p) c
 constructor
 .intro h
  apply cX
  intro h2
  have:=Int.ediv_nonneg (a:=q) (b:=(Nat.gcd p.natAbs q.natAbs:Int)) O O
  omega
 .intro h
  exact Int.ediv_neg_of_neg_of_pos h O
theorem uj{N:Int}{D:Nat}(a:D≠0)(h:N.natAbs.Coprime D):(mkRat N D).num=N/\(mkRat N D).den=D:=by
 have:mkRat N D=⟨N,D,a,h⟩:=(Rat.mk_eq_mkRat N D a h).symm
 rw[this]
 exact⟨rfl,rfl⟩
theorem zeS(a b:Rat):(a*b).num=(mkRat a.num b.den).num*(mkRat b.num a.den).num/\(a*b).den=(mkRat a.num b.den).den*(mkRat b.num a.den).den:=by
 have e:a*b=mkRat ((mkRat a.num b.den).num*(mkRat b.num a.den).num) ((mkRat a.num b.den).den*(mkRat b.num a.den).den):=by
  rw[<-Rat.mul_def',dZ,Rat.mul_def',Nat.mul_comm b.den a.den]
 have hx:(mkRat a.num b.den).num.natAbs∣a.num.natAbs:=by
  rw[Rat.num_mkRat,aD b.den_nz,Int.natAbs_ediv_of_dvd (Int.ofNat_dvd_left.mpr (Nat.gcd_dvd_right _ _)),Int.natAbs_natCast]
  exact Nat.div_dvd_of_dvd (Nat.gcd_dvd_right _ _)
 have h:(mkRat b.num a.den).num.natAbs∣b.num.natAbs:=by
  rw[Rat.num_mkRat,aD a.den_nz,Int.natAbs_ediv_of_dvd (Int.ofNat_dvd_left.mpr (Nat.gcd_dvd_right _ _)),Int.natAbs_natCast]
  exact Nat.div_dvd_of_dvd (Nat.gcd_dvd_right _ _)
 have d:(mkRat a.num b.den).den∣b.den:=by
  rw[Rat.den_mkRat,aD b.den_nz];exact Nat.div_dvd_of_dvd (Nat.gcd_dvd_left _ _)
 have f:(mkRat b.num a.den).den∣a.den:=by
  rw[Rat.den_mkRat,aD a.den_nz];exact Nat.div_dvd_of_dvd (Nat.gcd_dvd_left _ _)
 have c:((mkRat a.num b.den).num*(mkRat b.num a.den).num).natAbs.Coprime ((mkRat a.num b.den).den*(mkRat b.num a.den).den):=by
  rw[dW]
  refine Nat.Coprime.mul_left (Nat.Coprime.mul_right (mkRat a.num b.den).reduced ?_) (Nat.Coprime.mul_right ?_ (mkRat b.num a.den).reduced)
  .exact Nat.Coprime.coprime_dvd_left hx (Nat.Coprime.coprime_dvd_right f a.reduced)
  .exact Nat.Coprime.coprime_dvd_left h (Nat.Coprime.coprime_dvd_right d b.reduced)
 have g:(mkRat a.num b.den).den*(mkRat b.num a.den).den≠0:=Nat.mul_ne_zero (mkRat a.num b.den).den_nz (mkRat b.num a.den).den_nz
 have:=uj g c
 rw[e]
 exact this
theorem vc{a b:Rat}(ha:a.den=1)(hb:b.den=1):(a+b).num=a.num+b.num/\(a+b).den=1:=by
 have e:a+b=mkRat (a.num+b.num) 1:=by rw[Rat.add_def',ha,hb];simp
 rw[e]
 exact uj U (Nat.coprime_one_right _)
theorem AR{a b:Rat}(ha:a.den=1)(hb:b.den=1):(a*b).num=a.num*b.num/\(a*b).den=1:=by
 have e:a*b=mkRat (a.num*b.num) 1:=by rw[Rat.mul_def',ha,hb]
 rw[e]
 exact uj U (Nat.coprime_one_right _)
def kV(a b:Rat):Int:=if a<b then -1 else if b<a then 1 else 0
theorem zbh(a b:Rat):yz (a.num*b.den) (b.num*a.den)=kV a b:=by
 unfold yz kV
 simp only[Rat.lt_iff]
section
variable(e:Nat->Int×Int)
def dO(k:Nat)(v:Int):Prop:=(e k).1=v\/(e k).2=v
instance (k:Nat)(v:Int):Decidable (dO e k v):=inferInstanceAs (Decidable (_\/_))
def oth(k:Nat)(v:Int):Int:=(e k).1+(e k).2-v
def NB(tree:List Nat):Int->Int->List Nat->Int->Prop
 |v,_,[],w=>v=w
 |v,last,k::r,w=>k∈tree/\(k:Int)≠last/\dO e k v/\NB tree (oth e k v) k r w
def Fo(tree:List Nat):Prop:=∀v last r,NB e tree v last r v->r=[]
variable{e}
theorem zgT{k:Nat}{v:Int}(h:dO e k v):dO e k (oth e k v):=by
 unfold dO oth at *;omega
theorem zak{k:Nat}{v:Int}:oth e k (oth e k v)=v:=by unfold oth;omega
theorem zhm{k:Nat}{v w:Int}(h:dO e k v)(h2:dO e k w):w=v\/w=oth e k v:=by
 unfold dO oth at *;omega
theorem NB.last{tree:List Nat}{v b a:Int}{r:List Nat}{w:Int}(h:NB e tree v b r w)(hl:∀k,k∈tree->(k:Int)≠a):NB e tree v a r w:=by
 cases r with
 |nil=>exact h
 |cons k r=>exact⟨h.1,hl k h.1,h.2.2.1,h.2.2.2⟩
theorem NB.start{tree:List Nat}{v a:Int}{r:List Nat}{w:Int}(h:NB e tree v a r w):NB e tree v (-1) r w:=h.last λk _=>by omega
theorem NB.mono{t1 t2:List Nat}(hs:∀k∈t1,k∈t2):∀{r:List Nat} {v l w:Int},NB e t1 v l r w->NB e t2 v l r w
 | [],_,_,_,h=>h
 |_::_,_,_,_,h=>⟨hs _ h.1,h.2.1,h.2.2.1,NB.mono hs h.2.2.2⟩
theorem NB.cut{tree:List Nat}:∀{r1:List Nat} {v l w:Int} {k:Nat} {r2:List Nat},NB e tree v l (r1++k::r2) w ->
 ∃x,NB e tree v l r1 x/\dO e k x/\k∈tree/\NB e tree (oth e k x) k r2 w/\(r1=[]->(k:Int)≠l)
 | [],v,l,w,k,r2,h=>⟨v,rfl,h.2.2.1,h.1,h.2.2.2,λ_=>h.2.1⟩
 |j::r1,v,l,w,k,r2,h=>by
  obtain⟨x,h1,h2,a,b,_⟩:=NB.cut (r1:=r1) h.2.2.2
  exact⟨x,⟨h.1,h.2.1,h.2.2.1,h1⟩,h2,a,b,λh0=>by cases h0⟩
theorem Fo.nodup{tree:List Nat}(b:Fo e tree):∀{r:List Nat} {v l w:Int},NB e tree v l r w->r.Nodup
 | [],_,_,_,_=>List.nodup_nil
 |k::r,v,l,w,h=>by
  refine List.nodup_cons.mpr ⟨λhk=>?_,Fo.nodup b h.2.2.2⟩
  obtain⟨r1,r2,f⟩:=eI hk
  have h2:=h.2.2.2
  rw[f]at h2
  obtain⟨x,a,c,_,_,d⟩:=NB.cut h2
  rcases zhm h.2.2.1 c with hx|hx
  .subst hx
   have:=b x l (k::r1) ⟨h.1,h.2.1,h.2.2.1,a⟩
   cases this
  .subst hx
   have:=b _ _ r1 a
   subst this
   exact d rfl rfl
theorem QX:∀{r t:List Nat},r.Nodup->(∀k∈r,k∈t)->r.length<=t.length
 | [],_,_,_=>cH _
 |k::r,t,h,hs=>by
  obtain⟨t1,t2,a⟩:=eI (hs k Y8)
  obtain⟨hk,hn⟩:=List.nodup_cons.mp h
  have:r.length<=(t1++t2).length:=QX hn λj hj=>by
   have h1:=hs j (by simp[hj])
   rw[a]at h1
   rcases aW.mp h1 with h1|h1
   .exact bJ _ h1
   .rcases aJ.mp h1 with h1|h1
    .subst h1;exact(hk hj).elim
    .exact bA _ h1
  rw[a]
  simp only[aQ,aU]at this |-
  omega
theorem NB.mem{tree:List Nat}:∀{r:List Nat} {v l w:Int},NB e tree v l r w->∀k∈r,k∈tree
 | [],_,_,_,_,k,hk=>by cases hk
 |j::r,_,_,_,h,k,hk=>by
  rcases aJ.mp hk with hk|hk
  .subst hk;exact h.1
  .exact NB.mem h.2.2.2 k hk
theorem Fo.short{tree:List Nat}(a:Fo e tree){r:List Nat}{v l w:Int}(h:NB e tree v l r w):r.length<=tree.length:=QX (a.nodup h) h.mem
theorem NB.snoc{tree:List Nat}:∀{r:List Nat} {v l w:Int} {k:Nat},NB e tree v l r w->k∈tree->dO e k w->(∀j,r.getLast? = some j->j≠k)->(r=[]->(k:Int)≠l)->NB e tree v l (r++[k]) (oth e k w)
 | [],v,l,w,k,h,hk,hi,_,hl=>by
  have:v=w:=h
  subst this
  exact⟨hk,hl rfl,hi,rfl⟩
 |j::r,v,l,w,k,h,hk,hi,hj,_=>by
  refine⟨h.1,h.2.1,h.2.2.1,NB.snoc (r:=r) h.2.2.2 hk hi (λi b=>hj i ?_) (λb=>?_)⟩
  .cases r with
   |nil=>cases b
   |cons a r=>simpa[List.getLast?_cons_cons]using b
  .subst b
   have:=hj j Y8
   omega
theorem NB.reverse{tree:List Nat}:∀{r:List Nat} {v l w:Int},NB e tree v l r w->NB e tree w (-1) r.reverse v
 | [],v,l,w,h=>h.symm
 |k::r,v,l,w,h=>by
  rw[List.reverse_cons]
  have h1:=NB.reverse h.2.2.2
  have h2:=NB.snoc (k:=k) h1 h.1 (zgT h.2.2.1) (λj hj=>?_) (λ_=>by omega)
  .rwa[zak]at h2
  .rw[List.getLast?_reverse]at hj
   cases r with
   |nil=>cases hj
   |cons a r=>
    have:a=j:=by simpa using hj
    subst this
    have:=h.2.2.2.2.1
    omega
def Cn(e:Nat->Int×Int)(tree:List Nat)(v w:Int):Prop:=∃r,NB e tree v (-1) r w
theorem Cn.refl{tree:List Nat}{v:Int}:Cn e tree v v:=⟨[],rfl⟩
theorem Cn.symm{tree:List Nat}{v w:Int}(h:Cn e tree v w):Cn e tree w v:=by obtain⟨r,h⟩:=h;exact⟨_,h.reverse⟩
theorem NB.trans{tree:List Nat}:∀(r:List Nat) {v w x:Int} {s:List Nat},NB e tree v (-1) r w->NB e tree w (-1) s x->Cn e tree v x:=by
 intro r
 induction hn:r.length generalizing r with
 |zero=>
  intro v w x s h1 h2
  have:r=[]:=bV.mp hn
  subst this
  have:v=w:=h1
  subst this
  exact⟨s,h2⟩
 |succ n l=>
  intro v w x s h1 h2
  obtain⟨a,k,rfl⟩:∃a k,r=a++[k]:=by
   rcases List.eq_nil_or_concat r with h|⟨a,k,h⟩
   .subst h;simp at hn
   .exact⟨a,k,by simpa using h⟩
  obtain⟨y,b,f,g,i,_⟩:=NB.cut (r2:=[]) h1
  have hw:oth e k y=w:=i
  have hlen:a.length=n:=by simpa using hn
  cases s with
  |nil=>
   have:w=x:=h2
   subst this
   exact⟨_,h1⟩
  |cons j s=>
   by_cases d:j=k
   .subst d
    have c:=h2.2.2.2
    rw[<-hw,zak]at c
    exact l a hlen b c.start
   .have c:NB e tree y (-1) (k::j::s) x:=⟨g,by omega,f,by rw[hw];exact⟨h2.1,by omega,h2.2.2.1,h2.2.2.2⟩⟩
    exact l a hlen b c
theorem Cn.trans{tree:List Nat}{v w x:Int}(h1:Cn e tree v w)(h2:Cn e tree w x):Cn e tree v x:=by
 obtain⟨r,h1⟩:=h1
 obtain⟨s,h2⟩:=h2
 exact NB.trans r h1 h2
theorem Cn.mono{t1 t2:List Nat}(hs:∀k∈t1,k∈t2){v w:Int}(h:Cn e t1 v w):Cn e t2 v w:=by obtain⟨r,h⟩:=h;exact⟨r,h.mono hs⟩
theorem NB.split{tree:List Nat}{k:Nat}:∀{r:List Nat} {v l w:Int},NB e (tree++[k]) v l r w ->
 NB e tree v l r w\/∃r1 r2 x,r=r1++k::r2/\NB e tree v l r1 x/\dO e k x/\NB e (tree++[k]) (oth e k x) k r2 w/\(r1=[]->(k:Int)≠l)
 | [],v,l,w,h=>.inl h
 |j::r,v,l,w,h=>by
  by_cases hj:j=k
  .subst hj
   exact .inr ⟨[],r,v,rfl,rfl,h.2.2.1,h.2.2.2,λ_=>h.2.1⟩
  .have hm:j∈tree:=by
    rcases aW.mp h.1 with h1|h1
    .exact h1
    .exact(hj (bC.mp h1)).elim
   rcases NB.split h.2.2.2 with h1|⟨r1,r2,x,h1,h2,a,b,_⟩
   .exact .inl ⟨hm,h.2.1,h.2.2.1,h1⟩
   .exact .inr ⟨j::r1,r2,x,by rw[h1];rfl,⟨hm,h.2.1,h.2.2.1,h2⟩,a,b,λh0=>by cases h0⟩
theorem NB.once{tree:List Nat}(d:Fo e tree){k:Nat}(hn:¬Cn e tree (e k).1 (e k).2){x:Int}(hx:dO e k x){r:List Nat}{w:Int}(h:NB e (tree++[k]) (oth e k x) k r w):NB e tree (oth e k x) k r w:=by
 rcases NB.split h with h|⟨r1,r2,z,_,h2,b,_,c⟩
 .exact h
 .exfalso
  rcases zhm (zgT hx) b with a|a
  .subst a
   have:=d _ _ _ h2
   exact c this rfl
  .rw[zak]at a
   subst a
   have hc:Cn e tree (oth e k z) z:=⟨_,h2.start⟩
   apply hn
   rcases hx with hx|hx
   .have:oth e k z=(e k).2:=by unfold oth;omega
    rw[this]at hc
    rw[<-hx]at hc
    exact hc.symm
   .have:oth e k z=(e k).1:=by unfold oth;omega
    rw[this]at hc
    rw[<-hx]at hc
    exact hc
theorem Cn.oth{tree:List Nat}{k:Nat}{x:Int}(hx:dO e k x)(h:Cn e tree (oth e k x) x):Cn e tree (e k).1 (e k).2:=by
 rcases hx with hx|hx
 .have:C14.oth e k x=(e k).2:=by unfold C14.oth;omega
  rw[this,<-hx]at h
  exact h.symm
 .have:C14.oth e k x=(e k).1:=by unfold C14.oth;omega
  rw[this,<-hx]at h
  exact h
theorem Fo.add{tree:List Nat}(b:Fo e tree){k:Nat}(hn:¬Cn e tree (e k).1 (e k).2):Fo e (tree++[k]):=by
 intro v l r h
 rcases NB.split h with h1|⟨r1,r2,x,h1,h2,a,c,_⟩
 .exact b _ _ _ h1
 .exfalso
  have d:=NB.once b hn a c
  exact hn (Cn.oth a (Cn.trans ⟨_,d.start⟩ ⟨_,h2.start⟩))
theorem Fo.nil:Fo e []:=by
 intro v l r h
 cases r with
 |nil=>rfl
 |cons k r=>exact absurd h.1 Y8
theorem Cn.add{tree:List Nat}(d:Fo e tree){k:Nat}(hn:¬Cn e tree (e k).1 (e k).2){v w:Int}:Cn e (tree++[k]) v w ↔
 Cn e tree v w\/(Cn e tree v (e k).1/\Cn e tree (e k).2 w)\/(Cn e tree v (e k).2/\Cn e tree (e k).1 w):=by
 constructor
 .rintro⟨r,h⟩
  rcases NB.split h with h1|⟨r1,r2,x,h1,h2,b,c,_⟩
  .exact .inl ⟨r,h1⟩
  .have a:=NB.once d hn b c
   right
   rcases b with hx|hx
   .left
    have:C14.oth e k x=(e k).2:=by unfold C14.oth;omega
    rw[this]at a
    rw[hx]
    exact⟨⟨_,h2⟩,⟨_,a.start⟩⟩
   .right
    have:C14.oth e k x=(e k).1:=by unfold C14.oth;omega
    rw[this]at a
    rw[hx]
    exact⟨⟨_,h2⟩,⟨_,a.start⟩⟩
 .have hm:∀j∈tree,j∈tree++[k]:=λj hj=>bJ _ hj
  have hk:Cn e (tree++[k]) (e k).1 (e k).2:=⟨[k],by simp,by omega,.inl rfl,by show _=_;unfold C14.oth;omega⟩
  rintro(h|⟨h1,h2⟩|⟨h1,h2⟩)
  .exact h.mono hm
  .exact((h1.mono hm).trans hk).trans (h2.mono hm)
  .exact((h1.mono hm).trans hk.symm).trans (h2.mono hm)
end
section
variable(e:Nat->Int×Int)
def fo(tree:List Nat):Nat->Int->Int->Int->Option (List Nat)
 |0,_,_,_=>none
 |f+1,v,w,l=>if v=w then some []else
  tree.findSome? λ(k:Nat)=>if (k:Int)=l\/¬dO e k v then none else(fo tree f (oth e k v) w k).map (k::·)
def Tm(tree:List Nat):Nat->Int->Int->Prop
 |0,_,_=>False
 |f+1,v,l=>∀k∈tree,(k:Int)≠l->dO e k v->Tm tree f (oth e k v) k
variable{e}
theorem VJ{tree:List Nat}:∀{f:Nat} {v w l:Int} {r:List Nat},fo e tree f v w l=some r->NB e tree v l r w
 |0,_,_,_,_,h=>by cases h
 |f+1,v,w,l,r,h=>by
  rw[fo]at h
  split at h
  .next hv=>cases h;exact hv
  .obtain⟨k,hk,hs⟩:=List.exists_of_findSome?_eq_some h
   split at hs
   .cases hs
   .next hc=>
    cases hd:fo e tree f (oth e k v) w k with
    |none=>rw[hd]at hs;cases hs
    |some r'=>
     rw[hd]at hs
     cases hs
     exact⟨hk,λh0=>hc (.inl h0),cX λh0=>hc (.inr h0),VJ hd⟩
theorem zdr{tree:List Nat}:∀{r:List Nat} {f:Nat} {v w l:Int},NB e tree v l r w->r.length<f->(fo e tree f v w l).isSome
 |r,0,_,_,_,_,h=>by omega
 | [],f+1,v,w,l,h,_=>by
  have:v=w:=h
  rw[fo,aG this]
  rfl
 |k::r,f+1,v,w,l,h,hl=>by
  rw[fo]
  split
  .rfl
  .rw[List.findSome?_isSome_iff]
   refine⟨k,h.1,?_⟩
   rw[aD (λh0=>h0.elim h.2.1 λh1=>h1 h.2.2.1)]
   have:=zdr (r:=r) (f:=f) h.2.2.2 (by simpa using hl)
   rw[Option.isSome_map]
   exact this
theorem pO{tree:List Nat}:∀{f:Nat} {v l:Int},¬Tm e tree f v l->∃r w,NB e tree v l r w/\r.length=f
 |0,v,_,_=>⟨[],v,rfl,rfl⟩
 |f+1,v,l,h=>by
  apply eB
  intro hn
  apply h
  intro k hk hl hi
  apply eB
  intro a
  obtain⟨r,w,h1,h2⟩:=pO a
  exact hn ⟨k::r,w,⟨hk,hl,hi,h1⟩,by simp[h2]⟩
theorem Fo.tm{tree:List Nat}(a:Fo e tree)(v l:Int):Tm e tree (tree.length+1) v l:=by
 apply eB
 intro h
 obtain⟨r,w,h1,h2⟩:=pO h
 have:=a.short h1
 omega
def way(e:Nat->Int×Int)(tree:List Nat)(v w:Int):Option (List Nat):=fo e tree (tree.length+1) v w (-1)
theorem jD{tree:List Nat}(b:Fo e tree){v w:Int}:(way e tree v w).isSome↔Cn e tree v w:=by
 constructor
 .intro h
  obtain⟨r,a⟩:=Option.isSome_iff_exists.mp h
  exact⟨r,VJ a⟩
 .rintro⟨r,a⟩
  have:=b.short a
  exact zdr a O
theorem WG{tree:List Nat}(a:Fo e tree){v w:Int}{r:List Nat}(h:way e tree v w=some r):r.Nodup/\∀k∈r,k∈tree:=⟨a.nodup (VJ h),(VJ h).mem⟩
def yJ(e:Nat->Int×Int):Nat->List Nat
 |0=>[]
 |n+1=>if (way e (yJ e n) (e n).1 (e n).2).isSome then yJ e n else yJ e n++[n]
theorem jE:∀n,(yJ e n).length<=n
 |0=>aN _
 |n+1=>by have:=jE n;rw[yJ];split<;>simp<;>omega
theorem kY:∀n,∀k∈yJ e n,k<n
 |0,k,h=>by cases h
 |n+1,k,h=>by
  rw[yJ]at h
  split at h
  .have:=kY n k h;omega
  .rcases aW.mp h with h|h
   .have:=kY n k h;omega
   .have:=bC.mp h;omega
theorem ql:∀n,Fo e (yJ e n)
 |0=>Fo.nil
 |n+1=>by
  rw[yJ]
  split
  .exact ql n
  .next h=>exact Fo.add (ql n) λhc=>h ((jD (ql n)).mpr hc)
theorem Kq:∀{n:Nat} {k:Nat},k<n->Cn e (yJ e n) (e k).1 (e k).2
 |0,_,h=>by omega
 |n+1,k,h=>by
  rw[yJ]
  by_cases hk:k=n
  .subst hk
   split
   .next hs=>exact(jD (ql k)).mp hs
   .exact⟨[k],by simp,by omega,.inl rfl,by show _=_;unfold oth;omega⟩
  .have:=Kq (n:=n) (k:=k) O
   split
   .exact this
   .exact this.mono λj hj=>bJ _ hj
def K7(l:List Int)(a b:Int):List Int:=l.map λx=>if x=max (l.getD a.toNat 0) (l.getD b.toNat 0)then min (l.getD a.toNat 0) (l.getD b.toNat 0)else x
def cf(e:Nat->Int×Int)(n:Nat):Nat->List Int
 |0=>(List.range n).map λ(i:Nat)=>(i:Int)
 |m+1=>K7 (cf e n m) (e m).1 (e m).2
structure dy(e:Nat->Int×Int)(n:Nat)(tree:List Nat)(l:List Int):Prop where
 len:l.length=n
 le:∀i:Nat,i<n->0<=l.getD i 0/\l.getD i 0<=i
 cn:∀i:Nat,i<n->Cn e tree (l.getD i 0) i
 same:∀i j:Nat,i<n->j<n->(Cn e tree i j↔l.getD i 0=l.getD j 0)
theorem zeT{l:List Int}{a b:Int}{i:Nat}(h:i<l.length):(K7 l a b).getD i 0=if l.getD i 0=max (l.getD a.toNat 0) (l.getD b.toNat 0)then min (l.getD a.toNat 0) (l.getD b.toNat 0)else l.getD i 0:=by
 unfold K7
 rw[aB,List.getElem?_map,aB (l:=l) (i:=i),aE h]
 rfl
theorem GB{v w:Int}:Cn e [] v w↔v=w:=by
 constructor
 .rintro⟨r,h⟩
  cases r with
  |nil=>exact h
  |cons k r=>exact absurd h.1 Y8
 .rintro rfl;exact .refl
theorem u9{n:Nat}:∀{m:Nat},(∀k,k<m->0<=(e k).1/\(e k).1<(e k).2/\(e k).2<n)->dy e n (yJ e m) (cf e n m)
 |0,_=>by
  have hg:∀i:Nat,i<n->((List.range n).map λ(i:Nat)=>(i:Int)).getD i 0=i:=λi hi=>by
   rw[aB,List.getElem?_map,List.getElem?_range hi];rfl
  refine⟨by simp[cf],λi hi=>?_,λi hi=>?_,λi j hi hj=>?_⟩
  .rw[cf,hg i hi];omega
  .rw[cf,hg i hi];exact .refl
  .rw[cf,hg i hi,hg j hj,yJ,GB]
 |m+1,h=>by
  have c:=u9 (m:=m) λk hk=>h k O
  obtain⟨h1,h2,h3⟩:=h m O
  obtain⟨a,ha⟩:∃a:Nat,(e m).1=a:=⟨(e m).1.toNat,by omega⟩
  obtain⟨b,hb⟩:∃b:Nat,(e m).2=b:=⟨(e m).2.toNat,by omega⟩
  have d:a<n:=by omega
  have f:b<n:=by omega
  have hla:=c.le a d
  have hlb:=c.le b f
  rw[cf,yJ,ha,hb]
  have hg:∀i:Nat,i<n->(K7 (cf e n m) (a:Int) (b:Int)).getD i 0=if (cf e n m).getD i 0=max ((cf e n m).getD a 0) ((cf e n m).getD b 0)then min ((cf e n m).getD a 0) ((cf e n m).getD b 0)else(cf e n m).getD i 0:=λi hi=>zeT (by rw[c.len];exact hi)
  split
  .next hs=>
   have hc:=(jD (ql m)).mp hs
   have p:=(c.same a b d f).mp hc
   refine⟨by simp[K7,c.len],λi hi=>?_,λi hi=>?_,λi j hi hj=>?_⟩
   .have:=c.le i hi
    rw[hg i hi];split<;>omega
   .have:=c.cn i hi
    rw[hg i hi,p];split
    .next h0=>rw[h0]at this;rw[Int.max_self]at this;rw[Int.min_self];exact this
    .exact this
   .rw[c.same i j hi hj,hg i hi,hg j hj,p]
    split<;>split<;>omega
  .next hs=>
   have hc:¬Cn e (yJ e m) (e m).1 (e m).2:=λh0=>hs ((jD (ql m)).mpr (by rw[<-ha,<-hb];exact h0))
   have l:= @Cn.add e (yJ e m) (ql m) m hc
   rw[ha,hb]at l
   have q:=c.cn a d
   have r:=c.cn b f
   have hne:(cf e n m).getD a 0≠(cf e n m).getD b 0:=λh0=>hc (by rw[ha,hb];exact(c.same a b d f).mpr h0)
   generalize v:(cf e n m).getD a 0=A at *
   generalize w:(cf e n m).getD b 0=B at *
   refine⟨by simp[K7,c.len],λi hi=>?_,λi hi=>?_,λi j hi hj=>?_⟩
   .have:=c.le i hi
    rw[hg i hi];split<;>omega
   .have g:=c.cn i hi
    have hm:∀{x y:Int},Cn e (yJ e m) x y->Cn e (yJ e m++[m]) x y:=λh0=>h0.mono λj hj=>bJ _ hj
    have o:Cn e (yJ e m++[m]) A B:=((hm q).trans (l.mpr (.inr (.inl ⟨.refl,.refl⟩)))).trans (hm r.symm)
    rw[hg i hi]
    split
    .next h0=>
     rw[h0]at g
     by_cases hlt:A<B
     .rw[show max A B=B by omega]at g
      rw[show min A B=A by omega]
      exact o.trans (hm g)
     .rw[show max A B=A by omega]at g
      rw[show min A B=B by omega]
      exact o.symm.trans (hm g)
    .exact hm g
   .have e1:=c.same i j hi hj
    have e2:=c.same i a hi d
    have s:=c.same b j f hj
    have t:=c.same i b hi f
    have u:=c.same a j d hj
    rw[v]at e2 u
    rw[w]at s t
    rw[l,e1,e2,s,t,u,hg i hi,hg j hj]
    split<;>split<;>omega
end
abbrev Q2:=Rat×Rat
def zU:Q2:=(1,0)
def aft(t u:Q2):Q2:=(t.1*u.1-t.2*u.2,t.2*u.1+t.1*u.2)
def bck(t:Q2):Q2:=(t.1,-t.2)
section
variable(e:Nat->Int×Int)(T:Nat->Q2)
def qe:List Nat->Int->Q2->Q2
 | [],_,t=>t
 |k::r,v,t=>qe r (oth e k v) (aft t (if (e k).1=v then T k else bck (T k)))
def jj(k:Nat):Option (List Nat):=
 match way e (yJ e k) (e k).1 (e k).2 with
 |none=>none
 |some r=>if qe e T r (e k).1 zU=T k then none else some r
def first:Nat->Option (Nat×List Nat)
 |0=>none
 |n+1=>match first n with
  |some x=>some x
  |none=>(jj e T n).map (n, ·)
def Vm(l:List Int)(n:Int):List Int:=l.filter (·<n)++n::l.filter (n<·)
variable{e T}
theorem zcT{l:List Int}{n:Int}(h:l.Pairwise (·<·)):(Vm l n).Pairwise (·<·):=by
 unfold Vm
 rw[List.pairwise_append,List.pairwise_cons]
 refine⟨h.filter _,⟨λx hx=>?_,h.filter _⟩,λx hx y a=>?_⟩
 .simpa using (List.mem_filter.mp hx).2
 .have h1:x<n:=by simpa using (List.mem_filter.mp hx).2
  rcases aJ.mp a with rfl|a
  .exact h1
  .have h2:n<y:=by simpa using (List.mem_filter.mp a).2
   omega
theorem pe{l:List Int}{n x:Int}:x∈Vm l n↔x=n\/x∈l:=by
 unfold Vm
 rw[aW,aJ,List.mem_filter,List.mem_filter]
 simp only[aC]
 constructor
 .rintro(h|h|h)
  .exact .inr h.1
  .exact .inl h
  .exact .inr h.1
 .rintro(h|h)
  .exact .inr (.inl h)
  .by_cases h1:x<n
   .exact .inl ⟨h,h1⟩
   .by_cases h2:x=n
    .exact .inr (.inl h2)
    .exact .inr (.inr ⟨h,by omega⟩)
theorem Qe:∀{r l:List Int},l.Pairwise (·<·)->(r.foldl Vm l).Pairwise (·<·)
 | [],_,h=>h
 |_::r,_,h=>Qe (r:=r) (zcT h)
theorem zdg{x:Int}:∀{r l:List Int},x∈r.foldl Vm l↔x∈l\/x∈r
 | [],l=>by simp
 |y::r,l=>by
  rw[List.foldl_cons,zdg,pe,aJ]
  constructor
  .rintro((h|h)|h)
   .exact .inr (.inl h)
   .exact .inl h
   .exact .inr (.inr h)
  .rintro(h|h|h)
   .exact .inl (.inr h)
   .exact .inl (.inl h)
   .exact .inr h
theorem WL{l m:List Int}(hl:l.Pairwise (·<·))(hm:m.Pairwise (·<·))(h:∀x,x∈l↔x∈m):l=m:=by
 induction l generalizing m with
 |nil=>
  cases m with
  |nil=>rfl
  |cons y m=>have:=(h y).mpr Y8;cases this
 |cons x l b=>
  cases m with
  |nil=>have:=(h x).mp Y8;cases this
  |cons y m=>
   rw[List.pairwise_cons]at hl hm
   have e1:x=y:=by
    have h1:=(h x).mp Y8
    have h2:=(h y).mpr Y8
    rcases aJ.mp h1 with h1|h1
    .exact h1
    .rcases aJ.mp h2 with h2|h2
     .exact h2.symm
     .have:=hl.1 y h2;have:=hm.1 x h1;omega
   subst e1
   rw[b hl.2 hm.2 λz=>?_]
   have a:=h z
   simp only[aJ]at a
   constructor
   .intro h1
    have:=hl.1 z h1
    rcases a.mp (.inr h1)with h2|h2
    .omega
    .exact h2
   .intro h1
    have:=hm.1 z h1
    rcases a.mpr (.inr h1)with h2|h2
    .omega
    .exact h2
theorem zfk{k:Nat}{r:List Nat}(d:r.Nodup)(hk:∀j∈r,j<k){s:List Int}(hs:s.Pairwise (·<=·))(hp:s.Perm ((r++[k]).map λ(j:Nat)=>(j:Int))) :
 (r.map λ(j:Nat)=>(j:Int)).foldl Vm [(k:Int)]=s:=by
 have hn:((r++[k]).map λ(j:Nat)=>(j:Int)).Nodup:=by
  refine List.Pairwise.map (R:=λa b=>a≠b) _ (λa b h h2=>h O) ?_
  rw[List.pairwise_append]
  exact⟨d,by simp,λa ha b hb=>by have:=hk a ha;have:=bC.mp hb;omega⟩
 have c:s.Nodup:=hp.nodup_iff.mpr hn
 refine WL (Qe Y8) ?_ λx=>?_
 .exact(hs.and c).imp λh=>by omega
 .rw[zdg,hp.mem_iff,List.map_append,aW]
  simp only[List.map_cons,List.map_nil,bC]
  exact Or.comm
end
section
variable{e:Nat->Int×Int}
theorem zcd{n:Nat}{tree:List Nat}{l:List Int}(a:Fo e tree)(h:dy e n tree l){i:Nat}(hi:i<n):(way e tree (l.getD i 0) i).isSome:=(jD a).mpr (h.cn i hi)
end
def Tn(D:Nat)(t:Q2):Prop:=∃(d:Nat) (x y:Int),0<d/\d<=D/\x*x+y*y=(d:Int)*(d:Int)/\t.1=mkRat x d/\t.2=mkRat y d
theorem XU{x d:Int}{y:Int}(hd:0<d)(h:x*x+y*y=d*d):x.natAbs<=d.natAbs:=by
 have hy:0<=y*y:=by rcases Int.le_total 0 y with h0|h0;exact Int.mul_nonneg h0 h0;exact Int.mul_nonneg_of_nonpos_of_nonpos h0 h0
 have hx:x*x<=d*d:=by omega
 have e:(x.natAbs:Int)*x.natAbs=x*x:=by rw[<-Int.natCast_mul,Int.natAbs_mul_self]
 apply cX
 intro hc
 have h1:d+1<=(x.natAbs:Int):=by omega
 have h2:(d+1)*(d+1)<=(x.natAbs:Int)*x.natAbs:=Int.mul_le_mul h1 h1 O O
 rw[e]at h2
 have h3:(d+1)*(d+1)=d*d+2*d+1:=by rw[Int.add_mul,Int.mul_add,Int.one_mul,Int.mul_one];omega
 omega
theorem Tn.le{D E:Nat}{t:Q2}(h:Tn D t)(hDE:D<=E):Tn E t:=by
 obtain⟨d,x,y,h1,h2,a⟩:=h
 exact⟨d,x,y,h1,by omega,a⟩
theorem Tn.bd{D:Nat}{t:Q2}(h:Tn D t):Bd t.1 D D/\Bd t.2 D D:=by
 obtain⟨d,x,y,h1,h2,b,e1,e2⟩:=h
 have a:(0:Int)<d:=by omega
 have hx:=XU a b
 have c:=XU (x:=y) (y:=x) a (by rw[<-b];omega)
 rw[Int.natAbs_natCast]at hx c
 rw[e1,e2]
 exact⟨(@ee x d).le O O,(@ee y d).le O O⟩
theorem Tn.one{D:Nat}{t:Q2}(h:Tn D t):t.1*t.1+t.2*t.2=1:=by
 obtain⟨d,x,y,h1,h2,b,e1,e2⟩:=h
 have a:d*d≠0:=Nat.mul_ne_zero O O
 rw[e1,e2,dZ,dZ,Rat.mkRat_add_mkRat _ _ a a,<-Int.add_mul,b,<-Int.natCast_mul]
 rw[Rat.mkRat_mul_right a]
 have:=Rat.mkRat_mul_right (n:=1) (d:=1) a
 rw[Int.one_mul,eG]at this
 rw[this]
 rfl
theorem eN:Tn 1 zU:=⟨1,1,0,by omega,by omega,rfl,by rw[zU];rfl,by rw[zU];rfl⟩
theorem Tn.bck{D:Nat}{t:Q2}(h:Tn D t):Tn D (bck t):=by
 obtain⟨d,x,y,h1,h2,a,e1,e2⟩:=h
 refine⟨d,x,-y,h1,h2,by rw[Int.neg_mul_neg];exact a,e1,?_⟩
 show -t.2=_
 rw[e2,Rat.neg_mkRat]
theorem Tn.aft{D E:Nat}{t u:Q2}(h:Tn D t)(c:Tn E u):Tn (D*E) (aft t u):=by
 obtain⟨d,x,y,h1,h2,f,e1,e2⟩:=h
 obtain⟨e,p,q,g1,g2,b,f1,f2⟩:=c
 have a:d*e≠0:=Nat.mul_ne_zero O O
 refine⟨d*e,x*p-y*q,y*p+x*q,Nat.mul_pos h1 g1,eE h2 g2,?_,?_,?_⟩
 .have:((d*e:Nat):Int)*((d*e:Nat):Int)=(d*d:Int)*(e*e:Int):=by rw[Int.natCast_mul];grind
  rw[this,<-f,<-b]
  grind
 .show t.1*u.1-t.2*u.2=_
  rw[e1,e2,f1,f2,dZ,dZ,Rat.sub_eq_add_neg,Rat.neg_mkRat,Rat.mkRat_add_mkRat _ _ a a,<-Int.add_mul,Rat.mkRat_mul_right a,Int.sub_eq_add_neg]
 .show t.2*u.1+t.1*u.2=_
  rw[e1,e2,f1,f2,dZ,dZ,Rat.mkRat_add_mkRat _ _ a a,<-Int.add_mul,Rat.mkRat_mul_right a]
theorem Tn.quarter{D:Nat}{t:Q2}(h:Tn D t):Tn D (-t.2,t.1):=by
 obtain⟨d,x,y,h1,h2,h3,e1,e2⟩:=h
 refine⟨d,-y,x,h1,h2,by rw[Int.neg_mul_neg];omega,?_,e1⟩
 show -t.2=_
 rw[e2,Rat.neg_mkRat]
def Tx(d:Nat)(t:Q2):Prop:=0<d/\∃x y:Int,x*x+y*y=(d:Int)*(d:Int)/\t.1=mkRat x d/\t.2=mkRat y d
theorem Tn.ex{D:Nat}{t:Q2}(h:Tn D t):∃d,d<=D/\Tx d t:=by
 obtain⟨d,x,y,h0,h1,h2⟩:=h
 exact⟨d,h1,h0,x,y,h2⟩
theorem zbM:Tx 1 zU:=⟨by omega,1,0,rfl,by rw[zU];rfl,by rw[zU];rfl⟩
theorem Tx.bck{d:Nat}{t:Q2}(h:Tx d t):Tx d (bck t):=by
 obtain⟨h0,x,y,h1,h2,a⟩:=h
 refine⟨h0,x,-y,by rw[Int.neg_mul_neg];exact h1,h2,?_⟩
 show -t.2=_
 rw[a,Rat.neg_mkRat]
theorem Tx.aft{d e:Nat}{t u:Q2}(h:Tx d t)(k:Tx e u):Tx (d*e) (aft t u):=by
 obtain⟨h0,x,y,h1,h2,i⟩:=h
 obtain⟨f,x',j,g,b,c⟩:=k
 have a:d*e≠0:=Nat.mul_ne_zero Oz Oz
 refine⟨Nat.mul_pos h0 f,x*x'-y*j,y*x'+x*j,?_,?_,?_⟩
 .have:((d*e:Nat):Int)*((d*e:Nat):Int)=(d*d:Int)*(e*e:Int):=by rw[Int.natCast_mul];grind
  rw[this,<-h1,<-g]
  grind
 .show t.1*u.1-t.2*u.2=_
  rw[h2,i,b,c,dZ,dZ,Rat.sub_eq_add_neg,Rat.neg_mkRat,Rat.mkRat_add_mkRat _ _ a a,<-Int.add_mul,Rat.mkRat_mul_right a,Int.sub_eq_add_neg]
 .show t.2*u.1+t.1*u.2=_
  rw[h2,i,b,c,dZ,dZ,Rat.mkRat_add_mkRat _ _ a a,<-Int.add_mul,Rat.mkRat_mul_right a]
def pr(D:Nat->Nat):List Nat->Nat
 | []=>1
 |k::r=>D k*pr D r
theorem zcr{D:Nat->Nat}:∀{t:List Nat} {k:Nat},k∈t->pr D t=D k*pr D (t.erase k)
 |j::t,k,h=>by
  by_cases e:j=k
  .subst e
   rw[List.erase_cons_head,pr]
  .have a:k∈t:=(aJ.mp h).resolve_left λq=>e q.symm
   rw[List.erase_cons_tail (by simpa using e),pr,pr,zcr a,Nat.mul_left_comm]
theorem rf{D:Nat->Nat}:∀{r t:List Nat},r.Nodup->(∀k∈r,k∈t)->pr D r∣pr D t
 | [],_,_,_=>Nat.one_dvd _
 |k::r,t,hn,hs=>by
  rw[List.nodup_cons]at hn
  rw[zcr (hs k (aO ..)),pr]
  refine Nat.mul_dvd_mul (Nat.dvd_refl _) (rf hn.2 λj hj=>?_)
  have ne:j≠k:=λe=>hn.1 (by rw[<-e];exact hj)
  exact(List.mem_erase_of_ne ne).mpr (hs j (aP _ hj))
theorem rh{D:Nat->Nat}{f:Nat->Nat}:∀l:List Nat,pr D (l.map f)=pr (λk=>D (f k)) l
 | []=>rfl
 |k::l=>by rw[List.map_cons,pr,pr,rh l]
theorem zdP{e:Nat->Int×Int}{T:Nat->Q2}{D:Nat->Nat}:∀{r:List Nat} {v:Int} {t:Q2} {d:Nat},(∀k∈r,Tx (D k) (T k))->Tx d t->Tx (d*pr D r) (qe e T r v t)
 | [],v,t,d,_,h=>by rw[pr,cG];exact h
 |k::r,v,t,d,a,h=>by
  rw[pr,<-Nat.mul_assoc,qe]
  refine zdP (λj hj=>a j (aP _ hj)) (h.aft ?_)
  have hk:=a k (aO ..)
  split
  .exact hk
  .exact hk.bck
structure Ed where
 fr:Nat
 to:Nat
 m:Rat
def wt:List Ed->Rat
 | []=>0
 |c::r=>c.m+wt r
theorem ZB(a b:List Ed):wt (a++b)=wt a+wt b:=by
 induction a with
 |nil=>rw[cJ,wt,Rat.zero_add]
 |cons c a d=>rw[bY,wt,wt,d,Rat.add_assoc]
def PR(l:List Ed):Nat->List Ed->Nat->Prop
 |v,[],u=>v=u
 |v,c::r,u=>c.to=v/\c∈l/\PR l c.fr r u
def vs:Nat->List Ed->List Nat
 |v,[]=>[v]
 |v,c::r=>v::vs c.fr r
theorem zen:∀(v:Nat) (r:List Ed),(vs v r).length=r.length+1
 |_,[]=>rfl
 |v,c::r=>by rw[vs,aU,zen,aU]
theorem PR.app{l:List Ed}:∀{v w u:Nat} {a b:List Ed},PR l v a w->PR l w b u->PR l v (a++b) u
 |_,_,_,[],_,h,g=>by obtain rfl:_=_:=h;exact g
 |_,_,_,c::a,_,⟨h1,h2,d⟩,g=>⟨h1,h2,PR.app d g⟩
theorem PR.mem{l:List Ed}:∀{x u w:Nat} {r:List Ed},PR l x r u->w∈vs x r->∃a b,r=a++b/\PR l x a w/\PR l w b u
 |x,u,w,[],h,hw=>by
  obtain rfl:=bC.mp hw
  exact⟨[],[],rfl,rfl,h⟩
 |x,u,w,c::r,⟨h1,h2,d⟩,hw=>by
  rcases aJ.mp hw with rfl|hw
  .exact⟨[],c::r,rfl,rfl,h1,h2,d⟩
  .obtain⟨a,b,e,g1,g2⟩:=PR.mem d hw
   exact⟨c::a,b,by rw[e];rfl,⟨h1,h2,g1⟩,g2⟩
theorem PR.twice{l:List Ed}:∀{v u:Nat} {r:List Ed},PR l v r u->¬(vs v r).Nodup->∃w a b c,r=a++(b++c)/\PR l v a w/\PR l w b w/\PR l w c u/\b≠[]
 |v,u,[],_,hn=>(hn (List.nodup_cons.mpr ⟨by simp,List.nodup_nil⟩)).elim
 |v,u,c::r,⟨h1,h2,f⟩,hn=>by
  rw[vs,List.nodup_cons]at hn
  by_cases hv:v∈vs c.fr r
  .obtain⟨a,b,e,g1,g2⟩:=PR.mem f hv
   exact⟨v,[],c::a,b,by rw[e];rfl,rfl,⟨h1,h2,g1⟩,g2,by simp⟩
  .obtain⟨w,a,b,d,e,g1,g2,g,i⟩:=PR.twice f λh=>hn ⟨hv,h⟩
   exact⟨w,c::a,b,d,by rw[e];rfl,⟨h1,h2,g1⟩,g2,g,i⟩
def eu(l:List Ed)(y:Nat->Rat):Prop:=∀c∈l,y c.to<=y c.fr+c.m
theorem Yc{a b c:Rat}(h:a<=b):a+c<=b+c:=Rat.add_le_add_right.mpr h
theorem lK{a b c:Rat}(h:c+a<=c+b):a<=b:=Rat.add_le_add_left.mp h
theorem eu.path{l:List Ed}{y:Nat->Rat}(h:eu l y):∀{v u:Nat} {r:List Ed},PR l v r u->y v<=y u+wt r
 |v,u,[],e=>by obtain rfl:v=u:=e;rw[wt,Rat.add_zero];exact dH
 |v,u,c::r,⟨h1,h2,a⟩=>by
  have g1:=h c h2
  have g2:=eu.path h a
  rw[h1]at g1
  refine dP g1 ?_
  rw[wt,Rat.add_comm c.m,<-Rat.add_assoc]
  exact Yc g2
theorem eu.circle{l:List Ed}{y:Nat->Rat}(h:eu l y){w:Nat}{r:List Ed}(g:PR l w r w):0<=wt r:=by
 have:=h.path g
 rw[<-Rat.add_zero (y w),Rat.add_assoc,Rat.zero_add]at this
 exact lK this
theorem short{l:List Ed}{n:Nat}(hn:∀c∈l,c.fr<n/\c.to<n){y:Nat->Rat}(h:eu l y) :
 ∀(k:Nat) {v u:Nat} {r:List Ed},r.length=k->v<n->PR l v r u->∃f,PR l v f u/\f.length<n/\wt f<=wt r:=by
 intro k
 induction k using Nat.strongRecOn with
 |ind k i=>
  intro v u r hk hv hp
  by_cases g:r.length<n
  .exact⟨r,hp,g,dH⟩
  have mem:∀(r:List Ed) (v:Nat),v<n->PR l v r u->∀w∈vs v r,w<n:=by
   intro r
   induction r with
   |nil=>intro v hv _ w hw;rw[bC.mp hw];exact hv
   |cons c r i=>
    intro v hv hp w hw
    rcases aJ.mp hw with rfl|hw
    .exact hv
    .exact i c.fr (hn c hp.2.1).1 hp.2.2 w hw
  have d:¬(vs v r).Nodup:=λd=>by
   have:=QX d (t:=List.range n) λw hw=>dX.mpr (mem r v hv hp w hw)
   rw[zen,List.length_range]at this
   omega
  obtain⟨w,a,b,c,e,g1,g2,j,m⟩:=hp.twice d
  have hb:0<b.length:=List.length_pos_iff.mpr m
  have hl:(a++c).length<k:=by
   rw[<-hk,e]
   simp only[aQ]
   omega
  obtain⟨f,o,p,q⟩:=i _ hl rfl hv (g1.app j)
  refine⟨f,o,p,dP q ?_⟩
  have:=h.circle g2
  rw[e,ZB,ZB,ZB]
  refine Rat.add_le_add_left.mpr ?_
  have:=Yc (c:=wt c) this
  rw[Rat.zero_add]at this
  exact this
structure Rx(l:List Ed)(n:Nat)(x:Nat->Rat):Prop where
 way:∀v,v<n->∃r u,PR l v r u/\x v=wt r
def UB(l:List Ed)(n k:Nat)(x:Nat->Rat):Prop:=∀v r u,v<n->PR l v r u->r.length<=k->x v<=wt r
theorem Rx.zero{l:List Ed}{n:Nat}:Rx l n λ_=>0:=⟨λv _=>⟨[],v,rfl,rfl⟩⟩
theorem UB.zero{l:List Ed}{n:Nat}:UB l n 0 λ_=>0:=λv r u _ _ hr=>by
 obtain rfl:r=[]:=bV.mp Oz
 exact dH
theorem done{l:List Ed}{n k:Nat}(hn:∀c∈l,c.fr<n/\c.to<n){y x:Nat->Rat}(h:eu l y)(a:Rx l n x)(hu:UB l n k x)(hk:n<=k+1):eu l x:=by
 intro c hc
 obtain⟨r,u,hp,e⟩:=a.way c.fr (hn c hc).1
 obtain⟨r',b,q2,d⟩:=short hn h _ rfl (hn c hc).2 (show PR l c.to (c::r) u from⟨rfl,hc,hp⟩)
 refine dP (hu _ _ _ (hn c hc).2 b Oz) (dP d ?_)
 rw[wt,e,Rat.add_comm]
 exact dH
theorem Rx.top{l:List Ed}{n:Nat}(hn:∀c∈l,c.fr<n/\c.to<n){x y:Nat->Rat}(a:Rx l n x)(h:eu l y)(h0:∀v,v<n->y v<=0){v:Nat}(hv:v<n):y v<=x v:=by
 obtain⟨r,u,hp,e⟩:=a.way v hv
 have hu:u<n:=by
  have:∀(r:List Ed) (v:Nat),v<n->PR l v r u->u<n:=by
   intro r
   induction r with
   |nil=>intro v hv h;rw[<-show v=u from h];exact hv
   |cons c r b=>intro v _ h;exact b c.fr (hn c h.2.1).1 h.2.2
  exact this r v hv hp
 have:=h.path hp
 rw[e]
 refine dP this ?_
 have:=Yc (c:=wt r) (h0 u hu)
 rw[Rat.zero_add]at this
 exact this
theorem jt{α β:Type}{g:α->Option β}{l:List α}{i:Nat}(d:α)(hi:i<l.length)(h:l.findSome? g=(l.drop i).findSome? g)(hg:g (l.getD i d)=none):l.findSome? g=(l.drop (i+1)).findSome? g:=by
 rw[h,List.drop_eq_getElem_cons hi,List.findSome?_cons]
 have e:l.getD i d=l[i]:=by simp[aB,aE hi]
 rw[e]at hg
 rw[hg]
theorem YS{α β:Type}{g:α->Option β}{l:List α}{i:Nat}{b:β}(d:α)(hi:i<l.length)(h:l.findSome? g=(l.drop i).findSome? g)(hg:g (l.getD i d)=some b):l.findSome? g=some b:=by
 rw[h,List.drop_eq_getElem_cons hi,List.findSome?_cons]
 have e:l.getD i d=l[i]:=by simp[aB,aE hi]
 rw[e]at hg
 rw[hg]
theorem zaU{α β:Type}{g:α->Option β}{l:List α}{i:Nat}(hi:l.length<=i)(h:l.findSome? g=(l.drop i).findSome? g):l.findSome? g=none:=by
 rw[h,List.drop_eq_nil_of_le hi]
 rfl
theorem uJ{α β:Type}{g:α->Option β}{p:α->Bool}:∀{l:List α},(∀a∈l,p a=false->g a=none)->(l.filter p).findSome? g=l.findSome? g
 | [],_=>rfl
 |a::l,h=>by
  have c:=uJ (g:=g) (p:=p) (l:=l) λb hb=>h b (by simp[hb])
  rw[List.filter_cons,List.findSome?_cons]
  cases hp:p a with
  |true=>rw[aG rfl,List.findSome?_cons,c]
  |false=>
   rw[aD Y8,c,h a Y8 hp]
section
variable{e:Nat->Int×Int}
theorem mB{n:Nat}:∀{m:Nat},n<=m->∃r,yJ e m=yJ e n++r:=by
 intro m h
 induction h with
 |refl=>exact⟨[],by simp⟩
 |step _ b=>
  obtain⟨r,a⟩:=b
  rw[yJ]
  split
  .exact⟨r,a⟩
  .exact⟨r++_,by rw[a,bF]⟩
theorem sn{n m:Nat}(h:n<=m):(yJ e n).length<=(yJ e m).length:=by
 obtain⟨r,a⟩:=mB (e:=e) h
 rw[a,aQ]
 omega
end
def uA(c:Nat):Nat->Nat
 |0=>0
 |f+1=>6*(c+uA c f)+c
theorem zhA(c:Nat):∀f,uA c f<=uA c (f+1)
 |0=>by simp[uA]
 |f+1=>by have:=zhA c f;rw[uA,uA];omega
theorem lf(c:Nat){f g:Nat}(h:f<=g):uA c f<=uA c g:=by
 induction h with
 |refl=>exact aN _
 |step _ a=>exact bK a (zhA c _)
theorem Nb(c:Nat):uA c 7=391909*c:=by simp only[uA];omega
def Un(t:Q2):Prop:=t.1*t.1+t.2*t.2=1
theorem xQ(a b c:Q2):aft (aft a b) c=aft a (aft b c):=by
 unfold aft
 refine Prod.ext ?_ ?_<;>dsimp only<;>grind
theorem Zn(a:Q2):aft a zU=a:=by
 unfold aft zU
 refine Prod.ext ?_ ?_<;>dsimp only<;>grind
theorem gP(a:Q2):aft zU a=a:=by
 unfold aft zU
 refine Prod.ext ?_ ?_<;>dsimp only<;>grind
theorem Y6{a:Q2}(h:Un a):aft (bck a) a=zU:=by
 unfold Un at h
 unfold aft bck zU
 refine Prod.ext ?_ ?_<;>dsimp only<;>grind
theorem zbr{a:Q2}(h:Un a):aft a (bck a)=zU:=by
 unfold Un at h
 unfold aft bck zU
 refine Prod.ext ?_ ?_<;>dsimp only<;>grind
theorem Yr:Un zU:=by unfold Un zU;grind
theorem Un.bck{a:Q2}(h:Un a):Un (bck a):=by
 unfold Un at h |-
 unfold Go.Proofs.C14.bck
 dsimp only
 grind
theorem Un.aft{a b:Q2}(h:Un a)(g:Un b):Un (aft a b):=by
 unfold Un at h g |-
 unfold Go.Proofs.C14.aft
 dsimp only
 have:(a.1*b.1-a.2*b.2)*(a.1*b.1-a.2*b.2)+(a.2*b.1+a.1*b.2)*(a.2*b.1+a.1*b.2)=(a.1*a.1+a.2*a.2)*(b.1*b.1+b.2*b.2):=by grind
 rw[this,h,g];grind
section
variable{e:Nat->Int×Int}{T:Nat->Q2}
structure Cw(e:Nat->Int×Int)(T:Nat->Q2)(n:Nat)(τ:Int->Q2):Prop where
 un:∀v,Un (τ v)
 fit:∀k,k<n->τ (e k).2=aft (τ (e k).1) (T k)
theorem VX(g:Q2):∀(r:List Nat) (v:Int) (t:Q2),qe e T r v (aft g t)=aft g (qe e T r v t)
 | [],_,_=>rfl
 |k::r,v,t=>by rw[qe,qe,xQ];exact VX g r _ _
theorem JL{n:Nat}{τ:Int->Q2}(b:∀k,k<n->Un (T k))(h:Cw e T n τ){tree:List Nat}(c:∀k∈tree,k<n):∀{r:List Nat} {v l w:Int},NB e tree v l r w->qe e T r v (τ v)=τ w
 | [],v,l,w,hn=>by obtain rfl:v=w:=hn;rfl
 |k::r,v,l,w,hn=>by
  obtain⟨h1,h2,d,f⟩:=hn
  have hk:=c k h1
  have key:aft (τ v) (if (e k).1=v then T k else bck (T k))=τ (oth e k v):=by
   by_cases hv:(e k).1=v
   .rw[aG hv,show oth e k v=(e k).2 by unfold oth;omega,h.fit k hk,hv]
   .have a:(e k).2=v:=d.resolve_left hv
    rw[aD hv,show oth e k v=(e k).1 by unfold oth;omega,<-a,h.fit k hk,xQ,zbr (b k hk),Zn]
  rw[qe,key]
  exact JL b h c f
theorem XP{n:Nat}{τ:Int->Q2}(a:∀k,k<n->Un (T k))(h:Cw e T n τ){tree:List Nat}(c:∀k∈tree,k<n){r:List Nat}{v w:Int}(b:way e tree v w=some r):qe e T r v zU=aft (bck (τ v)) (τ w):=by
 have h1:=JL a h c (VJ b)
 have h2:=VX (e:=e) (T:=T) (bck (τ v)) r v (τ v)
 rw[Y6 (h.un v),h1]at h2
 exact h2
theorem Cw.le{m n:Nat}{τ:Int->Q2}(h:Cw e T n τ)(hm:m<=n):Cw e T m τ:=⟨h.un,λk hk=>h.fit k Oz⟩
theorem JN{τ:Int->Q2}:∀{n:Nat},(∀k,k<n->Un (T k))->Cw e T n τ->first e T n=none
 |0,_,_=>rfl
 |n+1,a,h=>by
  rw[first,JN (λk hk=>a k Oz) (h.le Oz)]
  show(jj e T n).map _=none
  have:jj e T n=none:=by
   unfold jj
   split
   .rfl
   .next r b=>
    rw[aG]
    rw[XP a h (λk hk=>by have:=kY n k hk;omega) b,h.fit n Oz,<-xQ,Y6 (h.un _),gP]
  rw[this];rfl
theorem Jt:∀{n:Nat},(∀k,k<n->Un (T k))->first e T n=none->∃τ,Cw e T n τ
 |0,_,_=>⟨λ_=>zU,λ_=>Yr,λk hk=>by omega⟩
 |n+1,f,h=>by
  rw[first]at h
  cases hf:first e T n with
  |some x=>rw[hf]at h;cases h
  |none=>
   rw[hf]at h
   obtain⟨τ,hτ⟩:=Jt (λk hk=>f k Oz) hf
   have hc:jj e T n=none:=by
    cases hc:jj e T n with
    |none=>rfl
    |some r=>rw[hc]at h;cases h
   cases hw:way e (yJ e n) (e n).1 (e n).2 with
   |some r=>
    unfold jj at hc
    rw[hw]at hc
    dsimp only at hc
    split at hc
    .next c=>
     refine⟨τ,hτ.un,λk hk=>?_⟩
     by_cases b:k=n
     .subst b
      rw[XP (λk hk=>f k Oz) hτ (kY _) hw]at c
      rw[<-c,<-xQ,zbr (hτ.un _),gP]
     .exact hτ.fit k Oz
    .cases hc
   |none=>
    have hn:¬Cn e (yJ e n) (e n).1 (e n).2:=λhc=>by
     have:=(jD (ql n)).mpr hc
     rw[hw]at this;cases this
    have g:Un (aft (aft (τ (e n).1) (T n)) (bck (τ (e n).2))):=((hτ.un _).aft (f n Oz)).aft (hτ.un _).bck
    open Classical in
    refine⟨λv=>if Cn e (yJ e n) (e n).2 v then aft (aft (aft (τ (e n).1) (T n)) (bck (τ (e n).2))) (τ v)else τ v,λv=>?_,λk hk=>?_⟩
    .split
     .exact g.aft (hτ.un v)
     .exact hτ.un v
    .by_cases b:k=n
     .subst b
      rw[aG Cn.refl,aD (λh=>hn h.symm),xQ,Y6 (hτ.un _),Zn]
     .have a:k<n:=by omega
      have d:=Kq (e:=e) a
      by_cases hb:Cn e (yJ e n) (e n).2 (e k).1
      .rw[aG hb,aG (hb.trans d),hτ.fit k a,xQ,xQ]
       rw[xQ,xQ,xQ]
      .rw[aD hb,aD (λh=>hb (h.trans d.symm))]
       exact hτ.fit k a
end
end Go.Proofs.C14
