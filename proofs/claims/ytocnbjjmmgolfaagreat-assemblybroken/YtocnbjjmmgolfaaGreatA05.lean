/- Append, whole. -/
import Derived.Test.YtocnbjjmmgolfaaGreatA04
set_option linter.unusedSimpArgs false
set_option linter.unusedVariables false
set_option linter.unusedSectionVars false
namespace Go.M
section
variable{P:Program}{β:aS}{s:St}{w:World}
theorem c8.after{a:aS}{s₁:St}{c:World}(h:bp P β s w a s₁ c)(hnext:s₁.next=s.next)(hβ:a=β){r:cE Next}{j:Result Next}(i:c8 P a s₁ c r j):c8 P β s w r j:=by
 subst hβ
 cases r with
 |stuck=>trivial
 |ok n s'=>
  intro hf
  obtain⟨β',w',g,h1,h2,f⟩:=i (λb hl hu=>hf b O hu)
  exact⟨β',w',g,h1,h.trans h2 hf,f⟩
 |panic v s'=>
  intro hf
  obtain⟨β',w',g,h1,h2,f⟩:=i (λb hl hu=>hf b O hu)
  exact⟨β',w',g,h1,h.trans h2 hf,f⟩
theorem zcG{d:TypeDesc}{inf:TypeInfo}{x x':Value}(hx:ao P β x x'){new:List Value}(hn:eC (some d) inf x s=some (0,new)):new=[]:=by
 unfold eC at hn
 split at hn
 .split at hn
  .split at hn
   .simp only[bH,Prod.mk.injEq]at hn
    obtain⟨h1,h2⟩:=hn
    rw[h1]at h2
    simpa using h2.symm
   .cases hn
  .cases hn
 .split at hn
  .rename_i k hk
   split at hn
   .rename_i l hl
    simp only[bH,Prod.mk.injEq]at hn
    obtain⟨rfl,rfl⟩:=hn
    cases hx<;>simp only[FU,bH,reduceCtorEq]at hk
    case string t=>cases hl
    all_goals exact dL (by rw[vU hl Y8];simp)
   .cases hn
  .cases hn
 .cases hn
theorem bh.drewW(h:bh P β s w):bh P β s (drewW w):=h.of_heap rfl
section
variable{argTypes:Array TypeId}{sType xType e:TypeId}{d:TypeDesc}{inf:TypeInfo}
theorem zdM(h:bh P β s w)(h0:argTypes[0]? = some sType)(h1:argTypes[1]? = some xType)(hs:P.underlying sType=some (.slice e))(hd:P.underlying xType=some d)
 (hi:P.info? e=some inf) {base:Option Addr} {a cap n:Nat} {l x x':Value} (o:ao P β (.slice base a cap) l) (hx:ao P β x x') {new:List Value}
 (hn:eC (some d) inf x s=some (n,new)) (hfit:a+n<=cap / 2) {b off:Nat} (i:base=some ⟨b,off,none⟩) {s₁:St} {p:Next}
 (j:xu b (off+a*inf.size) new s=.ok p s₁) (ty:TypeId) :
 c8 P β s w (di (.slice base (a+n) cap) s₁) ((ya (Builtin.append_ argTypes ty #[l,x'])).run P w):=by
 intro _
 subst i
 obtain⟨new',ha,g⟩:=ue h hx hn
 have small:∀(m:dm) (o':Nat) (f:Nat),β b=some m->a+n=0->∃w',(Builtin.append_ argTypes ty #[.slice (some ⟨m.blk,o',none⟩) a f,x']).run P w=.ok (.slice (some ⟨m.blk,o',none⟩) (a+n) f) w'/\bp P β s w β s₁ w':=by
  intro m o' f hb hz
  have k:n=0:=by omega
  subst k
  have:=zcG hx hn
  subst this
  cases g
  obtain⟨_,w',g1,g2⟩:=xh h hb .nil j
  refine⟨w',?_,g2⟩
  rw[kZ h0 h1 hs hd hi ha O ty]
  have:w'=w:=by
   have:(storeCells ⟨m.blk,off+a*inf.size+m.sh,none⟩ []).run P w=.ok () w:=rfl
   rw[this]at g1;cases g1;rfl
  subst this
  rfl
 cases o with
 | @sknown _ _ _ c m hb=>
  obtain⟨_,w',g1,g2⟩:=xh h hb g j
  refine⟨β,w',.value (.slice (some ⟨m.blk,off+m.sh,none⟩) (a+n) c),z4 ?_,g2,_,rfl,.sknown hb⟩
  rw[kZ h0 h1 hs hd hi ha O ty]
  simp only[kI]
  rw[show off+m.sh+a*inf.size=off+a*inf.size+m.sh by omega,g1]
  rfl
 | @sgrown _ _ _ c f m hb hc hsz=>
  obtain⟨_,w',g1,g2⟩:=xh h hb g j
  refine⟨β,w',.value (.slice (some ⟨m.blk,off+m.sh,none⟩) (a+n) f),z4 ?_,g2,_,rfl,.sgrown hb hc hsz⟩
  rw[kZ h0 h1 hs hd hi ha O ty]
  simp only[kI]
  rw[show off+m.sh+a*inf.size=off+a*inf.size+m.sh by omega,g1]
  rfl
 | @sempty _ _ off' f m hb hsz=>
  obtain⟨w',g1,g2⟩:=small m off' f hb O
  refine⟨β,w',_,z4 g1,g2,_,rfl,?_⟩
  have:0+n=0:=by omega
  rw[this]
  exact .sempty hb hsz
 | @szero _ _ off' m hb=>
  obtain⟨w',g1,g2⟩:=small m off' 0 hb O
  refine⟨β,w',_,z4 g1,g2,_,rfl,?_⟩
  have:0+n=0:=by omega
  rw[this]
  exact .szero hb
theorem vI(h:bh P β s w)(h0:argTypes[0]? = some sType)(h1:argTypes[1]? = some xType)(hs:P.underlying sType=some (.slice e))(hd:P.underlying xType=some d)
 (hi:P.info? e=some inf) {base:Option Addr} {b cap n:Nat} {f:Option Addr} {g:Nat} {x x':Value} (t:ao P β (.slice base b cap) (.slice f b g)) (hx:ao P β x x')
 {new old:List Value} (hn:eC (some d) inf x s=some (n,new)) (m:¬b+n<=g) (hg:Zw inf (b+n) n new=true)
 (ho:xM inf.size b (.slice base b cap) s=some old) (ty:TypeId) {s₁:St} (hk:bp P β s w β s₁ w) (k:s₁.next=s.next) :
 c8 P β s w (uP e (old++new) (b+n) s₁) ((ya (Builtin.append_ argTypes ty #[.slice f b g,x'])).run P w):=by
 obtain⟨i,ha,o⟩:=ue h.drewW hx hn
 obtain⟨j,hold,r⟩:=uq h.drewW t ho (λa len c e=>by cases e;exact aN _)
 obtain⟨g1,g2,u,z,v,y⟩:=Vp hg
 obtain⟨A,q,p⟩:=KC (w:=w) h0 h1 hs hd hi ha m g1 v hold ty
 have l:old.length=b*inf.size:=vU ho (λhb=>by subst hb;cases t;rfl)
 refine c8.after hk k rfl (zeP hk.rel hi (r.append o) q (rest:=Builtin.zeroCells z.cells (A-(b+n))) ?_ ?_ ?_)
 .rw[aQ,l,u,dM]
 .rw[uS,y]
 .have e1:(⟨j⟩++⟨i⟩:Array Value)=⟨j++i⟩:=by apply Array.ext';simp
  exact z4 (by rw[p,e1])
theorem Y9(h:bh P β s w)(h0:argTypes[0]? = some sType)(h1:argTypes[1]? = some xType)(hs:P.underlying sType=some (.slice e))(hd:P.underlying xType=some d)
 (hi:P.info? e=some inf) {b off a cap n o' f:Nat} {m:dm} {x x':Value} (hb:β b=some m) (hx:ao P β x x') {c:List Value} (q:s.get b=some (.cells c e)) (A:e=m.elem)
 {new old:List Value} (hn:eC (some d) inf x s=some (n,new)) (k:a+n<=f) (hroomc:m.sh<=o'/\o'+f*inf.size<=m.size) (hg:Zw inf (a+n) n new=true)
 (ho:xM inf.size a (.slice (some ⟨b,off,none⟩) a cap) s=some old) (C:a=0\/o'=off+m.sh) (y:s.may b=true) (ty:TypeId) :
 c8 P β s w (uP e (old++new) (a+n) (s.put b none)) ((ya (Builtin.append_ argTypes ty #[.slice (some ⟨m.blk,o',none⟩) a f,x'])).run P w):=by
 unfold uP
 split
 .rename_i r
  intro hf
  have I:β s.next=none:=hf s.next Z3 Y8
  obtain⟨g,ha,l⟩:=ue h hx hn
  obtain⟨g1,g2,E,z,g4,g5⟩:=Vp hg
  obtain⟨_,c',L,K,G,hsz,hfz,hc⟩:=h.row hb q
  have o:old.length=a*inf.size:=vU ho Y8
  have B:=l.length
  have hmul:(a+n)*inf.size<=f*inf.size:=bQ _ k
  rw[dM]at hmul
  have H:o'+a*inf.size+g.length<=c'.size:=by rw[B,E];omega
  have D:=run_storeCells_cells (P:=P) m.blk (o'+a*inf.size) g 0 w (λj hj=>by
   simp only[World.cell?,G,bM]
   have:o'+a*inf.size+j<c'.size:=by omega
   simp[this])
   (λj hj=>by
    simp only[World.frozen?,G,bM]
    have h1:=hfz.2 (o'+a*inf.size+j) O (by rw[B,E]at hj;omega)
    simp only[eK,bO]
    by_cases h2:K.1<=o'+a*inf.size+j
    .exact .inr λM=>h1 ⟨h2,M⟩
    .exact .inl h2)
   (l.oneCell g2)
  rw[bM]at D
  obtain⟨c₂,R,S,T,U⟩:=jm m.blk g (o'+a*inf.size) w c' L K G H
  obtain⟨V,W,X,Y,Z⟩:=wG m.blk g (o'+a*inf.size) w
  refine⟨_,_,.value (.slice (some ⟨m.blk,o',none⟩) (a+n) f),z4 ?_,
   bp.move h (m₁:=⟨m.blk,o',m.size,m.elem,false⟩) hb q y (by simpa[St.room]using r) I rfl rfl V W ⟨_,R,?_⟩ X Y Z,_,rfl,?_⟩
  .rw[kZ h0 h1 hs hd hi ha k ty]
   simp only[kI]
   rw[D]
   rfl
  .refine .cells A (by rw[S];exact hsz) (.inr (by simp only[aQ,o,E];omega)) (λi N Q=>hfz.2 i (by simp only at N;omega) Q) λi v hv=>?_
   rw[List.getElem?_append]at hv
   split at hv
   .rename_i u
    rcases C with p|p
    .rw[o,p]at u;omega
    have F:c[off+i]? = some v:=by
     unfold xM at ho
     simp only[q]at ho
     rw[y7,yR]at ho
     split at ho
     .cases ho
      simp only[bX]at u
      rw[List.getElem?_take_of_lt O,dV]at hv
      exact hv
     .cases ho
    obtain⟨v',t,J⟩:=hc (off+i) v F
    refine⟨v',?_,J⟩
    show c₂[i+o']? = some v'
    rw[T _ O,p,show i+(off+m.sh)=off+i+m.sh by omega]
    exact t
   .rename_i hge
    obtain⟨v',t,J⟩:=l.get hv
    refine⟨v',?_,J⟩
    have:=U _ v' t
    show c₂[i+o']? = some v'
    rw[show i+o'=o'+a*inf.size+(i-old.length)by omega]
    exact this
  .have hv:=ao.sgrown (P:=P) (β:=β.add s.next ⟨m.blk,o',m.size,m.elem,false⟩) (b:=s.next) (off:=0) (len:=a+n) (c:=a+n) (cap:=f) (m:=⟨m.blk,o',m.size,m.elem,false⟩) aS.add_self k (by
    show 0+o'+f*P.cellsOf m.elem<=m.size
    rw[<-A]
    simp only[Program.cellsOf,hi,cQ,bN]
    omega)
   simpa using hv
 .exact .stuck
end
theorem zbo(h:bh P β s w){argTypes:Array TypeId}{args args':List Value}(ha:bc P β args args')(ty:TypeId) :
 c8 P β s w (xe P argTypes.toList args s) ((ya (Builtin.append_ argTypes ty ⟨args'⟩)).run P w):=by
 unfold xe
 split
 .rename_i sType xType rest base t cap x k
  have h0:argTypes[0]? = some sType:=by rw[<-Array.getElem?_toList,k];rfl
  have h1:argTypes[1]? = some xType:=by rw[<-Array.getElem?_toList,k];rfl
  cases ha with
  | @cons _ y' _ _ v ha=>
  cases ha with
  | @cons _ x' _ _ hx ha=>
  cases ha
  split
  .rename_i e hs
   split
   .rename_i inf hi
    split
    .rename_i n new hn
     cases hd:P.underlying xType with
     |none=>rw[hd]at hn;simp[eC]at hn
     |some d=>
     rw[hd]at hn
     unfold qc
     split
     .rename_i f
      simp only[Nat.ble_eq]at f
      split
      .rename_i b off
       split
       .rename_i nx s₁ A
        exact zdM h h0 h1 hs hd hi v hx hn f rfl A ty
       .exact .stuck
      .rename_i g
       split
       .cases v with
        |snil=>
         obtain⟨new',y,u⟩:=ue h hx hn
         have:=zcG hx hn
         subst this
         cases u
         refine .value h (v':=.slice none 0 0) .snil (z4 ?_)
         rw[kZ h0 h1 hs hd hi y O ty]
         rfl
        |sknown hb=>exact(g _ _ rfl).elim
        |sgrown hb _ _=>exact(g _ _ rfl).elim
        |sempty hb _=>exact(g _ _ rfl).elim
        |szero hb=>exact(g _ _ rfl).elim
       .exact .stuck
     .rename_i f
      have f:¬t+n<=cap / 2:=λC=>by rw[aZ C]at f;cases f
      split
      .rename_i old hg ho
       simp only[aF]at hg
       unfold Zv X8
       split
       .rename_i s₁ hk
        split at hk
        .rename_i hev
         cases hk
         -- the capacity is known
         cases v with
         |snil=>exact vI h h0 h1 hs hd hi .snil hx hn O hg.1 ho ty (bp.refl h) rfl
         |sknown hb=>exact vI h h0 h1 hs hd hi (.sknown hb) hx hn O hg.1 ho ty (bp.refl h) rfl
         |szero hb=>exact vI h h0 h1 hs hd hi (.szero hb) hx hn O hg.1 ho ty (bp.refl h) rfl
         |sgrown hb _ _=>omega
         |sempty hb _=>omega
        .rename_i z
         split at hk
         .rename_i a
          split at hk
          .rename_i j
           cases hk
           have r:cap % 2=1:=(Nat.mod_two_eq_zero_or_one cap).resolve_left z
           cases v with
           |sknown hb=>omega
           |szero hb=>omega
           | @sgrown b off _ c l m hb hc hsz=>
            obtain⟨B,o,q⟩:=WT h hb r hg.2
            have i:P.cellsOf m.elem=inf.size:=by rw[<-q];simp[Program.cellsOf,hi]
            by_cases p:t+n<=l
            .exact Y9 h h0 h1 hs hd hi hb hx o q hn p (by rw[i]at hsz;exact⟨by omega,hsz⟩) hg.1 ho (.inr rfl) j ty
            .exact vI h h0 h1 hs hd hi (.sgrown hb hc hsz) hx hn p hg.1 ho ty (bp.kill h (h.lt o) j) rfl
           | @sempty b off off' l m hb hsz=>
            obtain⟨B,o,q⟩:=WT h hb r hg.2
            have i:P.cellsOf m.elem=inf.size:=by rw[<-q];simp[Program.cellsOf,hi]
            by_cases p:0+n<=l
            .exact Y9 h h0 h1 hs hd hi hb hx o q hn p (by rw[i]at hsz;exact hsz) hg.1 ho (.inl rfl) j ty
            .exact vI h h0 h1 hs hd hi (.sempty hb hsz) hx hn p hg.1 ho ty (bp.kill h (h.lt o) j) rfl
          .cases hk
         .cases hk
       .exact .stuck
      .exact .stuck
    .exact .stuck
   .exact .stuck
  .exact .stuck
 .exact .stuck
end
end Go.M
