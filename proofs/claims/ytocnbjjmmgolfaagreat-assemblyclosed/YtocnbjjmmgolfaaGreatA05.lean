/- Append, whole. -/
import Derived.Test.YtocnbjjmmgolfaaGreatA04
set_option linter.unusedSimpArgs false
set_option linter.unusedVariables false
set_option linter.unusedSectionVars false
namespace Go.M
section
variable{P:Program}{β:Ren}{s:St}{w:World}
theorem OpS.after{β₁:Ren}{s₁:St}{w₁:World}(h:Ext P β s w β₁ s₁ w₁)(hnext:s₁.next=s.next)(hβ:β₁=β){r:Res Next}{g:Result Next}(f:OpS P β₁ s₁ w₁ r g):OpS P β s w r g:=by
 subst hβ
 cases r with
 |stuck=>trivial
 |ok n s'=>
  intro hf
  obtain⟨β',w',c,h1,h2,a⟩:=f (fun b hl hu=>hf b O hu)
  exact⟨β',w',c,h1,h.trans h2 hf,a⟩
 |panic v s'=>
  intro hf
  obtain⟨β',w',c,h1,h2,a⟩:=f (fun b hl hu=>hf b O hu)
  exact⟨β',w',c,h1,h.trans h2 hf,a⟩
theorem zcm{d:TypeDesc}{inf:TypeInfo}{x x':Value}(hx:VRel P β x x'){new:List Value}(hn:newL (some d) inf x s=some (0,new)):new=[]:=by
 unfold newL at hn
 split at hn
 ·split at hn
  ·split at hn
   ·simp only[bF,Prod.mk.injEq]at hn
    obtain⟨h1,h2⟩:=hn
    rw[h1]at h2
    simpa using h2.symm
   ·cases hn
  ·cases hn
 ·split at hn
  ·rename_i k hk
   split at hn
   ·rename_i l hl
    simp only[bF,Prod.mk.injEq]at hn
    obtain⟨rfl,rfl⟩:=hn
    cases hx<;>simp only[zct,bF,reduceCtorEq]at hk
    case string t=>cases hl
    all_goals exact dK (by rw[vO hl Y8];simp)
   ·cases hn
  ·cases hn
 ·cases hn
theorem Rel.drewW(h:Rel P β s w):Rel P β s (drewW w):=h.of_heap rfl
section
variable{argTypes:Array TypeId}{sType xType e:TypeId}{d:TypeDesc}{inf:TypeInfo}
theorem zdo(h:Rel P β s w)(h0:argTypes[0]? = some sType)(h1:argTypes[1]? = some xType)(hs:P.underlying sType=some (.slice e))(hd:P.underlying xType=some d)
 (hi:P.info? e=some inf) {base:Option Addr} {sLen cap n:Nat} {j x x':Value} (k:VRel P β (.slice base sLen cap) j) (hx:VRel P β x x') {new:List Value}
 (hn:newL (some d) inf x s=some (n,new)) (hfit:sLen+n≤cap / 2) {b off:Nat} (f:base=some ⟨b,off,none⟩) {s₁:St} {l:Next}
 (g:xy b (off+sLen*inf.size) new s=.ok l s₁) (ty:TypeId) :
 OpS P β s w (okV (.slice base (sLen+n) cap) s₁) ((z3 (Builtin.append_ argTypes ty #[j,x'])).run P w):=by
 intro _
 subst f
 obtain⟨new',ha,a⟩:=j6 h hx hn
 have small:∀(m:Img) (o':Nat) (cap':Nat),β b=some m→sLen+n=0→∃w',(Builtin.append_ argTypes ty #[.slice (some ⟨m.blk,o',none⟩) sLen cap',x']).run P w=.ok (.slice (some ⟨m.blk,o',none⟩) (sLen+n) cap') w'∧Ext P β s w β s₁ w':=by
  intro m o' cap' hb hz
  have i:n=0:=by omega
  subst i
  have:=zcm hx hn
  subst this
  cases a
  obtain⟨_,w',g1,g2⟩:=xg h hb .nil g
  refine⟨w',?_,g2⟩
  rw[kX h0 h1 hs hd hi ha O ty]
  have:w'=w:=by
   have:(storeCells ⟨m.blk,off+sLen*inf.size+m.sh,none⟩ []).run P w=.ok () w:=rfl
   rw[this]at g1;cases g1;rfl
  subst this
  rfl
 cases k with
 | @sknown _ _ _ c m hb=>
  obtain⟨_,w',g1,g2⟩:=xg h hb a g
  refine⟨β,w',.value (.slice (some ⟨m.blk,off+m.sh,none⟩) (sLen+n) c),zW ?_,g2,_,rfl,.sknown hb⟩
  rw[kX h0 h1 hs hd hi ha O ty]
  simp only[kK]
  rw[show off+m.sh+sLen*inf.size=off+sLen*inf.size+m.sh by omega,g1]
  rfl
 | @sgrown _ _ _ c cap' m hb hc hsz=>
  obtain⟨_,w',g1,g2⟩:=xg h hb a g
  refine⟨β,w',.value (.slice (some ⟨m.blk,off+m.sh,none⟩) (sLen+n) cap'),zW ?_,g2,_,rfl,.sgrown hb hc hsz⟩
  rw[kX h0 h1 hs hd hi ha O ty]
  simp only[kK]
  rw[show off+m.sh+sLen*inf.size=off+sLen*inf.size+m.sh by omega,g1]
  rfl
 | @sempty _ _ off' cap' m hb hsz=>
  obtain⟨w',g1,g2⟩:=small m off' cap' hb O
  refine⟨β,w',_,zW g1,g2,_,rfl,?_⟩
  have:0+n=0:=by omega
  rw[this]
  exact .sempty hb hsz
 | @szero _ _ off' m hb=>
  obtain⟨w',g1,g2⟩:=small m off' 0 hb O
  refine⟨β,w',_,zW g1,g2,_,rfl,?_⟩
  have:0+n=0:=by omega
  rw[this]
  exact .szero hb
theorem vD(h:Rel P β s w)(h0:argTypes[0]? = some sType)(h1:argTypes[1]? = some xType)(hs:P.underlying sType=some (.slice e))(hd:P.underlying xType=some d)
 (hi:P.info? e=some inf) {base:Option Addr} {sLen cap n:Nat} {base':Option Addr} {cap':Nat} {x x':Value} (o:VRel P β (.slice base sLen cap) (.slice base' sLen cap')) (hx:VRel P β x x')
 {new old:List Value} (hn:newL (some d) inf x s=some (n,new)) (g:¬sLen+n≤cap') (hg:Zw inf (sLen+n) n new=true)
 (ho:xQ inf.size sLen (.slice base sLen cap) s=some old) (ty:TypeId) {s₁:St} (hk:Ext P β s w β s₁ w) (b:s₁.next=s.next) :
 OpS P β s w (uK e (old++new) (sLen+n) s₁) ((z3 (Builtin.append_ argTypes ty #[.slice base' sLen cap',x'])).run P w):=by
 obtain⟨new',ha,i⟩:=j6 h.drewW hx hn
 obtain⟨old',j,m⟩:=uk h.drewW o ho (fun a len c e=>by cases e;exact aO _)
 obtain⟨g1,g2,p,z,q,r⟩:=Vg hg
 obtain⟨t,l,k⟩:=Ky (w:=w) h0 h1 hs hd hi ha g g1 q j ty
 have f:old.length=sLen*inf.size:=vO ho (fun hb=>by subst hb;cases o;rfl)
 refine OpS.after hk b rfl (zes hk.rel hi (m.append i) l (rest:=Builtin.zeroCells z.cells (t-(sLen+n))) ?_ ?_ ?_)
 ·rw[aQ,f,p,dM]
 ·rw[uO,r]
 ·have e1:(⟨old'⟩++⟨new'⟩:Array Value)=⟨old'++new'⟩:=by apply Array.ext';simp
  exact zW (by rw[k,e1])
theorem YY(h:Rel P β s w)(h0:argTypes[0]? = some sType)(h1:argTypes[1]? = some xType)(hs:P.underlying sType=some (.slice e))(hd:P.underlying xType=some d)
 (hi:P.info? e=some inf) {b off sLen cap n o' cap':Nat} {m:Img} {x x':Value} (hb:β b=some m) (hx:VRel P β x x') {c:List Value} (l:s.get b=some (.cells c e)) (t:e=m.elem)
 {new old:List Value} (hn:newL (some d) inf x s=some (n,new)) (a:sLen+n≤cap') (hroomc:m.sh≤o'∧o'+cap'*inf.size≤m.size) (hg:Zw inf (sLen+n) n new=true)
 (ho:xQ inf.size sLen (.slice (some ⟨b,off,none⟩) sLen cap) s=some old) (A:sLen=0∨o'=off+m.sh) (r:s.may b=true) (ty:TypeId) :
 OpS P β s w (uK e (old++new) (sLen+n) (s.put b none)) ((z3 (Builtin.append_ argTypes ty #[.slice (some ⟨m.blk,o',none⟩) sLen cap',x'])).run P w):=by
 unfold uK
 split
 ·rename_i o
  intro hf
  have G:β s.next=none:=hf s.next Z3 Y8
  obtain⟨new',ha,f⟩:=j6 h hx hn
  obtain⟨g1,g2,C,z,g4,g5⟩:=Vg hg
  obtain⟨_,c',J,I,E,hsz,hfz,hc⟩:=h.row hb l
  have g:old.length=sLen*inf.size:=vO ho Y8
  have y:=f.length
  have u:(sLen+n)*inf.size≤cap'*inf.size:=bN _ a
  rw[dM]at u
  have F:o'+sLen*inf.size+new'.length≤c'.size:=by rw[y,C];omega
  have B:=run_storeCells_cells (P:=P) m.blk (o'+sLen*inf.size) new' 0 w (fun j hj=>by
   simp only[World.cell?,E,bK]
   have:o'+sLen*inf.size+j<c'.size:=by omega
   simp[this])
   (fun j hj=>by
    simp only[World.frozen?,E,bK]
    have h1:=hfz.2 (o'+sLen*inf.size+j) O (by rw[y,C]at hj;omega)
    simp only[eK,bR]
    by_cases h2:I.1≤o'+sLen*inf.size+j
    ·exact .inr fun K=>h1 ⟨h2,K⟩
    ·exact .inl h2)
   (f.oneCell g2)
  rw[bK]at B
  obtain⟨c₂,N,Q,R,S⟩:=ja m.blk new' (o'+sLen*inf.size) w c' J I E F
  obtain⟨T,U,V,W,X⟩:=wx m.blk new' (o'+sLen*inf.size) w
  refine⟨_,_,.value (.slice (some ⟨m.blk,o',none⟩) (sLen+n) cap'),zW ?_,
   Ext.move h (m₁:=⟨m.blk,o',m.size,m.elem,false⟩) hb l r (by simpa[St.room]using o) G rfl rfl T U ⟨_,N,?_⟩ V W X,_,rfl,?_⟩
  ·rw[kX h0 h1 hs hd hi ha a ty]
   simp only[kK]
   rw[B]
   rfl
  ·refine .cells t (by rw[Q];exact hsz) (.inr (by simp only[aQ,g,C];omega)) (fun i L M=>hfz.2 i (by simp only at L;omega) M) fun i v hv=>?_
   rw[List.getElem?_append]at hv
   split at hv
   ·rename_i q
    rcases A with k|k
    ·rw[g,k]at q;omega
    have D:c[off+i]? = some v:=by
     unfold xQ at ho
     simp only[l]at ho
     rw[y7,yU]at ho
     split at ho
     ·cases ho
      simp only[bU]at q
      rw[List.getElem?_take_of_lt O,dX]at hv
      exact hv
     ·cases ho
    obtain⟨v',p,H⟩:=hc (off+i) v D
    refine⟨v',?_,H⟩
    show c₂[i+o']? = some v'
    rw[R _ O,k,show i+(off+m.sh)=off+i+m.sh by omega]
    exact p
   ·rename_i hge
    obtain⟨v',p,H⟩:=f.get hv
    refine⟨v',?_,H⟩
    have:=S _ v' p
    show c₂[i+o']? = some v'
    rw[show i+o'=o'+sLen*inf.size+(i-old.length)by omega]
    exact this
  ·have hv:=VRel.sgrown (P:=P) (β:=β.add s.next ⟨m.blk,o',m.size,m.elem,false⟩) (b:=s.next) (off:=0) (len:=sLen+n) (c:=sLen+n) (cap:=cap') (m:=⟨m.blk,o',m.size,m.elem,false⟩) Ren.add_self a (by
    show 0+o'+cap'*P.cellsOf m.elem≤m.size
    rw[←t]
    simp only[Program.cellsOf,hi,cP,bL]
    omega)
   simpa using hv
 ·exact .stuck
end
theorem zaV(h:Rel P β s w){argTypes:Array TypeId}{args args':List Value}(ha:LRel P β args args')(ty:TypeId) :
 OpS P β s w (xd P argTypes.toList args s) ((z3 (Builtin.append_ argTypes ty ⟨args'⟩)).run P w):=by
 unfold xd
 split
 ·rename_i sType xType rest base sLen cap x k
  have h0:argTypes[0]? = some sType:=by rw[←Array.getElem?_toList,k];rfl
  have h1:argTypes[1]? = some xType:=by rw[←Array.getElem?_toList,k];rfl
  cases ha with
  | @cons _ y' _ _ t ha=>
  cases ha with
  | @cons _ x' _ _ hx ha=>
  cases ha
  split
  ·rename_i e hs
   split
   ·rename_i inf hi
    split
    ·rename_i n new hn
     cases hd:P.underlying xType with
     |none=>rw[hd]at hn;simp[newL]at hn
     |some d=>
     rw[hd]at hn
     unfold qg
     split
     ·rename_i f
      simp only[Nat.ble_eq]at f
      split
      ·rename_i b off
       split
       ·rename_i nx s₁ y
        exact zdo h h0 h1 hs hd hi t hx hn f rfl y ty
       ·exact .stuck
      ·rename_i g
       split
       ·cases t with
        |snil=>
         obtain⟨new',u,r⟩:=j6 h hx hn
         have:=zcm hx hn
         subst this
         cases r
         refine .value h (v':=.slice none 0 0) .snil (zW ?_)
         rw[kX h0 h1 hs hd hi u O ty]
         rfl
        |sknown hb=>exact(g _ _ rfl).elim
        |sgrown hb _ _=>exact(g _ _ rfl).elim
        |sempty hb _=>exact(g _ _ rfl).elim
        |szero hb=>exact(g _ _ rfl).elim
       ·exact .stuck
     ·rename_i f
      have f:¬sLen+n≤cap / 2:=fun A=>by rw[aZ A]at f;cases f
      split
      ·rename_i old hg ho
       simp only[aG]at hg
       unfold Zv X0
       split
       ·rename_i s₁ hk
        split at hk
        ·rename_i hev
         cases hk
         -- the capacity is known
         cases t with
         |snil=>exact vD h h0 h1 hs hd hi .snil hx hn O hg.1 ho ty (Ext.refl h) rfl
         |sknown hb=>exact vD h h0 h1 hs hd hi (.sknown hb) hx hn O hg.1 ho ty (Ext.refl h) rfl
         |szero hb=>exact vD h h0 h1 hs hd hi (.szero hb) hx hn O hg.1 ho ty (Ext.refl h) rfl
         |sgrown hb _ _=>omega
         |sempty hb _=>omega
        ·rename_i v
         split at hk
         ·rename_i a
          split at hk
          ·rename_i j
           cases hk
           have q:cap % 2=1:=(Nat.mod_two_eq_zero_or_one cap).resolve_left v
           cases t with
           |sknown hb=>omega
           |szero hb=>omega
           | @sgrown b off _ c cap' m hb hc hsz=>
            obtain⟨z,l,p⟩:=WE h hb q hg.2
            have i:P.cellsOf m.elem=inf.size:=by rw[←p];simp[Program.cellsOf,hi]
            by_cases o:sLen+n≤cap'
            ·exact YY h h0 h1 hs hd hi hb hx l p hn o (by rw[i]at hsz;exact⟨by omega,hsz⟩) hg.1 ho (.inr rfl) j ty
            ·exact vD h h0 h1 hs hd hi (.sgrown hb hc hsz) hx hn o hg.1 ho ty (Ext.kill h (h.lt l) j) rfl
           | @sempty b off off' cap' m hb hsz=>
            obtain⟨z,l,p⟩:=WE h hb q hg.2
            have i:P.cellsOf m.elem=inf.size:=by rw[←p];simp[Program.cellsOf,hi]
            by_cases o:0+n≤cap'
            ·exact YY h h0 h1 hs hd hi hb hx l p hn o (by rw[i]at hsz;exact hsz) hg.1 ho (.inl rfl) j ty
            ·exact vD h h0 h1 hs hd hi (.sempty hb hsz) hx hn o hg.1 ho ty (Ext.kill h (h.lt l) j) rfl
          ·cases hk
         ·cases hk
       ·exact .stuck
      ·exact .stuck
    ·exact .stuck
   ·exact .stuck
  ·exact .stuck
 ·exact .stuck
end
end Go.M
