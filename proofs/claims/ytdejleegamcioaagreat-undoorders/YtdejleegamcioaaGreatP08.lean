/- Drawn regions, whole. -/
/- Code and calls of the abstract machine stand for the model's. -/
/- The abstract machine is sound. -/
import Derived.Test.YtdejleegamcioaaGreatP07
import Derived.LoopN
namespace Go.M
theorem Ext.relax {P : Program} {β β' : Ren} {s s₀ s₁ : St} {w w' : World} (hh : s₀.heap = s.heap) (hn : s₀.next = s.next) (hm : ∀ b, s₀.may b = true → s.may b = true) (h : Ext P β s₀ w β' s₁ w') :
  Ext P β s w β' { next := s₁.next, bar := s.bar, prot := s.prot, heap := s₁.heap } w' := by
 have hg : ∀ b, s₀.get b = s.get b := fun b => by simp only [St.get, hh]
 exact {
  rel := h.rel.of_same rfl rfl
  le := h.le
  dom := fun b m h1 h2 => by have := h.dom b m h1 h2; rw [hn] at this; exact this
  next := by have := h.next; simp only; omega
  bar := rfl
  prot := rfl
  size := h.size
  out := fun r hr hno => h.out r hr fun b m o hb hlt hmay hgb => hno b m o hb (by omega) (hm b hmay) (by rw [← hg]; exact hgb)
  same := fun b hb hmb => by
   have hf : s₀.may b = false := by
    cases hx : s₀.may b with
    | false => rfl
    | true => rw [hm b hx] at hmb; cases hmb
   have := h.same b (by omega) hf
   rw [hg] at this
   exact this
  dead := fun b hb hd => h.dead b (by omega) (by rw [hg]; exact hd)
  fresh := fun b m h1 h2 => by
   rcases h.fresh b m h1 h2 with g | ⟨b₁, m₁, o₁, g1, g2, g3, g4, g5⟩
   ·exact .inl g
   ·exact .inr ⟨b₁, m₁, o₁, g1, by omega, hm _ g3, by rw [← hg]; exact g4, g5⟩
  os := h.os
  output := h.output
  tape := h.tape }
section
variable {P : Program} {call : FuncId → Array Value → St → CallOut} {ops : Array Oper} {l : List Drawn} {anc : Nat → Nat} {N : Nat} {A : Nat → Fr} {S : Nat → St} {β₀ : Ren} {w₀ : World} {a₀ : Act}
theorem Ctx.ext (C : Ctx P call ops l anc N A S β₀ w₀ a₀) {L : Nat → Prop} {M : Nat} {β : Ren} {a' : Act} {w : World} (I : Inv P ops l anc N A S β₀ w₀ L M β a' w) {q : Nat} (hMq : M ≤ q) (hq : q ≤ N) (hrel : Rel P β (S q) w) :
  Ext P β₀ (S 0) w₀ β (S q) w := by
 have hk := C.kp (Nat.zero_le q) hq
 exact {
  rel := hrel
  le := I.le
  dom := fun b m h1 h2 => by
   rcases I.dom b m h1 with h | ⟨p, d, g1, g2, g3, g4⟩
   ·rw [h2] at h; cases h
   ·have := I.before p d g1 g2
    exact ⟨Nat.le_trans (C.kp (Nat.zero_le p) (by omega)).next g3, Nat.lt_of_lt_of_le g4 (C.kp (by omega : p + 1 ≤ q) hq).next⟩
  next := hk.next
  bar := hk.bar
  prot := hk.prot
  size := I.size
  out := I.out
  same := hk.same
  dead := hk.dead
  fresh := I.fresh
  os := I.os
  output := I.output
  tape := I.tape }
theorem Ctx.finish (C : Ctx P call ops l anc N A S β₀ w₀ a₀) (hN : N = l.length) {L : Nat → Prop} {M : Nat} {β : Ren} {a' : Act} {w : World} (I : Inv P ops l anc N A S β₀ w₀ L M β a' w) (hall : ∀ i, i < ops.size → L i) :
  OutP P β₀ (S 0) w₀ (.normal (A N) (S N)) .normal a' w := by
 have hsz : ∀ i (o : Oper), ops[i]? = some o → i < ops.size := fun i o ho => by
  rcases Nat.lt_or_ge i ops.size with hh | hh
  ·exact hh
  ·rw [Array.getElem?_eq_none hh] at ho; cases ho
 have hM : M = N := by
  have h1 := I.leN
  rcases Nat.lt_or_ge M N with hlt | hge
  ·obtain ⟨d, hd⟩ : ∃ d, l[M]? = some d := ⟨l[M], by simp [hN ▸ hlt]⟩
   obtain ⟨o, ho⟩ := C.plan.op M d hd
   have := I.before M d hd (hall _ (hsz _ o ho))
   omega
  ·omega
 subst hM
 refine ⟨rfl, β, C.ext I (Nat.le_refl M) (Nat.le_refl M) I.rel, (⟨by rw [I.tsize, C.chain.size M (Nat.le_refl M)], by rw [C.chain.size M (Nat.le_refl M)]; exact C.small, fun t => ?_, I.defers⟩)⟩
 by_cases ht : t < (A 0).size
 ·by_cases hex : ∃ (p : Nat) (d : Drawn) (o : Oper), l[p]? = some d ∧ ops[d.ix]? = some o ∧ o.dst = some t
  ·obtain ⟨p, d, o, hp, ho, hd⟩ := hex
   have hl := hall _ (hsz _ o ho)
   have hv := I.filled p d o t hp ho hl hd ht
   have hpM := I.before p d hp hl
   have : (A M).get t = (A (p + 1)).get t := C.chain.keepsSlot C.small t (p + 1) M (by omega) (Nat.le_refl M) fun r e oe h1 h2 he hoe hde => by
    have heq := C.plan.dst e.ix d.ix oe o t hoe ho hde hd
    have := C.pos he hp heq
    omega
   rw [this]; exact hv
  ·have : (A M).get t = (A 0).get t := C.chain.keepsSlot C.small t 0 M (Nat.zero_le _) (Nat.le_refl M) fun r e oe h1 h2 he hoe hde => hex ⟨r, e, oe, he, hoe, hde⟩
   rw [this]
   exact I.old t ht fun p d o hp ho _ hd => hex ⟨p, d, o, hp, ho, hd⟩
 ·have h1 : ∀ q, q ≤ M → (A q).get t = (A 0).get t := by
   intro q
   induction q with
   | zero => intro _; rfl
   | succ q ih =>
    intro hq
    obtain ⟨d, o, _, _, hr⟩ := C.chain.step q (by omega)
    obtain ⟨v, hv⟩ := drawOp_frame hr
    rw [hv, put_ge (by rw [C.chain.size q (by omega)]; exact C.small) (by rw [C.chain.size q (by omega)]; omega)]
    exact ih (by omega)
  rw [h1 M (Nat.le_refl M)]
  have h2 : a'.tmps.getD t undef = a₀.tmps.getD t undef := by
   rw [Array.getD_eq_getD_getElem?, Array.getD_eq_getD_getElem?, Array.getElem?_eq_none (by rw [I.tsize]; omega), Array.getElem?_eq_none (by rw [C.fr.size]; omega)]
  rw [h2]
  exact (C.fr.get t).mono I.le
def Ends (P : Program) (call : FuncId → Array Value → St → CallOut) (ops : Array Oper) (l : List Drawn) (N : Nat) (A : Nat → Fr) (S : Nat → St) (r : Out) : Prop :=
 (N = l.length ∧ r = .normal (A N) (S N)) ∨
 ∃ d o c a₁ s₁, l[N]? = some d ∧ ops[d.ix]? = some o ∧ yr P call ops.toList d o (A N) (S N) = .panic c a₁ s₁ ∧ r = .panic c a₁ s₁
theorem Ctx.sched (C : Ctx P call ops l anc N A S β₀ w₀ a₀) {r : Out} (hend : Ends P call ops l N A S r) (hfree : r.free β₀ (S 0)) (Q : Exit → Act → World → Prop) (hQ : ∀ e a₂ w₂, OutP P β₀ (S 0) w₀ r e a₂ w₂ → Q e a₂ w₂) :
  ∀ (σ : List Nat) (L : Nat → Prop), Sched ops L σ → ∀ (M : Nat) (β : Ren) (a' : Act) (w : World), Inv P ops l anc N A S β₀ w₀ L M β a' w → wpOps P ops Q σ a' w := by
 intro σ
 induction σ with
 | nil =>
  intro L hs M β a' w I
  cases hs with
  | nil hall =>
   rcases hend with ⟨hN, hr⟩ | ⟨d, o, c, a₁, s₁, hd, ho, _, _⟩
   ·subst hr
    exact hQ _ _ _ (C.finish hN I hall)
   ·exfalso
    have hl := hall d.ix (by
     rcases Nat.lt_or_ge d.ix ops.size with hh | hh
     ·exact hh
     ·rw [Array.getElem?_eq_none hh] at ho; cases ho)
    have := I.before N d hd hl
    have := I.leN
    omega
 | cons i rest ih =>
  intro L hs M β a' w I
  cases hs with
  | cons hi hn he hs =>
   obtain ⟨j, d, hj, hix⟩ := C.plan.surj i hi
   obtain ⟨o, ho⟩ := C.plan.op j d hj
   rw [hix] at ho
   have X : Next1 ops l anc L i j d o := ⟨hj, hix, ho, hn, fun k hk => C.done I ho (he o ho) hk⟩
   unfold wpOps
   rw [ho]
   simp only
   rcases Nat.lt_or_ge j N with hjN | hjN
   ·obtain ⟨d', o', g1, g2, hr⟩ := C.chain.step j hjN
    rw [hj] at g1; cases g1
    rw [hix, ho] at g2; cases g2
    rw [← C.wants I hj hix (by omega) ho hn X.hanc]
    cases hw : yM ops.toList (A j) o with
    | false =>
     obtain ⟨M', I'⟩ := C.pass I X hjN hr hw
     simp only [Bool.false_eq_true, if_false]
     exact ih _ hs M' β _ w I'
    | true =>
     simp only [if_true]
     refine .inl ?_
     have hK : ∀ M' β' v' w', Inv P ops l anc N A S β₀ w₀ (fun k => L k ∨ k = i) M' β' (a'.put o.dst v') w' → wpOps P ops Q rest (a'.put o.dst v') w' := fun M' β' v' w' I' => ih _ hs M' β' _ w' I'
     cases hh : d.how with
     | light => exact C.lightOp I X hjN hr hw hh _ Q hK
     | whole => exact C.whole I X hjN hr hw hh _ Q hK
     | fresh => exact C.freshOp I X hjN hr hw hh _ Q hK
     | new => exact C.newOp I X hjN hr hw hh _ Q hK
   ·-- it panics
    rcases hend with ⟨hN, _⟩ | ⟨dN, oN, c, a₁, s₁, hdN, hoN, hpan, hr⟩
    ·exfalso
     have : j < l.length := by
      rcases Nat.lt_or_ge j l.length with hh | hh
      ·exact hh
      ·rw [List.getElem?_eq_none hh] at hj; cases hj
     omega
    ·-- the operation that panics is a whole one
     have hwant : yM ops.toList (A N) oN = true ∧ dN.how = .whole ∧ ∃ s', opM P call oN (A N) { S N with prot := yl ops.toList (A N) dN.free ++ (S N).prot } = .panic c a₁ s' ∧ s₁ = { next := s'.next, bar := (S N).bar, prot := (S N).prot, heap := s'.heap } := by
      unfold yr at hpan
      split at hpan
      ·rename_i hw
       split at hpan
       ·(repeat' split at hpan) <;> cases hpan
       ·rename_i hh
        split at hpan
        ·cases hpan
        ·rename_i c' a'' s' hop
         cases hpan
         exact ⟨hw, hh, s', hop, rfl⟩
        ·cases hpan
       ·(repeat' split at hpan) <;> cases hpan
       ·(repeat' split at hpan) <;> cases hpan
      ·cases hpan
     obtain ⟨hw, hh, s', hop, hs₁⟩ := hwant
     have hjeq : j = N := by
      rcases Nat.lt_or_ge N j with hlt | hge
      ·exfalso
       have hnl : ¬ L dN.ix := fun hl => by
        have := I.before N dN hdN hl
        have := I.leN
        omega
       have hp := C.plan.pair N j dN d hlt hdN hj
       cases hb : (anc d.ix).testBit dN.ix with
       | true => rw [hix] at hb; exact hnl (X.hanc _ hb)
       | false =>
        have := (hp.2.2 hb).1
        rw [hh] at this; cases this
      ·omega
     subst hjeq
     rw [hj] at hdN; cases hdN
     rw [hix, ho] at hoN; cases hoN
     rw [← C.wants I hj hix (Nat.le_refl j) ho hn X.hanc, hw]
     simp only [if_true]
     refine .inl ?_
     subst hr hs₁
     have hrelj := C.relAt I X (Nat.le_refl j) (.inl I.leN)
     have hext := C.ext I I.leN (Nat.le_refl j) hrelj
     have hfr : Free β (S j) s' := hext.freeOf hfree
     refine qA C.hc (hrelj.of_same (T := { S j with prot := yl ops.toList (A j) d.free ++ (S j).prot }) rfl rfl) (C.operands I hj hix (Nat.le_refl j) ho hn X.hanc) (by rw [hop]; simp) (by rw [hop]; exact hfr) _ Q (fun v v' s'' β' w' he => by rw [hop] at he; cases he) fun ch ch' s'' β' w' he hx hch => ?_
     rw [hop] at he
     simp only [Out.panic.injEq] at he
     obtain ⟨rfl, _, rfl⟩ := he
     have hx' := Ext.relax (s := S j) (s₀ := { S j with prot := yl ops.toList (A j) d.free ++ (S j).prot }) rfl rfl (fun b hb => by
      unfold St.may at hb ⊢
      simp only [Bool.and_eq_true, Bool.not_eq_true', List.any_append, Bool.or_eq_false_iff] at hb ⊢
      exact ⟨hb.1, hb.2.2⟩) hx
     exact hQ _ _ _ ⟨ch', β', rfl, hext.trans hx' hfree, hch, I.defers⟩
end
theorem draw_sound {P : Program} {call : FuncId → Array Value → St → CallOut} (hmix : P.follows .mixedOrders = true) (hc : CallS P call) (hk : ∀ f args s, WF s → (call f args s).keeps s) {id : Nat} {ops : Array Oper} {l : List Drawn}
  (hplan : planB ops.toList l = true) (hops : ops.toList.all (fun o => o.op.operands.toList.all qg) = true) {a : Fr} {a' : Act} {s : St} {β : Ren} {w : World} (h : Rel P β s w) (hf : FRel P β a a')
  (hne : qv P call ops.toList l a s ≠ .stuck) (hfree : (qv P call ops.toList l a s).free β s) : (Code.region id ops true).wp P (OutP P β s w (qv P call ops.toList l a s)) a' w := by
 obtain ⟨anc, hp⟩ := plan_ok hplan
 obtain ⟨N, A, S, hA, hS, hch, hend⟩ := chain_of l a s hne
 subst hA hS
 refine wp_region_draw fun t => ?_
 have hsch : Region.schedule (P.follows .mixedOrders) ops t = Region.linearise .any ops t := by
  unfold Region.schedule
  rw [hmix]
  simp
 rw [hsch]
 have hwf : WF (S 0) := ⟨h.room, h.top⟩
 have hkN := hch.kp hk hwf N (Nat.le_refl N)
 have hfreeN : Free β (S 0) (S N) := by
  rcases hend with ⟨_, hr⟩ | ⟨d, o, c, a₁, s₁, _, _, hpan, hr⟩
  ·rw [hr] at hfree; exact hfree
  ·rw [hr] at hfree
   have := drawOp_keeps (P := P) hk hkN.wf ops.toList d o (A N)
   rw [hpan] at this
   have this : Kp (S N) s₁ := this
   exact Free.sub hfree this.next
 have C : Ctx P call ops l anc N A S β (drewW w) a' := {
  hc := hc
  hk := hk
  plan := hp
  chain := hch
  small := hf.small
  rel := h.drewW
  fr := hf
  free := hfreeN
  opsB := fun i o ho => by
   rw [List.all_eq_true] at hops
   exact hops o (by rw [Array.mem_toList_iff]; exact Array.mem_of_getElem? ho) }
 have I : Inv P ops l anc N A S β (drewW w) (fun _ => False) 0 β a' (drewW w) := {
  closed := fun _ _ _ hl => hl.elim
  before := fun _ _ _ hl => hl.elim
  wholes := fun _ _ _ _ hlt => by omega
  leN := Nat.zero_le _
  rel := h.drewW
  le := Ren.le_refl β
  dom := fun b m hb => .inl hb
  tsize := hf.size
  defers := hf.defers
  filled := fun _ _ _ _ _ _ hl => hl.elim
  old := fun t _ _ => hf.get t
  size := Nat.le_refl _
  out := fun _ _ _ => rfl
  fresh := fun b m h1 h2 => by rw [h2] at h1; cases h1
  os := rfl
  output := rfl
  tape := rfl }
 refine C.sched (r := qv P call ops.toList l (A 0) (S 0)) ?_ hfree _ (fun e a₂ w₂ ho => ?_) _ _ (linearise_sched ops (fun i o ho e he hb => (hp.edges i o ho e he hb).1) t) 0 β a' (drewW w) I
 ·rcases hend with ⟨h1, h2⟩ | ⟨d, o, c, a₁, s₁, g1, g2, g3, g4⟩
  ·exact .inl ⟨h1, h2⟩
  ·exact .inr ⟨d, o, c, a₁, s₁, g1, g2, g3, g4⟩
 ·have back : ∀ β' s', Ext P β (S 0) (drewW w) β' s' w₂ → Ext P β (S 0) w β' s' w₂ := fun β' s' hx => ⟨hx.rel, hx.le, hx.dom, hx.next, hx.bar, hx.prot, hx.size, hx.out, hx.same, hx.dead, hx.fresh, hx.os, hx.output, hx.tape⟩
  cases hr : qv P call ops.toList l (A 0) (S 0) with
  | normal a₁ s₁ => rw [hr] at ho; obtain ⟨h1, β', h2, h3⟩ := ho; exact ⟨h1, β', back _ _ h2, h3⟩
  | exit i a₁ s₁ => rw [hr] at ho; obtain ⟨h1, β', h2, h3⟩ := ho; exact ⟨h1, β', back _ _ h2, h3⟩
  | ret a₁ s₁ => rw [hr] at ho; obtain ⟨h1, β', h2, h3⟩ := ho; exact ⟨h1, β', back _ _ h2, h3⟩
  | panic c a₁ s₁ => rw [hr] at ho; obtain ⟨c', β', h1, h2, h3, h4⟩ := ho; exact ⟨c', β', h1, back _ _ h2, h3, h4⟩
  | stuck => rw [hr] at ho; exact ho
end Go.M
namespace Go.M
structure TableS (P : Program) (I : zJ) : Prop where
 next : ∀ f g, I f = some g → ∀ args s, (g args s).nextLe s
 keeps : ∀ f g, I f = some g → ∀ args s, WF s → (g args s).keeps s
 sound : ∀ f g, I f = some g → ∀ args args' s β w, Rel P β s w → LRel P β args.toList args'.toList → g args s ≠ .stuck → (g args s).free β s → Calls P f args' w (CallP P β s w (g args s))
def CodeS (P : Program) (code : Code → Fr → St → Out) : Prop :=
 ∀ c a a' s β w, xM c = true → Rel P β s w → FRel P β a a' → code c a s ≠ .stuck → (code c a s).free β s → c.wp P (OutP P β s w (code c a s)) a' w
theorem Out.next_trans {s s₁ : St} {r : Out} (h : s.next ≤ s₁.next) (hr : r.nextLe s₁) : r.nextLe s := by
 cases r <;> first | exact Nat.le_trans h hr | trivial
theorem drawOp_next {P : Program} {call : FuncId → Array Value → St → CallOut} (hc : ∀ f args s, (call f args s).nextLe s) (ops : List Oper) (d : Drawn) (o : Oper) (a : Fr) (s : St) : (yr P call ops d o a s).nextLe s := by
 unfold yr
 split
 ·split
  ·split
   ·split
    ·exact Nat.le_refl _
    ·trivial
   ·trivial
  ·have h1 := opM_next (P := P) hc o a { s with prot := yl ops a d.free ++ s.prot }
   split
   ·rename_i hr; rw [hr] at h1; exact h1
   ·rename_i hr; rw [hr] at h1; exact h1
   ·trivial
  ·have h1 := opM_next (P := P) hc o a { s with bar := s.next }
   split
   ·rename_i hr; rw [hr] at h1; exact h1
   ·trivial
  ·split
   ·split
    ·split
     ·show s.next ≤ s.next + 1; omega
     ·trivial
    ·trivial
   ·trivial
 ·exact Nat.le_refl _
theorem drawM_next {P : Program} {call : FuncId → Array Value → St → CallOut} (hc : ∀ f args s, (call f args s).nextLe s) (ops : List Oper) : ∀ (l : List Drawn) (a : Fr) (s : St), (qv P call ops l a s).nextLe s
 | [], a, s => Nat.le_refl _
 | d :: l, a, s => by
  unfold qv
  split
  ·rename_i o _
   have h1 := drawOp_next (P := P) hc ops d o a s
   cases hr : yr P call ops d o a s with
   | normal a₁ s₁ =>
    rw [hr] at h1
    exact Out.next_trans h1 (drawM_next hc ops l a₁ s₁)
   | exit id a₁ s₁ => rw [hr] at h1; exact h1
   | ret a₁ s₁ => rw [hr] at h1; exact h1
   | panic c a₁ s₁ => rw [hr] at h1; exact h1
   | stuck => trivial
  ·trivial
section
variable {P : Program} {I : zJ}
theorem callWith_next (hI : TableS P I) {code : Code → Fr → St → Out} (hn : ∀ c a s, (code c a s).nextLe s) (f : FuncId) (args : Array Value) (s : St) : (yQ P I code f args s).nextLe s := by
 unfold yQ
 split
 ·rename_i g hg; exact hI.next f g hg args s
 ·split
  ·split
   ·rename_i c _
    unfold bodyM
    split
    ·rename_i fn _ _ _ _ _
     have h1 := hn c (Fr.make args fn.ntmps) s
     split
     ·rename_i hr; rw [hr] at h1
      rename_i a₁ s₁ _
      unfold finish
      split <;> first | exact h1 | trivial
     ·rename_i hr; rw [hr] at h1
      unfold finish
      split <;> first | exact h1 | trivial
     ·rename_i hr; rw [hr] at h1; exact h1
     ·trivial
    ·trivial
   ·trivial
  ·trivial
theorem callWith_keeps (hI : TableS P I) {code : Code → Fr → St → Out} (hk : ∀ c a s, WF s → (code c a s).keeps s) (f : FuncId) (args : Array Value) (s : St) (h : WF s) : (yQ P I code f args s).keeps s := by
 unfold yQ
 split
 ·rename_i g hg; exact hI.keeps f g hg args s h
 ·split
  ·split
   ·rename_i c _
    unfold bodyM
    split
    ·rename_i fn _ _ _ _ _
     have h1 := hk c (Fr.make args fn.ntmps) s h
     split
     ·rename_i hr; rw [hr] at h1
      unfold finish
      split <;> first | exact h1 | trivial
     ·rename_i hr; rw [hr] at h1
      unfold finish
      split <;> first | exact h1 | trivial
     ·rename_i hr; rw [hr] at h1; exact h1
     ·trivial
    ·trivial
   ·trivial
  ·trivial
theorem qs (hI : TableS P I) : ∀ (n : Nat) (c : Code) (a : Fr) (s : St), (zL P I n c a s).nextLe s
 | 0, _, _, _ => trivial
 | n + 1, c, a, s => by
  have ih := qs hI n
  have hc := callWith_next hI ih
  unfold zL
  split
  ·exact Nat.le_refl _
  ·exact Nat.le_refl _
  ·rename_i x y
   have h1 := ih x a s
   cases hr : zL P I n x a s with
   | normal a₁ s₁ => rw [hr] at h1; exact Out.next_trans h1 (ih y a₁ s₁)
   | exit id a₁ s₁ => rw [hr] at h1; exact h1
   | ret a₁ s₁ => rw [hr] at h1; exact h1
   | panic c a₁ s₁ => rw [hr] at h1; exact h1
   | stuck => trivial
  ·split
   ·exact ih _ _ _
   ·exact ih _ _ _
   ·trivial
  ·rename_i id b
   have h1 := ih b a s
   cases hr : zL P I n b a s with
   | normal a₁ s₁ => rw [hr] at h1; exact h1
   | exit id' a₁ s₁ =>
    rw [hr] at h1
    simp only
    split <;> exact h1
   | ret a₁ s₁ => rw [hr] at h1; exact h1
   | panic c a₁ s₁ => rw [hr] at h1; exact h1
   | stuck => trivial
  ·rename_i b
   have h1 := ih b a s
   cases hr : zL P I n b a s with
   | normal a₁ s₁ => rw [hr] at h1; exact Out.next_trans h1 (ih _ a₁ s₁)
   | exit id a₁ s₁ => rw [hr] at h1; exact h1
   | ret a₁ s₁ => rw [hr] at h1; exact h1
   | panic c a₁ s₁ => rw [hr] at h1; exact h1
   | stuck => trivial
  ·exact Nat.le_refl _
  ·exact Nat.le_refl _
  ·split
   ·exact opsM_next hc _ _ _ _
   ·split
    ·exact drawM_next hc _ _ _ _
    ·trivial
  ·trivial
theorem codeM_keeps (hI : TableS P I) : ∀ (n : Nat) (c : Code) (a : Fr) (s : St), WF s → (zL P I n c a s).keeps s
 | 0, _, _, _, _ => trivial
 | n + 1, c, a, s, h => by
  have ih := codeM_keeps hI n
  have hc := callWith_keeps hI ih
  unfold zL
  split
  ·exact Kp.refl h
  ·exact Kp.refl h
  ·rename_i x y
   have h1 := ih x a s h
   cases hr : zL P I n x a s with
   | normal a₁ s₁ => rw [hr] at h1; have h1 : Kp s s₁ := h1; exact Out.keeps_trans h1 (ih y a₁ s₁ h1.wf)
   | exit id a₁ s₁ => rw [hr] at h1; exact h1
   | ret a₁ s₁ => rw [hr] at h1; exact h1
   | panic c a₁ s₁ => rw [hr] at h1; exact h1
   | stuck => trivial
  ·split
   ·exact ih _ _ _ h
   ·exact ih _ _ _ h
   ·trivial
  ·rename_i id b
   have h1 := ih b a s h
   cases hr : zL P I n b a s with
   | normal a₁ s₁ => rw [hr] at h1; exact h1
   | exit id' a₁ s₁ =>
    rw [hr] at h1
    simp only
    split <;> exact h1
   | ret a₁ s₁ => rw [hr] at h1; exact h1
   | panic c a₁ s₁ => rw [hr] at h1; exact h1
   | stuck => trivial
  ·rename_i b
   have h1 := ih b a s h
   cases hr : zL P I n b a s with
   | normal a₁ s₁ => rw [hr] at h1; have h1 : Kp s s₁ := h1; exact Out.keeps_trans h1 (ih _ a₁ s₁ h1.wf)
   | exit id a₁ s₁ => rw [hr] at h1; exact h1
   | ret a₁ s₁ => rw [hr] at h1; exact h1
   | panic c a₁ s₁ => rw [hr] at h1; exact h1
   | stuck => trivial
  ·exact Kp.refl h
  ·exact Kp.refl h
  ·split
   ·exact opsM_keeps hc _ _ _ _ h
   ·split
    ·exact drawM_keeps hc _ _ _ _ h
    ·trivial
  ·trivial
def resF (tmps : Array Value) : ResultVar → Sem Value
 | .tmp t => pure (tmps.getD t undef)
 | .cell b t => do loadVar t (← asAddr (tmps.getD b undef))
theorem results_eq (fn : Func) (tmps : Array Value) : results fn tmps = (fn.results.mapM (resF tmps) >>= fun vs => pure (if h : vs.size = 1 then vs[0] else .tuple vs)) := rfl
theorem results_sound {β : Ren} {s : St} {w : World} (h : Rel P β s w) {a : Fr} {a' : Act} (hf : FRel P β a a') : ∀ (rs : List ResultVar) (l : List Value), y6 P a s rs = some l →
  ∃ l', (rs.mapM (resF a'.tmps)).run P w = .ok l' w ∧ LRel P β l l'
 | [], l, hl => by
  simp only [y6, Option.some.injEq] at hl
  subst hl
  exact ⟨[], rfl, .nil⟩
 | .tmp t :: rs, l, hl => by
  unfold y6 at hl
  split at hl
  ·rename_i r hr
   cases hl
   obtain ⟨l', h1, h2⟩ := results_sound h hf rs r hr
   refine ⟨a'.tmps.getD t undef :: l', ?_, .cons (hf.get t) h2⟩
   rw [List.mapM_cons]
   simp only [resF, Sem.run_bind, Sem.run_pure, Result.andThen_ok, h1]
  ·cases hl
 | .cell b t :: rs, l, hl => by
  unfold y6 at hl
  split at hl
  ·rename_i v r hv hr
   cases hl
   obtain ⟨l', h1, h2⟩ := results_sound h hf rs r hr
   obtain ⟨ad, v', g1, g2, g3⟩ := loadV_sound h (hf.get b) hv
   refine ⟨v' :: l', ?_, .cons g3 h2⟩
   rw [List.mapM_cons]
   have g0 : (asAddr (a'.tmps.getD b undef)).run P w = .ok ad w := by rw [g1]; rfl
   simp only [resF, Sem.run_bind, Sem.run_pure, Result.andThen_ok, g0, g2]
   rw [h1]
   rfl
  ·cases hl
theorem finish_sound {β : Ren} {s : St} {w : World} (h : Rel P β s w) {a : Fr} {a' : Act} (hf : FRel P β a a') {fn : Func} {v : Value} {s₁ : St} (hr : finish P fn a s = .ret v s₁) :
  s₁ = s ∧ ∃ v', (results fn a'.tmps).run P w = .ok v' w ∧ VRel P β v v' := by
 unfold finish at hr
 have key : ∀ l, y6 P a s fn.results.toList = some l → ∃ l', (results fn a'.tmps).run P w = .ok (if h : (⟨l'⟩ : Array Value).size = 1 then (⟨l'⟩ : Array Value)[0] else .tuple ⟨l'⟩) w ∧ LRel P β l l' := fun l hl => by
  obtain ⟨l', h1, h2⟩ := results_sound h hf _ l hl
  refine ⟨l', ?_, h2⟩
  rw [results_eq, Array.mapM_eq_mapM_toList]
  simp only [Sem.run_bind, Sem.run_map, h1, Result.andThen_ok, Sem.run_pure]
 split at hr
 ·rename_i v₀ hl
  cases hr
  obtain ⟨l', h1, h2⟩ := key _ hl
  cases h2 with
  | cons hv h2 =>
   cases h2
   exact ⟨rfl, _, h1, hv⟩
 ·rename_i l hn hl
  cases hr
  obtain ⟨l', h1, h2⟩ := key _ hl
  refine ⟨rfl, .tuple ⟨l'⟩, ?_, .tuple h2⟩
  rw [h1]
  have : ¬ (⟨l'⟩ : Array Value).size = 1 := fun he => by
   have hlen : l'.length = 1 := he
   have := h2.length
   rw [hlen] at this
   obtain ⟨x, hx⟩ := List.length_eq_one_iff.1 this.symm
   exact hn x hx
  rw [dif_neg this]
 ·cases hr
theorem callWith_sound (hI : TableS P I) {code : Code → Fr → St → Out} (hnx : ∀ c a s, (code c a s).nextLe s) (hcode : CodeS P code) : CallS P (yQ P I code) := by
 refine ⟨callWith_next hI hnx, fun f args args' s β w h ha hne hfree => ?_⟩
 unfold yQ at hne hfree ⊢
 cases hg : I f with
 | some g =>
  rw [hg] at hne hfree
  exact hI.sound f g hg args args' s β w h ha hne hfree
 | none =>
  rw [hg] at hne hfree
  simp only at hne hfree ⊢
  cases hfn : P.funcs[f]? with
  | none => rw [hfn] at hne; exact (hne rfl).elim
  | some fn =>
   rw [hfn] at hne hfree
   simp only at hne hfree ⊢
   cases hb : fn.body with
   | none => rw [hb] at hne; exact (hne rfl).elim
   | some c =>
    rw [hb] at hne hfree
    simp only at hne hfree ⊢
    unfold bodyM at hne hfree ⊢
    cases hck : Nat.ble (yY args.toList 0) fn.ntmps && Nat.ble fn.ntmps 65534 && xM c with
    | false => rw [hck] at hne; exact (hne rfl).elim
    | true =>
     rw [hck] at hne hfree
     simp only at hne hfree ⊢
     simp only [Bool.and_eq_true, Nat.ble_eq, y9] at hck
     obtain ⟨⟨hl1, hl2⟩, hcb⟩ := hck
     have hfr := FRel.make (n := fn.ntmps) ha (by omega) hl2
     have hw := fun h1 h2 => hcode c (Fr.make args fn.ntmps) _ s β w hcb h hfr h1 h2
     refine calls_of_wp hfn hb ?_
     cases hr : code c (Fr.make args fn.ntmps) s with
     | stuck => rw [hr] at hne; exact (hne rfl).elim
     | exit id a₁ s₁ => rw [hr] at hne; exact (hne rfl).elim
     | panic ch a₁ s₁ =>
      rw [hr] at hfree hw
      simp only at hfree ⊢
      refine wp_mono (hw (by simp) hfree) fun e a₂ w₂ ho => ?_
      obtain ⟨ch', β', rfl, hx, hch, hd⟩ := ho
      exact ⟨hd, β', ch', rfl, hx, hch⟩
     | normal a₁ s₁ =>
      rw [hr] at hfree hw hne
      simp only at hfree hne ⊢
      cases hfin : finish P fn a₁ s₁ with
      | stuck => rw [hfin] at hne; exact (hne rfl).elim
      | panic c' s' =>
       exfalso
       unfold finish at hfin
       (repeat' split at hfin) <;> cases hfin
      | ret v s' =>
       rw [hfin] at hfree
       have e1 : s' = s₁ := by
        unfold finish at hfin
        (repeat' split at hfin) <;> cases hfin <;> rfl
       subst e1
       refine wp_mono (hw (by simp) hfree) fun e a₂ w₂ ho => ?_
       obtain ⟨rfl, β', hx, hf2⟩ := ho
       obtain ⟨_, v', g1, g2⟩ := finish_sound hx.rel hf2 hfin
       exact ⟨hf2.defers, v', g1, β', v', rfl, hx, g2⟩
     | ret a₁ s₁ =>
      rw [hr] at hfree hw hne
      simp only at hfree hne ⊢
      cases hfin : finish P fn a₁ s₁ with
      | stuck => rw [hfin] at hne; exact (hne rfl).elim
      | panic c' s' =>
       exfalso
       unfold finish at hfin
       (repeat' split at hfin) <;> cases hfin
      | ret v s' =>
       rw [hfin] at hfree
       have e1 : s' = s₁ := by
        unfold finish at hfin
        (repeat' split at hfin) <;> cases hfin <;> rfl
       subst e1
       refine wp_mono (hw (by simp) hfree) fun e a₂ w₂ ho => ?_
       obtain ⟨rfl, β', hx, hf2⟩ := ho
       obtain ⟨_, v', g1, g2⟩ := finish_sound hx.rel hf2 hfin
       exact ⟨hf2.defers, v', g1, β', v', rfl, hx, g2⟩
end
end Go.M
namespace Go.M
section
variable {P : Program} {I : zJ}
theorem rounds_sound (hI : TableS P I) {b : Code} (hb : xM b = true) {n : Nat} (ih : ∀ m, m < n → CodeS P (zL P I m)) : ∀ m, m ≤ n → ∀ (a : Fr) (a' : Act) (s : St) (β : Ren) (w : World), Rel P β s w → FRel P β a a' →
  zL P I m (.loop b) a s ≠ .stuck → (zL P I m (.loop b) a s).free β s → ∀ Q : Exit → Act → World → Prop, (∀ e a₂ w₂, OutP P β s w (zL P I m (.loop b) a s) e a₂ w₂ → Q e a₂ w₂) → Code.rounds P b Q m a' w := by
 intro m
 induction m with
 | zero => intro _ a a' s β w _ _ hne; exact (hne rfl).elim
 | succ m ihm =>
  intro hm a a' s β w h hf hne hfree Q hQ
  have hn := qs hI m
  unfold zL at hne hfree hQ
  simp only at hne hfree hQ
  rw [rounds_succ]
  have hw := fun h1 h2 => ih m (by omega) b a a' s β w hb h hf h1 h2
  cases hr : zL P I m b a s with
  | stuck => rw [hr] at hne; exact (hne rfl).elim
  | normal a₁ s₁ =>
   rw [hr] at hne hfree hQ hw
   simp only at hne hfree hQ
   have hfr : Free β s s₁ := Out.free_of (hn _ _ _) hfree hne
   refine wp_mono (hw (by simp) hfr) fun e a₂ w₂ ho => ?_
   obtain ⟨rfl, β', hx, hf2⟩ := ho
   exact ihm (by omega) a₁ a₂ s₁ β' w₂ hx.rel hf2 hne (hx.outFree hfree) Q fun e a₃ w₃ ho => hQ e a₃ w₃ (ho.trans hx hfree)
  | exit id a₁ s₁ =>
   rw [hr] at hfree hQ hw
   refine wp_mono (hw (by simp) hfree) fun e a₂ w₂ ho => ?_
   have := ho.1
   subst this
   exact hQ _ _ _ ho
  | ret a₁ s₁ =>
   rw [hr] at hfree hQ hw
   refine wp_mono (hw (by simp) hfree) fun e a₂ w₂ ho => ?_
   have := ho.1
   subst this
   exact hQ _ _ _ ho
  | panic c a₁ s₁ =>
   rw [hr] at hfree hQ hw
   refine wp_mono (hw (by simp) hfree) fun e a₂ w₂ ho => ?_
   obtain ⟨c', β', rfl, hrest⟩ := ho
   exact hQ _ _ _ ⟨c', β', rfl, hrest⟩
theorem code_sound (hmix : P.follows .mixedOrders = true) (hI : TableS P I) : ∀ n, CodeS P (zL P I n) := by
 intro n
 induction n using Nat.strongRecOn with
 | _ n ih =>
  cases n with
  | zero => intro c a a' s β w _ _ _ hne; exact (hne rfl).elim
  | succ n =>
   intro c a a' s β w hcb h hf hne hfree
   have ihn := ih n (by omega)
   have hn := qs hI n
   have hcall := callWith_sound hI hn ihn
   have hkeep := callWith_keeps hI (codeM_keeps hI n)
   cases c with
   | skip =>
    unfold zL at hfree ⊢
    exact wp_skip ⟨rfl, β, Ext.refl h, hf⟩
   | label k =>
    unfold zL at hfree ⊢
    exact wp_label ⟨rfl, β, Ext.refl h, hf⟩
   | exit id =>
    unfold zL at hfree ⊢
    exact wp_exit ⟨rfl, β, Ext.refl h, hf⟩
   | ret =>
    unfold zL at hfree ⊢
    exact wp_ret ⟨rfl, β, Ext.refl h, hf⟩
   | seq x y =>
    simp only [xM, Bool.and_eq_true] at hcb
    unfold zL at hne hfree ⊢
    simp only at hne hfree ⊢
    refine wp_seq ?_
    have hw := fun h1 h2 => ihn x a a' s β w hcb.1 h hf h1 h2
    cases hr : zL P I n x a s with
    | stuck => rw [hr] at hne; exact (hne rfl).elim
    | normal a₁ s₁ =>
     rw [hr] at hne hfree hw
     simp only at hne hfree ⊢
     have hfr : Free β s s₁ := Out.free_of (hn y a₁ s₁) hfree hne
     refine wp_mono (hw (by simp) hfr) fun e a₂ w₂ ho => ?_
     obtain ⟨rfl, β', hx, hf2⟩ := ho
     exact wp_mono (ihn y a₁ a₂ s₁ β' w₂ hcb.2 hx.rel hf2 hne (hx.outFree hfree)) fun e a₃ w₃ ho => ho.trans hx hfree
    | exit id a₁ s₁ =>
     rw [hr] at hfree hw
     refine wp_mono (hw (by simp) hfree) fun e a₂ w₂ ho => ?_
     have := ho.1
     subst this
     exact ho
    | ret a₁ s₁ =>
     rw [hr] at hfree hw
     refine wp_mono (hw (by simp) hfree) fun e a₂ w₂ ho => ?_
     have := ho.1
     subst this
     exact ho
    | panic c a₁ s₁ =>
     rw [hr] at hfree hw
     refine wp_mono (hw (by simp) hfree) fun e a₂ w₂ ho => ?_
     obtain ⟨c', β', rfl, hrest⟩ := ho
     exact ⟨c', β', rfl, hrest⟩
   | cond c x y =>
    simp only [xM, Bool.and_eq_true] at hcb
    unfold zL at hne hfree ⊢
    simp only at hne hfree ⊢
    have hv := hf.eval hcb.1.1
    generalize hev : a.eval c = u at hv hne hfree ⊢
    split at hne
    ·simp only at hfree ⊢
     generalize hev' : a'.eval c = u' at hv
     cases hv
     exact wp_cond_true hev' (ihn x a a' s β w hcb.1.2 h hf hne hfree)
    ·simp only at hfree ⊢
     generalize hev' : a'.eval c = u' at hv
     cases hv
     exact wp_cond_false hev' (ihn y a a' s β w hcb.2 h hf hne hfree)
    ·exact (hne rfl).elim
   | block id b =>
    simp only [xM] at hcb
    unfold zL at hne hfree ⊢
    simp only at hne hfree ⊢
    refine wp_block ?_
    have hw := fun h1 h2 => ihn b a a' s β w hcb h hf h1 h2
    cases hr : zL P I n b a s with
    | stuck => rw [hr] at hne; exact (hne rfl).elim
    | normal a₁ s₁ =>
     rw [hr] at hfree hw
     refine wp_mono (hw (by simp) hfree) fun e a₂ w₂ ho => ?_
     have := ho.1
     subst this
     exact ho
    | exit id' a₁ s₁ =>
     rw [hr] at hfree hw
     simp only at hfree ⊢
     cases hid : Nat.beq id' id with
     | true =>
      rw [hid] at hfree
      simp only at hfree ⊢
      have hide := Nat.eq_of_beq_eq_true hid
      refine wp_mono (hw (by simp) hfree) fun e a₂ w₂ ho => ?_
      obtain ⟨rfl, hrest⟩ := ho
      simp only [Exit.inBlock, hide, if_true]
      exact ⟨rfl, hrest⟩
     | false =>
      rw [hid] at hfree
      simp only at hfree ⊢
      have hide : ¬ id' = id := fun e => by subst e; simp at hid
      refine wp_mono (hw (by simp) hfree) fun e a₂ w₂ ho => ?_
      obtain ⟨rfl, hrest⟩ := ho
      simp only [Exit.inBlock, hide, if_false]
      exact ⟨rfl, hrest⟩
    | ret a₁ s₁ =>
     rw [hr] at hfree hw
     refine wp_mono (hw (by simp) hfree) fun e a₂ w₂ ho => ?_
     have := ho.1
     subst this
     exact ho
    | panic c a₁ s₁ =>
     rw [hr] at hfree hw
     refine wp_mono (hw (by simp) hfree) fun e a₂ w₂ ho => ?_
     obtain ⟨c', β', rfl, hrest⟩ := ho
     exact ⟨c', β', rfl, hrest⟩
   | loop b =>
    simp only [xM] at hcb
    exact wp_loop_rounds (n + 1) (rounds_sound hI hcb (n := n + 1) ih (n + 1) (Nat.le_refl _) a a' s β w h hf hne hfree _ fun _ _ _ ho => ho)
   | region id ops draw =>
    simp only [xM] at hcb
    unfold zL at hne hfree ⊢
    simp only at hne hfree ⊢
    cases draw with
    | false =>
     simp only at hne hfree ⊢
     refine wp_region_list (ops_sound hcall ops ops.toList (fun o ho => ?_) a a' s β w h hf hne hfree _ fun _ _ _ ho => ho)
     rw [List.all_eq_true] at hcb
     exact hcb o ho
    | true =>
     simp only at hne hfree ⊢
     cases hpl : planB ops.toList (plan ops.toList) with
     | false => rw [hpl] at hne; exact (hne rfl).elim
     | true =>
      rw [hpl] at hne hfree
      simp only at hne hfree ⊢
      exact draw_sound hmix hcall hkeep hpl hcb h hf hne hfree
   | _ => exact (hne rfl).elim
theorem call_ok (hmix : P.follows .mixedOrders = true) (hI : TableS P I) (n : Nat) : CallS P (callM P I n) :=
 callWith_sound hI (qs hI n) (code_sound hmix hI n)
theorem xr : TableS P (fun _ => none) := ⟨fun _ _ h => (by cases h), fun _ _ h => (by cases h), fun _ _ h => (by cases h)⟩
#print axioms call_ok
end
end Go.M
