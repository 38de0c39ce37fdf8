/- The orders in which a region may run. -/
/- What a plan of a drawn region is, and the run in this machine's own order. -/
/- A drawn region, in whatever order it runs. -/
import Derived.Test.YtdejleegamcioaaGreatP05
namespace Go.M
inductive Sched (ops : Array Oper) : (Nat → Prop) → List Nat → Prop where
 | nil {L : Nat → Prop} (h : ∀ i, i < ops.size → L i) : Sched ops L []
 | cons {L : Nat → Prop} {i : Nat} {rest : List Nat} (hi : i < ops.size) (hn : ¬ L i) (he : ∀ o, ops[i]? = some o → ∀ e ∈ o.after.toList, Region.binds .any e = true → L e.on)
   (h : Sched ops (fun k => L k ∨ k = i) rest) : Sched ops L (i :: rest)
theorem filter_lt {p q : Nat → Bool} : ∀ (l : List Nat), (∀ x, q x = true → p x = true) → (∃ x ∈ l, p x = true ∧ q x = false) → (l.filter q).length < (l.filter p).length
 | [], _, h => by obtain ⟨x, hx, _⟩ := h; simp at hx
 | y :: l, hpq, h => by
  have le : ∀ l : List Nat, (l.filter q).length ≤ (l.filter p).length := by
   intro l
   induction l with
   | nil => simp
   | cons z l ih =>
    simp only [List.filter_cons]
    cases hq : q z with
    | true => rw [hpq z hq]; simp; exact ih
    | false => cases p z <;> simp <;> omega
  obtain ⟨x, hx, h1, h2⟩ := h
  simp only [List.filter_cons]
  rcases List.mem_cons.1 hx with rfl | hx
  ·rw [h1, h2]
   have := le l
   simp; omega
  ·have ih := filter_lt l hpq ⟨x, hx, h1, h2⟩
   cases hq : q y with
   | true => rw [hpq y hq]; simp; exact ih
   | false => cases p y <;> simp <;> omega
section
variable (ops : Array Oper)
def readyAt (listed : Array Bool) (i : Nat) : Bool :=
 !listed.getD i true && ((ops[i]?).map (·.after.all fun e => !Region.binds .any e || listed.getD e.on false)).getD false
theorem go_sched (hb : ∀ i o, ops[i]? = some o → ∀ e ∈ o.after.toList, Region.binds .any e = true → e.on < i) : ∀ (fuel t : Nat) (listed : Array Bool) (acc : List Nat), listed.size = ops.size →
  ((List.range ops.size).filter fun i => !listed.getD i true).length ≤ fuel →
  ∃ rest, Region.linearise.go .any ops fuel t listed acc = acc.reverse ++ rest ∧ Sched ops (fun i => listed.getD i false = true) rest
 | 0, t, listed, acc, hs, hc => by
  refine ⟨[], by simp [Region.linearise.go], .nil fun i hi => ?_⟩
  have h0 : (List.range ops.size).filter (fun i => !listed.getD i true) = [] := List.eq_nil_of_length_eq_zero (by omega)
  have := List.filter_eq_nil_iff.1 h0 i (by simpa using hi)
  simp only [Bool.not_eq_true', Bool.not_eq_false] at this
  rw [Array.getD_eq_getD_getElem?] at this ⊢
  rw [Array.getElem?_eq_getElem (by omega)] at this ⊢
  exact this
 | fuel + 1, t, listed, acc, hs, hc => by
  have inb : ∀ i, i < ops.size → ∀ d, listed.getD i d = listed.getD i false := fun i hi d => by
   rw [Array.getD_eq_getD_getElem?, Array.getD_eq_getD_getElem?, Array.getElem?_eq_getElem (by omega)]; rfl
  unfold Region.linearise.go
  have hrs : ((List.range ops.size).filter fun i => !listed.getD i true && ((ops[i]?).map (·.after.all fun e => !Region.binds .any e || listed.getD e.on false)).getD false) = (List.range ops.size).filter (readyAt ops listed) := rfl
  simp only [hrs]
  cases hr : ((List.range ops.size).filter (readyAt ops listed))[t % ((List.range ops.size).filter (readyAt ops listed)).length]? with
  | none =>
   -- nothing is ready: everything is listed
   have hnil : (List.range ops.size).filter (readyAt ops listed) = [] := by
    cases hl : (List.range ops.size).filter (readyAt ops listed) with
    | nil => rfl
    | cons x xs =>
     rw [hl] at hr
     have : t % (x :: xs).length < (x :: xs).length := Nat.mod_lt _ (by simp)
     rw [List.getElem?_eq_getElem this] at hr
     cases hr
   have all : ∀ i, i < ops.size → listed.getD i false = true := by
    intro i
    induction i using Nat.strongRecOn with
    | _ i ih =>
     intro hi
     cases hv : listed.getD i false with
     | true => rfl
     | false =>
      exfalso
      have hno := List.filter_eq_nil_iff.1 hnil i (by simpa using hi)
      apply hno
      unfold readyAt
      rw [inb i hi true, hv]
      simp only [Bool.not_false, Bool.true_and]
      rw [Array.getElem?_eq_getElem hi]
      simp only [Option.map_some, Option.getD_some, Array.all_eq_true_iff_forall_mem]
      intro e he
      cases hbd : Region.binds .any e with
      | false => rfl
      | true =>
       have hlt := hb i ops[i] (by simp [hi]) e (by simpa using he) hbd
       simp [ih e.on hlt (by omega)]
   exact ⟨[], by simp, .nil all⟩
  | some i =>
   have hmem : i ∈ (List.range ops.size).filter (readyAt ops listed) := List.mem_of_getElem? hr
   simp only [List.mem_filter, List.mem_range] at hmem
   obtain ⟨hi, hrdy⟩ := hmem
   unfold readyAt at hrdy
   simp only [Bool.and_eq_true] at hrdy
   obtain ⟨h1, h2⟩ := hrdy
   rw [inb i hi true] at h1
   have hnl : listed.getD i false = false := by simpa using h1
   have hget : ∀ k d, (listed.setIfInBounds i true).getD k d = if k = i then true else listed.getD k d := fun k d => by
    rw [Array.getD_eq_getD_getElem?, Array.getD_eq_getD_getElem?]
    by_cases hk : k = i
    ·subst hk
     rw [Array.getElem?_setIfInBounds_self_of_lt (by omega), if_pos rfl]; rfl
    ·rw [Array.getElem?_setIfInBounds_ne (Ne.symm hk), if_neg hk]
   obtain ⟨rest, g1, g2⟩ := go_sched hb fuel (t / ((List.range ops.size).filter (readyAt ops listed)).length) (listed.setIfInBounds i true) (i :: acc) (by simpa using hs) (by
    have := filter_lt (p := fun k => !listed.getD k true) (q := fun k => !(listed.setIfInBounds i true).getD k true) (List.range ops.size) (fun x hx => by
      rw [hget] at hx
      split at hx
      ·simp at hx
      ·exact hx)
     ⟨i, by simpa using hi, by rw [inb i hi true, hnl]; rfl, by rw [hget, if_pos rfl]; rfl⟩
    omega)
   refine ⟨i :: rest, by simp [g1], .cons hi (by rw [hnl]; simp) (fun o ho e he hbd => ?_) ?_⟩
   ·rw [ho] at h2
    simp only [Option.map_some, Option.getD_some, Array.all_eq_true_iff_forall_mem] at h2
    have := h2 e (by simpa using he)
    rw [hbd] at this
    simpa using this
   ·have e1 : (fun k => listed.getD k false = true ∨ k = i) = (fun k => (listed.setIfInBounds i true).getD k false = true) := by
     funext k
     rw [hget]
     by_cases hk : k = i <;> simp [hk]
    rw [e1]; exact g2
theorem linearise_sched (hb : ∀ i o, ops[i]? = some o → ∀ e ∈ o.after.toList, Region.binds .any e = true → e.on < i) (t : Nat) : Sched ops (fun _ => False) (Region.linearise .any ops t) := by
 obtain ⟨rest, h1, h2⟩ := go_sched ops hb ops.size t (Array.replicate ops.size false) [] (by simp) (by
  refine Nat.le_trans (List.length_filter_le _ _) ?_
  simp)
 unfold Region.linearise
 rw [h1]
 simp only [List.reverse_nil, List.nil_append]
 have e1 : (fun i => (Array.replicate ops.size false).getD i false = true) = (fun _ => False) := by
  funext i
  rw [Array.getD_eq_getD_getElem?, Array.getElem?_replicate]
  split <;> simp
 rw [e1] at h2
 exact h2
end
end Go.M
namespace Go.M
structure PlanOk (ops : Array Oper) (l : List Drawn) (anc : Nat → Nat) : Prop where
  op : ∀ (p : Nat) (d : Drawn), l[p]? = some d → ∃ o, ops[d.ix]? = some o
  surj : ∀ i, i < ops.size → ∃ (p : Nat) (d : Drawn), l[p]? = some d ∧ d.ix = i
  ancOf : ∀ (p : Nat) (d : Drawn), l[p]? = some d → d.anc = anc d.ix
  edges : ∀ i o, ops[i]? = some o → ∀ e ∈ o.after.toList, Region.binds .any e = true → e.on < i ∧ (anc i).testBit e.on = true
  below : ∀ i o k, ops[i]? = some o → (anc i).testBit k = true → k < i
  just : ∀ i o k, ops[i]? = some o → (anc i).testBit k = true → ∃ e ∈ o.after.toList, Region.binds .any e = true ∧ (e.on = k ∨ (anc e.on).testBit k = true)
  reads : ∀ i o, ops[i]? = some o → ∀ t, Operand.tmp t ∈ o.op.operands.toList → ∀ u q, ops[u]? = some q → q.dst = some t → (anc i).testBit u = true ∨ (isLoad o = false ∧ (u = i ∨ (anc u).testBit i = true))
  guard : ∀ i o g, ops[i]? = some o → o.guard = some g → (anc i).testBit g.1 = true
  pair : ∀ (p q : Nat) (x y : Drawn), p < q → l[p]? = some x → l[q]? = some y → x.ix ≠ y.ix ∧ (anc x.ix).testBit y.ix = false ∧
    ((anc y.ix).testBit x.ix = false → howW x.how = false ∧ (howW y.how = true → (howL x.how = true ∨ howN x.how = true) ∧ ∀ o, ops[x.ix]? = some o → (isLoad o = true ∨ howN x.how = true) → x.ix ∈ y.free))
  dst : ∀ (i j : Nat) (o q : Oper) (t : Tmp), ops[i]? = some o → ops[j]? = some q → o.dst = some t → q.dst = some t → i = j
  light : ∀ (p : Nat) (d : Drawn) o, l[p]? = some d → ops[d.ix]? = some o → howL d.how = true → isLight o = true
  alloc : ∀ (p : Nat) (d : Drawn) o, l[p]? = some d → ops[d.ix]? = some o → howN d.how = true → isAlloc o = true
theorem distinctB_spec : ∀ (l : List (Option Tmp)), distinctB l = true → ∀ (i j : Nat) (t : Tmp), l[i]? = some (some t) → l[j]? = some (some t) → i = j
  | [], _, i, j, t, h, _ => by simp at h
  | x :: l, hd, i, j, t, hi, hj => by
    have tail : distinctB l = true := by
      cases x with
      | none => exact hd
      | some u => unfold distinctB at hd; simp only [Bool.and_eq_true] at hd; exact hd.2
    have head : ∀ k, x = some t → l[k]? = some (some t) → False := fun k hx hk => by
      subst hx
      unfold distinctB at hd
      simp only [Bool.and_eq_true, List.all_eq_true] at hd
      have := hd.1 _ (List.mem_of_getElem? hk)
      simp at this
    cases i with
    | zero => cases j with
      | zero => rfl
      | succ j => simp at hi hj; exact (head j hi hj).elim
    | succ i => cases j with
      | zero => simp at hi hj; exact (head i hj hi).elim
      | succ j => simp at hi hj; rw [distinctB_spec l tail i j t hi hj]
theorem pairsB_spec {ops : List Oper} : ∀ (l : List Drawn), pairsB ops l = true → ∀ (p q : Nat) (x y : Drawn), p < q → l[p]? = some x → l[q]? = some y → pairB ops x y = true
  | [], _, p, q, x, y, _, h, _ => by simp at h
  | z :: l, hp, p, q, x, y, hlt, hx, hy => by
    unfold pairsB at hp
    simp only [Bool.and_eq_true, List.all_eq_true] at hp
    cases q with
    | zero => omega
    | succ q =>
      simp at hy
      cases p with
      | zero => simp at hx; subst hx; exact hp.1 _ (List.mem_of_getElem? hy)
      | succ p => simp at hx; exact pairsB_spec l hp.2 p q x y (by omega) hx hy
theorem plan_ok {ops : Array Oper} {l : List Drawn} (h : planB ops.toList l = true) : ∃ anc, PlanOk ops l anc := by
  unfold planB at h
  simp only [Bool.and_eq_true] at h
  obtain ⟨⟨⟨⟨⟨⟨h1, h2⟩, h3⟩, h4⟩, h5⟩, h6⟩, h7⟩ := h
  have h2 := Nat.eq_of_beq_eq_true h2
  rw [y9, y9] at h2
  let anc : Nat → Nat := fun i => ((ancs ops.toList)[i]?).getD 0
  have ancAt : ∀ i m, yo (ancs ops.toList) i = some m → m = anc i := fun i m hm => by rw [yx] at hm; simp only [anc, hm]; rfl
  have each : ∀ i o, ops[i]? = some o → ancB (ancs ops.toList) i o (anc i) = true ∧ readsB ops.toList (ancs ops.toList) i (anc i) o = true := fun i o ho => by
    rw [List.all_eq_true] at h3
    have := h3 (o, i) (by
      rw [List.mem_zipIdx_iff_getElem?]
      simpa using ho)
    simp only at this
    split at this
    · rename_i m hm
      rw [ancAt i m hm] at this
      simpa using this
    · cases this
  have drawn : ∀ (p : Nat) (d : Drawn), l[p]? = some d → (∃ o, ops[d.ix]? = some o) ∧ d.anc = anc d.ix ∧ (∀ o, ops[d.ix]? = some o → howL d.how = true → isLight o = true) ∧ (∀ o, ops[d.ix]? = some o → howN d.how = true → isAlloc o = true) := fun p d hd => by
    rw [List.all_eq_true] at h4
    have := h4 d (List.mem_of_getElem? hd)
    simp only [Bool.and_eq_true] at this
    obtain ⟨g1, g2⟩ := this
    have ha : d.anc = anc d.ix := by
      split at g1
      · rename_i m hm
        have := Nat.eq_of_beq_eq_true g1
        rw [← this]; exact ancAt _ _ hm
      · cases g1
    unfold lightB at g2
    split at g2
    · rename_i o ho
      rw [yx] at ho
      have ho' : ops[d.ix]? = some o := by simpa using ho
      simp only [Bool.and_eq_true, Bool.or_eq_true, Bool.not_eq_true'] at g2
      refine ⟨⟨o, ho'⟩, ha, fun o2 ho2 hh => ?_, fun o2 ho2 hh => ?_⟩
      · rw [ho'] at ho2; cases ho2
        rcases g2.1 with g | g
        · rw [hh] at g; cases g
        · exact g
      · rw [ho'] at ho2; cases ho2
        rcases g2.2 with g | g
        · rw [hh] at g; cases g
        · exact g
    · cases g2
  refine ⟨anc, {
    op := fun p d hd => (drawn p d hd).1
    surj := fun i hi => ?_
    ancOf := fun p d hd => (drawn p d hd).2.1
    edges := fun i o ho e he hb => ?_
    below := fun i o k ho hk => ?_
    just := fun i o k ho hk => ?_
    reads := fun i o ho t ht u q hq hd => ?_
    guard := fun i o g ho hg => ?_
    pair := fun p q x y hlt hx hy => ?_
    dst := fun i j o q t ho hq h1 h2 => ?_
    light := fun p d o hd ho hl => (drawn p d hd).2.2.1 o ho hl
    alloc := fun p d o hd ho hl => (drawn p d hd).2.2.2 o ho hl }⟩
  · rw [List.all_eq_true] at h5
    have := h5 i (by rw [y9]; simpa using hi)
    rw [List.any_eq_true] at this
    obtain ⟨d, hd, he⟩ := this
    obtain ⟨p, hp⟩ := List.getElem?_of_mem hd
    exact ⟨p, d, hp, Nat.eq_of_beq_eq_true he⟩
  · have := (each i o ho).1
    unfold ancB at this
    simp only [Bool.and_eq_true, List.all_eq_true] at this
    have := this.1.1 e he
    rw [hb] at this
    simp only [Bool.not_true, Bool.false_or, Bool.and_eq_true] at this
    exact ⟨by simpa [Nat.blt_eq] using this.1, this.2⟩
  · have := (each i o ho).1
    unfold ancB at this
    simp only [Bool.and_eq_true, List.all_eq_true] at this
    obtain ⟨⟨_, _⟩, g3⟩ := this
    have hlt : anc i < 2 ^ i := by simpa [Nat.blt_eq] using g3
    rcases Nat.lt_or_ge k i with hh | hh
    · exact hh
    · rw [Nat.testBit_lt_two_pow (Nat.lt_of_lt_of_le hlt (Nat.pow_le_pow_right (by omega) hh))] at hk; cases hk
  · have := (each i o ho).1
    unfold ancB at this
    simp only [Bool.and_eq_true, List.all_eq_true] at this
    obtain ⟨⟨_, g2⟩, g3⟩ := this
    have hlt : anc i < 2 ^ i := by simpa [Nat.blt_eq] using g3
    have hki : k < i := by
      rcases Nat.lt_or_ge k i with hh | hh
      · exact hh
      · rw [Nat.testBit_lt_two_pow (Nat.lt_of_lt_of_le hlt (Nat.pow_le_pow_right (by omega) hh))] at hk; cases hk
    have := g2 k (by simpa using hki)
    rw [hk] at this
    simp only [Bool.not_true, Bool.false_or, List.any_eq_true, Bool.and_eq_true, Bool.or_eq_true] at this
    obtain ⟨e, he, hb, hor⟩ := this
    refine ⟨e, he, hb, ?_⟩
    rcases hor with hh | hh
    · exact .inl (Nat.eq_of_beq_eq_true hh)
    · right
      split at hh
      · rename_i q hq; rw [← ancAt _ _ hq]; exact hh
      · cases hh
  · have := (each i o ho).2
    unfold readsB at this
    simp only [Bool.and_eq_true, List.all_eq_true] at this
    have := this.1 _ ht
    simp only [List.all_eq_true] at this
    have := this (q, u) (by rw [List.mem_zipIdx_iff_getElem?]; simpa using hq)
    simp only [hd] at this
    have hb : Nat.beq t t = true := by simp
    simp only [hb, Bool.not_true, Bool.false_or, Bool.or_eq_true, Bool.and_eq_true, Bool.not_eq_true'] at this
    rcases this with hh | ⟨hl, hh⟩
    · exact .inl hh
    · right
      refine ⟨hl, ?_⟩
      rcases hh with hh | hh
      · exact .inl (Nat.eq_of_beq_eq_true hh)
      · right
        split at hh
        · rename_i m hm; rw [← ancAt _ _ hm]; exact hh
        · cases hh
  · have := (each i o ho).2
    unfold readsB at this
    simp only [Bool.and_eq_true] at this
    rw [hg] at this
    exact this.2
  · have hpr := pairsB_spec l h6 p q x y hlt hx hy
    unfold pairB at hpr
    have hax := (drawn p x hx).2.1
    have hay := (drawn q y hy).2.1
    simp only [Bool.and_eq_true, Bool.not_eq_true', Bool.or_eq_true] at hpr
    obtain ⟨⟨g1, g2⟩, g3⟩ := hpr
    rw [hax] at g2
    have hne : x.ix ≠ y.ix := fun e => by rw [e] at g1; simp at g1
    refine ⟨hne, g2, fun hun => ?_⟩
    have hbs : besideB x y = true := by
      unfold besideB
      simp [g1, hax, hay, g2, hun]
    rcases g3 with g3 | ⟨g3, g4⟩
    · rw [hbs] at g3; cases g3
    · refine ⟨g3, fun hw => ?_⟩
      rcases g4 with g4 | ⟨g4, g5⟩
      · rw [hw] at g4; cases g4
      · refine ⟨by simpa using g4, fun o ho hl => ?_⟩
        have : yo ops.toList x.ix = some o := by rw [yx]; simpa using ho
        rw [this] at g5
        simp only [Bool.or_eq_true, Bool.not_eq_true', Bool.or_eq_false_iff, List.any_eq_true] at g5
        rcases g5 with ⟨g5, g6⟩ | ⟨k, hk, hh⟩
        · rcases hl with hl | hl
          · rw [hl] at g5; cases g5
          · rw [hl] at g6; cases g6
        · rw [Nat.eq_of_beq_eq_true hh]; exact hk
  · refine distinctB_spec _ h7 i j t ?_ ?_
    · simp [ho, h1]
    · simp [hq, h2]
section
variable {P : Program} {call : FuncId → Array Value → St → CallOut}
structure Chain (P : Program) (call : FuncId → Array Value → St → CallOut) (ops : Array Oper) (l : List Drawn) (N : Nat) (A : Nat → Fr) (S : Nat → St) : Prop where
  le : N ≤ l.length
  step : ∀ p, p < N → ∃ d o, l[p]? = some d ∧ ops[d.ix]? = some o ∧ yr P call ops.toList d o (A p) (S p) = .normal (A (p + 1)) (S (p + 1))
theorem chain_of {ops : Array Oper} : ∀ (l : List Drawn) (a : Fr) (s : St), qv P call ops.toList l a s ≠ .stuck → ∃ N A S, A 0 = a ∧ S 0 = s ∧ Chain P call ops l N A S ∧
    ((N = l.length ∧ qv P call ops.toList l a s = .normal (A N) (S N)) ∨
     ∃ d o c a₁ s₁, l[N]? = some d ∧ ops[d.ix]? = some o ∧ yr P call ops.toList d o (A N) (S N) = .panic c a₁ s₁ ∧ qv P call ops.toList l a s = .panic c a₁ s₁)
  | [], a, s, _ => ⟨0, fun _ => a, fun _ => s, rfl, rfl, ⟨Nat.le_refl _, fun p hp => by omega⟩, .inl ⟨rfl, rfl⟩⟩
  | d :: l, a, s, hne => by
    unfold qv at hne ⊢
    cases ho : yo ops.toList d.ix with
    | none => rw [ho] at hne; exact (hne rfl).elim
    | some o =>
      rw [ho] at hne
      simp only at hne ⊢
      have ho' : ops[d.ix]? = some o := by rw [yx] at ho; simpa using ho
      cases hr : yr P call ops.toList d o a s with
      | stuck => rw [hr] at hne; exact (hne rfl).elim
      | exit id a₁ s₁ =>
        exfalso
        unfold yr at hr
        (repeat' split at hr) <;> cases hr
      | ret a₁ s₁ =>
        exfalso
        unfold yr at hr
        (repeat' split at hr) <;> cases hr
      | panic c a₁ s₁ =>
        exact ⟨0, fun _ => a, fun _ => s, rfl, rfl, ⟨Nat.zero_le _, fun p hp => by omega⟩, .inr ⟨d, o, c, a₁, s₁, rfl, ho', hr, rfl⟩⟩
      | normal a₁ s₁ =>
        rw [hr] at hne
        simp only at hne ⊢
        obtain ⟨N, A, S, hA, hS, hch, hend⟩ := chain_of l a₁ s₁ hne
        refine ⟨N + 1, fun p => match p with | 0 => a | q + 1 => A q, fun p => match p with | 0 => s | q + 1 => S q, rfl, rfl, ⟨by simp; exact hch.le, fun p hp => ?_⟩, ?_⟩
        · cases p with
          | zero => exact ⟨d, o, rfl, ho', by rw [hr]; simp only [hA, hS]⟩
          | succ p =>
            obtain ⟨d', o', g1, g2, g3⟩ := hch.step p (by omega)
            exact ⟨d', o', by simpa using g1, g2, g3⟩
        · rcases hend with ⟨g1, g2⟩ | ⟨d', o', c, a₂, s₂, g1, g2, g3, g4⟩
          · exact .inl ⟨by simp [g1], g2⟩
          · exact .inr ⟨d', o', c, a₂, s₂, by simpa using g1, g2, g3, g4⟩
theorem drawOp_frame {ops : List Oper} {d : Drawn} {o : Oper} {a a₁ : Fr} {s s₁ : St} (h : yr P call ops d o a s = .normal a₁ s₁) : ∃ v, a₁ = a.put o.dst v := by
  unfold yr at h
  split at h
  · split at h
    · split at h
      · rename_i a' s' hr
        split at h
        · cases h; exact (opM_frame.1 _ _ hr)
        · cases h
      · cases h
    · split at h
      · rename_i a' s' hr; cases h; exact (opM_frame.1 _ _ hr)
      · cases h
      · cases h
    · split at h
      · rename_i a' s' hr; cases h; exact (opM_frame.1 _ _ hr)
      · cases h
    · split at h
      · rename_i a' s' hr
        split at h
        · split at h
          · cases h; exact (opM_frame.1 _ _ hr)
          · cases h
        · cases h
      · cases h
  · cases h; exact ⟨_, rfl⟩
theorem drawOp_new {ops : List Oper} {d : Drawn} {o : Oper} {a a₁ : Fr} {s s₁ : St} (h : yr P call ops d o a s = .normal a₁ s₁) (hw : yM ops a o = true) (hh : d.how = .new) :
    ∃ s' ob, opM P call o a { next := s.next, bar := s.next, prot := [], heap := .nil } = .normal a₁ s' ∧ s'.next = s.next + 1 ∧ s.room = true ∧ yD a₁ o = some s.next ∧ s'.get s.next = some ob ∧ s₁ = s.new ob := by
  unfold yr at h
  rw [hw, hh] at h
  simp only at h
  split at h
  · rename_i a' s' hr
    split at h
    · rename_i b ob hn hb hg
      split at h
      · rename_i hbn
        cases h
        rw [Bool.and_eq_true] at hn
        rw [Nat.eq_of_beq_eq_true hbn] at hb
        exact ⟨s', ob, hr, Nat.eq_of_beq_eq_true hn.1, hn.2, hb, hg, rfl⟩
      · cases h
    · cases h
  · cases h
theorem put_size (a : Fr) (dst : Option Tmp) (v : Value) : (a.put dst v).size = a.size := by
  unfold Fr.put
  (repeat' split) <;> rfl
theorem put_other {a : Fr} (hs : a.size ≤ 65534) {dst : Option Tmp} {v : Value} {t : Nat} (h : dst ≠ some t) : (a.put dst v).get t = a.get t := by
  unfold Fr.put
  split
  · rename_i d
    split
    · rename_i hlt
      change Nat at d
      have hlt : d < a.size := by simpa [Nat.blt_eq] using hlt
      unfold Fr.get
      rw [Tr.get_put fdepth _ _ _ _ (by have : (2 : Nat) ^ fdepth = 65536 := by decide
                                        omega), if_neg (fun e => h (by rw [e]))]
    · rfl
  · rfl
variable {ops : Array Oper} {l : List Drawn} {N : Nat} {A : Nat → Fr} {S : Nat → St}
theorem Chain.size (h : Chain P call ops l N A S) : ∀ p, p ≤ N → (A p).size = (A 0).size
  | 0, _ => rfl
  | p + 1, hp => by
    obtain ⟨d, o, _, _, hr⟩ := h.step p (by omega)
    obtain ⟨v, hv⟩ := drawOp_frame hr
    rw [hv, put_size, Chain.size h p (by omega)]
theorem Chain.keepsSlot (h : Chain P call ops l N A S) (hs : (A 0).size ≤ 65534) (t : Nat) (p : Nat) : ∀ q, p ≤ q → q ≤ N →
    (∀ r d o, p ≤ r → r < q → l[r]? = some d → ops[d.ix]? = some o → o.dst ≠ some t) → (A q).get t = (A p).get t := by
  intro q
  induction q with
  | zero => intro hpq _ _; have : p = 0 := by omega
            subst this; rfl
  | succ q ih =>
    intro hpq hq hno
    by_cases he : p = q + 1
    · subst he; rfl
    · obtain ⟨d, o, h1, h2, hr⟩ := h.step q (by omega)
      obtain ⟨v, hv⟩ := drawOp_frame hr
      rw [hv, put_other (by rw [Chain.size h q (by omega)]; exact hs) (hno q d o (by omega) (by omega) h1 h2)]
      exact ih (by omega) (by omega) fun r d o hr1 hr2 => hno r d o hr1 (by omega)
theorem Chain.kp (h : Chain P call ops l N A S) (hk : ∀ f args s, WF s → (call f args s).keeps s) (h0 : WF (S 0)) : ∀ q, q ≤ N → Kp (S 0) (S q)
  | 0, _ => Kp.refl h0
  | q + 1, hq => by
    have ih := Chain.kp h hk h0 q (by omega)
    obtain ⟨d, o, _, _, hr⟩ := h.step q (by omega)
    have := drawOp_keeps (P := P) hk ih.wf ops.toList d o (A q)
    rw [hr] at this
    exact ih.trans this
theorem Chain.kp2 (h : Chain P call ops l N A S) (hk : ∀ f args s, WF s → (call f args s).keeps s) (h0 : WF (S 0)) (p : Nat) : ∀ q, p ≤ q → q ≤ N → Kp (S p) (S q) := by
  intro q
  induction q with
  | zero => intro hpq _; have : p = 0 := by omega
            subst this; exact Kp.refl h0
  | succ q ih =>
    intro hpq hq
    by_cases he : p = q + 1
    · subst he; exact Kp.refl (h.kp hk h0 _ hq).wf
    · have ih := ih (by omega) (by omega)
      obtain ⟨d, o, _, _, hr⟩ := h.step q (by omega)
      have := drawOp_keeps (P := P) hk ih.wf ops.toList d o (A q)
      rw [hr] at this
      exact ih.trans this
theorem drawOp_below (hk : ∀ f args s, WF s → (call f args s).keeps s) {ops : List Oper} {d : Drawn} {o : Oper} {a a₁ : Fr} {s s₁ : St} (hwf : WF s) (h : yr P call ops d o a s = .normal a₁ s₁) (hw : howW d.how = false) :
    ∀ b, b < s.next → s₁.get b = s.get b := by
  intro b hb
  unfold yr at h
  split at h
  · split at h
    · split at h
      · split at h
        · cases h; rfl
        · cases h
      · cases h
    · rename_i hh; rw [hh] at hw; cases hw
    · have h0 : WF { s with bar := s.next } := hwf.of_heap rfl rfl
      have h1 := opM_keeps (P := P) hk h0 o a
      split at h
      · rename_i a' s' hr
        cases h
        rw [hr] at h1
        have h1 : Kp { s with bar := s.next } s' := h1
        have := h1.same b hb (by
          unfold St.may
          simp only [Bool.and_eq_false_iff]
          left
          rw [Bool.eq_false_iff]
          intro hh
          have := Nat.le_of_ble_eq_true hh
          omega)
        exact this
      · cases h
    · split at h
      · split at h
        · rename_i hn _ _
          split at h
          · cases h
            rw [Bool.and_eq_true] at hn
            have := room_lt hn.2
            rw [St.get_new (by omega), if_neg (by omega)]
          · cases h
        · cases h
      · cases h
  · cases h; rfl
theorem drawOp_prot (hk : ∀ f args s, WF s → (call f args s).keeps s) {ops : List Oper} {d : Drawn} {o : Oper} {a a₁ : Fr} {s s₁ : St} (hwf : WF s) (h : yr P call ops d o a s = .normal a₁ s₁)
    {b : Nat} (hb : b < s.next) (hm : howW d.how = true → b ∈ yl ops a d.free) : s₁.get b = s.get b := by
  cases hw : howW d.how with
  | false => exact drawOp_below hk hwf h hw b hb
  | true =>
    have hm := hm hw
    unfold yr at h
    split at h
    · split at h
      · rename_i hh; rw [hh] at hw; cases hw
      · have h0 : WF { s with prot := yl ops a d.free ++ s.prot } := hwf.of_heap rfl rfl
        have h1 := opM_keeps (P := P) hk h0 o a
        split at h
        · rename_i a' s' hr
          cases h
          rw [hr] at h1
          have h1 : Kp { s with prot := yl ops a d.free ++ s.prot } s' := h1
          exact h1.same b hb (by
            unfold St.may
            simp only [Bool.and_eq_false_iff, Bool.not_eq_false', List.any_append, Bool.or_eq_true]
            right; left
            rw [List.any_eq_true]
            exact ⟨b, hm, by simp⟩)
        · cases h
        · cases h
      · rename_i hh; rw [hh] at hw; cases hw
      · rename_i hh; rw [hh] at hw; cases hw
    · cases h; rfl
end
end Go.M
namespace Go.M
theorem Rel.of_same {P : Program} {β : Ren} {s T : St} {w : World} (h : Rel P β s w) (hn : T.next = s.next) (hh : T.heap = s.heap) : Rel P β T w := by
  have hg : ∀ b, T.get b = s.get b := fun b => by simp only [St.get, hh]
  exact {
    img := by rw [hn]; exact h.img
    obj := fun b m o hb hlt hg' => h.obj b m o hb (by omega) (by rw [← hg]; exact hg')
    inj := fun b b' m m' o o' h1 h2 l1 l2 g1 g2 => h.inj b b' m m' o o' h1 h2 (by omega) (by omega) (by rw [← hg]; exact g1) (by rw [← hg]; exact g2)
    room := by rw [hn]; exact h.room
    top := fun b hb => by rw [hg]; exact h.top b (by omega) }
theorem Rel.at_state {P : Program} {β : Ren} {s T : St} {w : World} (h : Rel P β s w) (hT : WF T) (hlt : ∀ b m, β b = some m → b < T.next → b < s.next)
    (hg : ∀ b m o, β b = some m → b < T.next → T.get b = some o → s.get b = some o) : Rel P β T w where
  img := fun b m hb hl => h.img b m hb (hlt b m hb hl)
  obj := fun b m o hb hl hgt => h.obj b m o hb (hlt b m hb hl) (hg b m o hb hl hgt)
  inj := fun b b' m m' o o' h1 h2 l1 l2 g1 g2 => h.inj b b' m m' o o' h1 h2 (hlt _ _ h1 l1) (hlt _ _ h2 l2) (hg _ _ _ h1 l1 g1) (hg _ _ _ h2 l2 g2)
  room := hT.room
  top := hT.top
theorem Rel.grow {P : Program} {β : Ren} {s : St} {w w' : World} (h : Rel P β s w) (hs : w.heap.size ≤ w'.heap.size) (hh : ∀ r, r < w.heap.size → w'.heap[r]? = w.heap[r]?) : Rel P β s w' where
  img := fun b m hb hl => Nat.lt_of_lt_of_le (h.img b m hb hl) hs
  obj := fun b m o hb hl hg => by
    obtain ⟨o', h1, h2⟩ := h.obj b m o hb hl hg
    exact ⟨o', by rw [hh _ (h.img b m hb hl)]; exact h1, h2⟩
  inj := h.inj
  room := h.room
  top := h.top
theorem wanted_eq' {P : Program} {β : Ren} {a : Fr} {a' : Act} (ops : Array Oper) (o : Oper)
    (h : ∀ g q d, o.guard = some g → ops[g.1]? = some q → q.dst = some d → VRel P β (a.get d) (a'.tmps.getD d undef)) : yM ops.toList a o = Region.wanted o (yielded ops a'.tmps) := by
  unfold yM Region.wanted
  split
  · rename_i hg; rw [hg]
  · rename_i j want hg
    have h := fun q d => h (j, want) q d hg
    rw [hg]
    simp only [yielded]
    rw [yx]
    cases hq : ops[j]? with
    | none =>
      have : ops.toList[j]? = none := by simpa using hq
      rw [this]
      simp
    | some q =>
      have : ops.toList[j]? = some q := by simpa using hq
      rw [this]
      simp only [Option.bind_some]
      cases hd : q.dst with
      | none => simp
      | some d =>
        simp only [Option.bind_some]
        have hg := h q d hq hd
        cases ht : a'.tmps[d]? with
        | none =>
          rw [Array.getD_eq_getD_getElem?, ht] at hg
          simp only [Option.getD_none] at hg
          have : ∀ b, a.get d ≠ .bool b := fun b hb => by rw [hb] at hg; cases hg
          cases hv : a.get d <;> first | rfl | exact (this _ hv).elim
        | some v =>
          rw [Array.getD_eq_getD_getElem?, ht] at hg
          simp only [Option.getD_some] at hg
          generalize a.get d = u at hg
          cases hg <;> first | rfl | (cases want <;> rename_i b <;> cases b <;> rfl)
theorem put_ge {a : Fr} (hs : a.size ≤ 65534) {dst : Option Tmp} {v : Value} {t : Nat} (h : a.size ≤ t) : (a.put dst v).get t = a.get t := by
  by_cases hd : dst = some t
  · subst hd
    unfold Fr.put
    simp only
    have : Nat.blt t a.size = false := by
      rw [Bool.eq_false_iff]; intro hh
      have : t < a.size := by simpa [Nat.blt_eq] using hh
      omega
    rw [this]
  · exact put_other hs hd
section
variable {P : Program} {call : FuncId → Array Value → St → CallOut} {ops : Array Oper} {l : List Drawn} {anc : Nat → Nat} {N : Nat} {A : Nat → Fr} {S : Nat → St} {β₀ : Ren} {w₀ : World} {a₀ : Act}
structure Inv (P : Program) (ops : Array Oper) (l : List Drawn) (anc : Nat → Nat) (N : Nat) (A : Nat → Fr) (S : Nat → St) (β₀ : Ren) (w₀ : World) (L : Nat → Prop) (M : Nat) (β : Ren) (a' : Act) (w : World) : Prop where
  closed : ∀ i k, i < ops.size → L i → (anc i).testBit k = true → L k
  before : ∀ (p : Nat) (d : Drawn), l[p]? = some d → L d.ix → p < M
  wholes : ∀ (p : Nat) (d : Drawn), l[p]? = some d → howW d.how = true → p < M → L d.ix
  leN : M ≤ N
  rel : Rel P β (S M) w
  le : β₀.le β
  dom : ∀ b m, β b = some m → β₀ b = some m ∨ ∃ (p : Nat) (d : Drawn), l[p]? = some d ∧ L d.ix ∧ (S p).next ≤ b ∧ b < (S (p + 1)).next
  tsize : a'.tmps.size = (A 0).size
  defers : a'.defers = []
  filled : ∀ (p : Nat) (d : Drawn) (o : Oper) (t : Nat), l[p]? = some d → ops[d.ix]? = some o → L d.ix → o.dst = some t → t < (A 0).size → VRel P β ((A (p + 1)).get t) (a'.tmps.getD t undef)
  old : ∀ t : Nat, t < (A 0).size → (∀ (p : Nat) (d : Drawn) (o : Oper), l[p]? = some d → ops[d.ix]? = some o → L d.ix → o.dst ≠ some t) → VRel P β ((A 0).get t) (a'.tmps.getD t undef)
  size : w₀.heap.size ≤ w.heap.size
  out : ∀ r, r < w₀.heap.size → (∀ b m o, β₀ b = some m → b < (S 0).next → (S 0).may b = true → (S 0).get b = some o → m.blk ≠ r) → w.heap[r]? = w₀.heap[r]?
  fresh : ∀ b m, β b = some m → β₀ b = none → w₀.heap.size ≤ m.blk ∨ ∃ b₁ m₁ o₁, β₀ b₁ = some m₁ ∧ b₁ < (S 0).next ∧ (S 0).may b₁ = true ∧ (S 0).get b₁ = some o₁ ∧ m₁.blk = m.blk
  os : w.os = w₀.os
  output : w.output = w₀.output
  tape : w.tape = w₀.tape
structure Ctx (P : Program) (call : FuncId → Array Value → St → CallOut) (ops : Array Oper) (l : List Drawn) (anc : Nat → Nat) (N : Nat) (A : Nat → Fr) (S : Nat → St) (β₀ : Ren) (w₀ : World) (a₀ : Act) : Prop where
  hc : CallS P call
  hk : ∀ f args s, WF s → (call f args s).keeps s
  plan : PlanOk ops l anc
  chain : Chain P call ops l N A S
  small : (A 0).size ≤ 65534
  rel : Rel P β₀ (S 0) w₀
  fr : FRel P β₀ (A 0) a₀
  free : Free β₀ (S 0) (S N)
  opsB : ∀ (i : Nat) (o : Oper), ops[i]? = some o → o.op.operands.toList.all qg = true
variable (C : Ctx P call ops l anc N A S β₀ w₀ a₀)
include C
theorem Ctx.wf0 : WF (S 0) := ⟨C.rel.room, C.rel.top⟩
theorem Ctx.wf {q : Nat} (hq : q ≤ N) : WF (S q) := (C.chain.kp C.hk C.wf0 q hq).wf
theorem Ctx.kp {p q : Nat} (h : p ≤ q) (hq : q ≤ N) : Kp (S p) (S q) := C.chain.kp2 C.hk C.wf0 p q h hq
theorem Ctx.pos {p q : Nat} {d e : Drawn} (hp : l[p]? = some d) (hq : l[q]? = some e) (h : d.ix = e.ix) : p = q := by
  rcases Nat.lt_trichotomy p q with hlt | heq | hlt
  · exact ((C.plan.pair p q d e hlt hp hq).1 h).elim
  · exact heq
  · exact ((C.plan.pair q p e d hlt hq hp).1 h.symm).elim
theorem Ctx.ahead {p q : Nat} {d e : Drawn} (hp : l[p]? = some d) (hq : l[q]? = some e) (h : (anc e.ix).testBit d.ix = true) : p < q := by
  rcases Nat.lt_trichotomy p q with hlt | heq | hlt
  · exact hlt
  · subst heq
    rw [hp] at hq; cases hq
    obtain ⟨o, ho⟩ := C.plan.op p d hp
    have := C.plan.below _ o _ ho h
    omega
  · have := (C.plan.pair q p e d hlt hq hp).2.1
    rw [h] at this; cases this
theorem Ctx.stays {p : Nat} : ∀ q, p ≤ q → q ≤ N → (∀ (r : Nat) (d : Drawn), p ≤ r → r < q → l[r]? = some d → howW d.how = false) → ∀ b, b < (S p).next → (S q).get b = (S p).get b := by
  intro q
  induction q with
  | zero => intro hpq _ _ b _; have : p = 0 := by omega
            subst this; rfl
  | succ q ih =>
    intro hpq hq hno b hb
    by_cases he : p = q + 1
    · subst he; rfl
    · obtain ⟨d, o, h1, h2, hr⟩ := C.chain.step q (by omega)
      rw [drawOp_below C.hk (C.wf (by omega)) hr (hno q d (by omega) (by omega) h1) b (Nat.lt_of_lt_of_le hb (C.kp (by omega) (by omega)).next)]
      exact ih (by omega) (by omega) (fun r d h1 h2 => hno r d h1 (by omega)) b hb
variable {L : Nat → Prop} {M : Nat} {β : Ren} {a' : Act} {w : World} (I : Inv P ops l anc N A S β₀ w₀ L M β a' w)
include I
theorem Ctx.known {b : Nat} {m : Img} (hb : β b = some m) {q : Nat} (hq : q ≤ N) (hlt : b < (S q).next) : b < (S M).next := by
  rcases I.dom b m hb with h | ⟨p, d, h1, h2, _, h4⟩
  · rcases Nat.lt_or_ge b (S 0).next with hh | hh
    · exact Nat.lt_of_lt_of_le hh (C.kp (Nat.zero_le _) I.leN).next
    · have := C.free b hh (Nat.lt_of_lt_of_le hlt (C.kp hq (Nat.le_refl N)).next)
      rw [h] at this; cases this
  · exact Nat.lt_of_lt_of_le h4 (C.kp (I.before p d h1 h2) I.leN).next
theorem Ctx.done {i : Nat} {o : Oper} (ho : ops[i]? = some o) (he : ∀ e ∈ o.after.toList, Region.binds .any e = true → L e.on) {k : Nat} (hk : (anc i).testBit k = true) : L k := by
  obtain ⟨e, h1, h2, h3⟩ := C.plan.just i o k ho hk
  have hl := he e h1 h2
  have hlt := (C.plan.edges i o ho e h1 h2).1
  have hi : i < ops.size := by
    rcases Nat.lt_or_ge i ops.size with hh | hh
    · exact hh
    · rw [Array.getElem?_eq_none hh] at ho; cases ho
  rcases h3 with h3 | h3
  · rw [← h3]; exact hl
  · exact I.closed e.on k (by omega) hl h3
theorem Ctx.slot {i j : Nat} {d : Drawn} (hj : l[j]? = some d) (hi : d.ix = i) (hjN : j ≤ N) (hn : ¬ L i) (hanc : ∀ k, (anc i).testBit k = true → L k) (t : Nat)
    (hw : ∀ u q, ops[u]? = some q → q.dst = some t → (anc i).testBit u = true ∨ u = i ∨ (anc u).testBit i = true) : VRel P β ((A j).get t) (a'.tmps.getD t undef) := by
  subst hi
  by_cases ht : t < (A 0).size
  · by_cases hex : ∃ u q, ops[u]? = some q ∧ q.dst = some t ∧ L u
    · obtain ⟨u, q, hq, hd, hl⟩ := hex
      have hu : u < ops.size := by
        rcases Nat.lt_or_ge u ops.size with hh | hh
        · exact hh
        · rw [Array.getElem?_eq_none hh] at hq; cases hq
      obtain ⟨p, e, hp, hix⟩ := C.plan.surj u hu
      have hanc' : (anc d.ix).testBit u = true := by
        rcases hw u q hq hd with h | h | h
        · exact h
        · rw [h] at hl; exact (hn hl).elim
        · exact (hn (I.closed u d.ix hu hl h)).elim
      have hpj : p < j := C.ahead hp hj (by rw [hix]; exact hanc')
      have hv := I.filled p e q t hp (by rw [hix]; exact hq) (by rw [hix]; exact hl) hd ht
      have : (A j).get t = (A (p + 1)).get t := C.chain.keepsSlot C.small t (p + 1) j (by omega) hjN fun r e' o' hr1 hr2 hr3 hr4 hr5 => by
        have heq := C.plan.dst e'.ix u o' q t hr4 hq hr5 hd
        have := C.pos hr3 hp (by rw [heq, hix])
        omega
      rw [this]; exact hv
    · have hno : ∀ (p : Nat) (e : Drawn) (o : Oper), l[p]? = some e → ops[e.ix]? = some o → L e.ix → o.dst ≠ some t := fun p e o _ h2 h3 h4 => hex ⟨e.ix, o, h2, h4, h3⟩
      have hv := I.old t ht hno
      have : (A j).get t = (A 0).get t := C.chain.keepsSlot C.small t 0 j (Nat.zero_le _) hjN fun r e' o' _ hr2 hr3 hr4 hr5 => by
        -- its writer is not done, so it does not lie ahead
        have hnl : ¬ L e'.ix := fun hl => hno r e' o' hr3 hr4 hl hr5
        rcases hw e'.ix o' hr4 hr5 with h | h | h
        · exact hnl (hanc _ h)
        · have := C.pos hr3 hj h; omega
        · have := C.ahead hj hr3 h; omega
      rw [this]; exact hv
  · have h1 : ∀ q, q ≤ N → (A q).get t = (A 0).get t := by
      intro q
      induction q with
      | zero => intro _; rfl
      | succ q ih =>
        intro hq
        obtain ⟨d, o, _, _, hr⟩ := C.chain.step q (by omega)
        obtain ⟨v, hv⟩ := drawOp_frame hr
        rw [hv, put_ge (by rw [C.chain.size q (by omega)]; exact C.small) (by rw [C.chain.size q (by omega)]; omega)]
        exact ih (by omega)
    rw [h1 j hjN]
    have h2 : a'.tmps.getD t undef = a₀.tmps.getD t undef := by
      rw [Array.getD_eq_getD_getElem?, Array.getD_eq_getD_getElem?, Array.getElem?_eq_none (by rw [I.tsize]; omega), Array.getElem?_eq_none (by rw [C.fr.size]; omega)]
    rw [h2]
    exact (C.fr.get t).mono I.le
theorem Ctx.operands {i j : Nat} {d : Drawn} {o : Oper} (hj : l[j]? = some d) (hi : d.ix = i) (hjN : j ≤ N) (ho : ops[i]? = some o) (hn : ¬ L i) (hanc : ∀ k, (anc i).testBit k = true → L k) :
    ∀ x ∈ o.op.operands.toList, VRel P β ((A j).eval x) (a'.eval x) := by
  intro x hx
  have hall := C.opsB i o ho
  rw [List.all_eq_true] at hall
  have hxb := hall x hx
  cases x with
  | tmp t =>
    refine C.slot I hj hi hjN hn hanc t fun u q hq hd => ?_
    rcases C.plan.reads i o ho t hx u q hq hd with h | ⟨_, h⟩
    · exact .inl h
    · exact .inr h
  | const v => exact plainZ_rel hxb
  | global g => simp [qg] at hxb
  | func f => exact .func .nil .nil rfl
theorem Ctx.wants {i j : Nat} {d : Drawn} {o : Oper} (hj : l[j]? = some d) (hi : d.ix = i) (hjN : j ≤ N) (ho : ops[i]? = some o) (hn : ¬ L i) (hanc : ∀ k, (anc i).testBit k = true → L k) :
    yM ops.toList (A j) o = Region.wanted o (yielded ops a'.tmps) := by
  refine wanted_eq' (P := P) (β := β) ops o fun g q t hg hq hd => ?_
  refine C.slot I hj hi hjN hn hanc t fun u q' hq' hd' => ?_
  have := C.plan.dst u g.1 q' q t hq' hq hd' hd
  subst this
  exact .inl (C.plan.guard i o g ho hg)
end
end Go.M
