/- A drawn region: one operation more. -/
/- A drawn region: the three kinds of operations; every order. -/
import Derived.Test.YtdejleegamcioaaGreatP06
namespace Go.M
section
variable {P : Program} {call : FuncId → Array Value → St → CallOut} {ops : Array Oper} {l : List Drawn} {anc : Nat → Nat} {N : Nat} {A : Nat → Fr} {S : Nat → St} {β₀ : Ren} {w₀ : World} {a₀ : Act}
theorem put_same {a : Fr} (hs : a.size ≤ 65534) {v : Value} {t : Nat} (h : t < a.size) : (a.put (some t) v).get t = v := by
  unfold Fr.put
  simp only
  have : Nat.blt t a.size = true := by simpa [Nat.blt_eq] using h
  rw [this]
  unfold Fr.get
  simp only
  rw [Tr.get_put fdepth _ _ _ _ (by have : (2 : Nat) ^ fdepth = 65536 := by decide
                                    omega), if_pos rfl]
theorem act_put_same {a' : Act} {v' : Value} {t : Nat} (h : t < a'.tmps.size) : (a'.put (some t) v').tmps.getD t undef = v' := by
  unfold Act.put
  simp only
  rw [Array.getD_eq_getD_getElem?, Array.getElem?_setIfInBounds_self_of_lt h]
  rfl
theorem act_put_other {a' : Act} {dst : Option Tmp} {v' : Value} {t : Nat} (h : dst ≠ some t) : (a'.put dst v').tmps.getD t undef = a'.tmps.getD t undef := by
  unfold Act.put
  split
  · rename_i d
    rw [Array.getD_eq_getD_getElem?, Array.getD_eq_getD_getElem?, Array.getElem?_setIfInBounds_ne (fun e => h (by rw [e]))]
  · rfl
theorem act_put_size {a' : Act} {dst : Option Tmp} {v' : Value} : (a'.put dst v').tmps.size = a'.tmps.size := by
  unfold Act.put
  split <;> simp
theorem act_put_defers {a' : Act} {dst : Option Tmp} {v' : Value} : (a'.put dst v').defers = a'.defers := by
  unfold Act.put
  split <;> rfl
structure Next1 (ops : Array Oper) (l : List Drawn) (anc : Nat → Nat) (L : Nat → Prop) (i j : Nat) (d : Drawn) (o : Oper) : Prop where
  hj : l[j]? = some d
  hi : d.ix = i
  ho : ops[i]? = some o
  hn : ¬ L i
  hanc : ∀ k, (anc i).testBit k = true → L k
variable (C : Ctx P call ops l anc N A S β₀ w₀ a₀) {L : Nat → Prop} {M : Nat} {β : Ren} {a' : Act} {w : World} (I : Inv P ops l anc N A S β₀ w₀ L M β a' w)
  {i j : Nat} {d : Drawn} {o : Oper} (X : Next1 ops l anc L i j d o)
include C I X
theorem Ctx.gap (r : Nat) (e : Drawn) (h1 : M ≤ r) (h2 : r < j) (he : l[r]? = some e) : howW e.how = false := by
  have hnl : ¬ L e.ix := fun hl => by have := I.before r e he hl; omega
  have hp := C.plan.pair r j e d h2 he X.hj
  cases hb : (anc d.ix).testBit e.ix with
  | true => rw [X.hi] at hb; exact (hnl (X.hanc _ hb)).elim
  | false => exact (hp.2.2 hb).1
theorem Ctx.gap2 (r : Nat) (e : Drawn) (h1 : j ≤ r) (h2 : r < M) (he : l[r]? = some e) (hw : howW e.how = true) : j < r ∧ (howL d.how = true ∨ howN d.how = true) ∧ (isLoad o = true ∨ howN d.how = true → i ∈ e.free) := by
  have hl := I.wholes r e he hw h2
  have hne : j ≠ r := fun heq => by
    subst heq
    rw [X.hj] at he; cases he
    rw [X.hi] at hl; exact X.hn hl
  have hlt : j < r := by omega
  have hp := C.plan.pair j r d e hlt X.hj he
  obtain ⟨oe, hoe⟩ := C.plan.op r e he
  have hsz : e.ix < ops.size := by
    rcases Nat.lt_or_ge e.ix ops.size with hh | hh
    · exact hh
    · rw [Array.getElem?_eq_none hh] at hoe; cases hoe
  cases hb : (anc e.ix).testBit d.ix with
  | true => rw [X.hi] at hb; exact (X.hn (I.closed e.ix i hsz hl hb)).elim
  | false =>
    obtain ⟨g1, g2⟩ := (hp.2.2 hb).2 hw
    exact ⟨hlt, g1, fun hld => by have := g2 o (by rw [X.hi]; exact X.ho) hld; rw [X.hi] at this; exact this⟩
theorem Ctx.relAt (hjN : j ≤ N) (h : M ≤ j ∨ (howL d.how = false ∧ howN d.how = false)) : Rel P β (S j) w := by
  refine I.rel.at_state (C.wf hjN) (fun b m hb hlt => C.known I hb hjN hlt) fun b m o' hb hlt hg => ?_
  rcases Nat.lt_or_ge j M with hjm | hjm
  · have hl := h.resolve_left (by omega)
    rw [C.stays M (by omega) I.leN (fun r e h1 h2 he => by
      cases hw : howW e.how with
      | false => rfl
      | true =>
        rcases (C.gap2 I X r e h1 h2 he hw).2.1 with this | this
        · rw [hl.1] at this; cases this
        · rw [hl.2] at this; cases this) b hlt]
    exact hg
  · rw [← C.stays j hjm hjN (fun r e h1 h2 he => C.gap I X r e h1 h2 he) b (C.known I hb hjN hlt)]
    exact hg
theorem Ctx.freeAt (hjN : j < N) : Free β (S j) (S (j + 1)) := fun b h1 h2 => by
  cases hb : β b with
  | none => rfl
  | some m =>
    exfalso
    rcases I.dom b m hb with h | ⟨p, e, g1, g2, g3, g4⟩
    · have := C.free b (Nat.le_trans (C.kp (Nat.zero_le j) (by omega)).next h1) (Nat.lt_of_lt_of_le h2 (C.kp (by omega : j + 1 ≤ N) (Nat.le_refl N)).next)
      rw [h] at this; cases this
    · have hpM := I.before p e g1 g2
      have hleN := I.leN
      rcases Nat.lt_trichotomy p j with hlt | heq | hlt
      · have := (C.kp (by omega : p + 1 ≤ j) (by omega)).next; omega
      · subst heq
        rw [X.hj] at g1; cases g1
        rw [X.hi] at g2; exact X.hn g2
      · have := (C.kp (by omega : j + 1 ≤ p) (by omega)).next; omega
theorem Ctx.advance (hjN : j < N) {v v' : Value} (hA : A (j + 1) = (A j).put o.dst v) {M' : Nat} (hM : M ≤ M') (hjM : j < M') (hM' : M' ≤ N)
    (hw : ∀ (p : Nat) (e : Drawn), l[p]? = some e → howW e.how = true → p < M' → L e.ix ∨ e.ix = i) {β' : Ren} {w' : World} (hv : VRel P β' v v') (hrel : Rel P β' (S M') w') (hle : β.le β')
    (hdom : ∀ b m, β' b = some m → β b = none → (S j).next ≤ b ∧ b < (S (j + 1)).next) (hsize : w.heap.size ≤ w'.heap.size)
    (hout : ∀ r, r < w.heap.size → (∀ b m o, β b = some m → b < (S j).next → (S 0).may b = true → (S j).get b = some o → m.blk ≠ r) → w'.heap[r]? = w.heap[r]?)
    (hfresh : ∀ b m, β' b = some m → β b = none → w.heap.size ≤ m.blk ∨ ∃ b₁ m₁ o₁, β b₁ = some m₁ ∧ b₁ < (S j).next ∧ (S 0).may b₁ = true ∧ (S j).get b₁ = some o₁ ∧ m₁.blk = m.blk)
    (hos : w'.os = w.os) (hop : w'.output = w.output) (htp : w'.tape = w.tape) :
    Inv P ops l anc N A S β₀ w₀ (fun k => L k ∨ k = i) M' β' (a'.put o.dst v') w' := by
  have hsm := C.small
  have hszj := C.chain.size j (by omega)
  -- what lives and may be written at the next operation's turn did so at the region's beginning
  have back : ∀ b m o, β b = some m → b < (S j).next → (S 0).may b = true → (S j).get b = some o → ∀ r, m.blk = r →
      w₀.heap.size ≤ r ∨ ∃ b₁ m₁ o₁, β₀ b₁ = some m₁ ∧ b₁ < (S 0).next ∧ (S 0).may b₁ = true ∧ (S 0).get b₁ = some o₁ ∧ m₁.blk = r := by
    intro b m oo hb hlt hmay hg r hr
    cases h0 : β₀ b with
    | some m₀ =>
      have := I.le b m₀ h0
      rw [hb] at this; cases this
      have hb0 : b < (S 0).next := by
        rcases Nat.lt_or_ge b (S 0).next with hh | hh
        · exact hh
        · have := C.free b hh (Nat.lt_of_lt_of_le hlt (C.kp (by omega : j ≤ N) (Nat.le_refl N)).next)
          rw [h0] at this; cases this
      cases hg0 : (S 0).get b with
      | none => rw [(C.kp (Nat.zero_le j) (by omega)).dead b hb0 hg0] at hg; cases hg
      | some o₁ => exact .inr ⟨b, m, o₁, h0, hb0, hmay, hg0, hr⟩
    | none => rw [← hr]; exact I.fresh b m hb h0
  exact {
    closed := fun k q hk hl hq => by
      rcases hl with hl | hl
      · exact .inl (I.closed k q hk hl hq)
      · subst hl; exact .inl (X.hanc q hq)
    before := fun p e hp hl => by
      rcases hl with hl | hl
      · exact Nat.lt_of_lt_of_le (I.before p e hp hl) hM
      · have := C.pos hp X.hj (by rw [hl, X.hi]); omega
    wholes := hw
    leN := hM'
    rel := hrel
    le := Ren.le_trans I.le hle
    dom := fun b m hb => by
      cases h1 : β b with
      | some m₁ =>
        have := hle b m₁ h1
        rw [hb] at this; cases this
        rcases I.dom b m h1 with h | ⟨p, e, g1, g2, g3, g4⟩
        · exact .inl h
        · exact .inr ⟨p, e, g1, .inl g2, g3, g4⟩
      | none =>
        obtain ⟨g1, g2⟩ := hdom b m hb h1
        exact .inr ⟨j, d, X.hj, .inr X.hi, g1, g2⟩
    tsize := by rw [act_put_size]; exact I.tsize
    defers := by rw [act_put_defers]; exact I.defers
    filled := fun p e q t hp hq hl hd ht => by
      rcases hl with hl | hl
      · have hne : o.dst ≠ some t := fun hh => by
          have := C.plan.dst e.ix i q o t hq X.ho hd hh
          rw [this] at hl; exact X.hn hl
        rw [act_put_other hne]
        exact (I.filled p e q t hp hq hl hd ht).mono hle
      · have hpj := C.pos hp X.hj (by rw [hl, X.hi])
        subst hpj
        rw [hl, X.ho] at hq; cases hq
        rw [hA, hd, put_same (by omega) (by omega), act_put_same (by rw [I.tsize]; exact ht)]
        exact hv
    old := fun t ht hno => by
      have hne : o.dst ≠ some t := hno j d o X.hj (by rw [X.hi]; exact X.ho) (.inr X.hi)
      rw [act_put_other hne]
      exact (I.old t ht fun p e q hp hq hl => hno p e q hp hq (.inl hl)).mono hle
    size := Nat.le_trans I.size hsize
    out := fun r hr hno => by
      rw [← I.out r hr hno]
      refine hout r (Nat.lt_of_lt_of_le hr I.size) fun b m oo hb hlt hmay hg heq => ?_
      rcases back b m oo hb hlt hmay hg r heq with h | ⟨b₁, m₁, o₁, g1, g2, g3, g4, g5⟩
      · omega
      · exact hno b₁ m₁ o₁ g1 g2 g3 g4 g5
    fresh := fun b m hb h0 => by
      cases h1 : β b with
      | some m₁ =>
        have := hle b m₁ h1
        rw [hb] at this; cases this
        exact I.fresh b m h1 h0
      | none =>
        rcases hfresh b m hb h1 with h | ⟨b₁, m₁, o₁, g1, g2, g3, g4, g5⟩
        · exact .inl (Nat.le_trans I.size h)
        · exact back b₁ m₁ o₁ g1 g2 g3 g4 m.blk g5
    os := hos.trans I.os
    output := hop.trans I.output
    tape := htp.trans I.tape }
omit I X in
theorem Ctx.mayAt (hjN : j ≤ N) (b : Nat) : (S j).may b = (S 0).may b := St.may_eq (C.kp (Nat.zero_le j) hjN).bar (C.kp (Nat.zero_le j) hjN).prot b
theorem Ctx.pass (hjN : j < N) (hr : yr P call ops.toList d o (A j) (S j) = .normal (A (j + 1)) (S (j + 1))) (hwant : yM ops.toList (A j) o = false) :
    ∃ M', Inv P ops l anc N A S β₀ w₀ (fun k => L k ∨ k = i) M' β (a'.put o.dst undef) w := by
  unfold yr at hr
  rw [hwant] at hr
  simp only [Out.normal.injEq] at hr
  obtain ⟨hA, hS⟩ := hr
  rcases Nat.lt_or_ge j M with hjm | hjm
  · refine ⟨M, C.advance I X hjN hA.symm (Nat.le_refl M) hjm I.leN (fun p e hp hw hlt => .inl (I.wholes p e hp hw hlt)) undef_rel I.rel (Ren.le_refl β) (fun b m h1 h2 => by rw [h2] at h1; cases h1) (Nat.le_refl _) (fun _ _ _ => rfl) (fun b m h1 h2 => by rw [h2] at h1; cases h1) rfl rfl rfl⟩
  · refine ⟨j + 1, C.advance I X hjN hA.symm (by omega) (by omega) (by omega) (fun p e hp hw hlt => ?_) undef_rel (by rw [← hS]; exact C.relAt I X (by omega) (.inl hjm)) (Ren.le_refl β) (fun b m h1 h2 => by rw [h2] at h1; cases h1) (Nat.le_refl _) (fun _ _ _ => rfl) (fun b m h1 h2 => by rw [h2] at h1; cases h1) rfl rfl rfl⟩
    rcases Nat.lt_or_ge p M with hpm | hpm
    · exact .inl (I.wholes p e hp hw hpm)
    · by_cases hpj : p = j
      · subst hpj; rw [X.hj] at hp; cases hp; exact .inr X.hi
      · have := C.gap I X p e hpm (by omega) hp
        rw [hw] at this; cases this
end
end Go.M
namespace Go.M
section
variable {P : Program} {call : FuncId → Array Value → St → CallOut} {ops : Array Oper} {l : List Drawn} {anc : Nat → Nat} {N : Nat} {A : Nat → Fr} {S : Nat → St} {β₀ : Ren} {w₀ : World} {a₀ : Act}
theorem frame_eq {o : Oper} {a : Fr} {v : Value} {s s₁ : St} {a₁ : Fr} (hr : opM P call o a s = .normal a₁ s₁) {s' : St} (h : opM P call o a s = .normal (a.put o.dst v) s') : a₁ = a.put o.dst v ∧ s' = s₁ := by
  rw [hr] at h
  simp only [Out.normal.injEq] at h
  exact ⟨h.1, h.2.symm⟩
variable (C : Ctx P call ops l anc N A S β₀ w₀ a₀) {L : Nat → Prop} {M : Nat} {β : Ren} {a' : Act} {w : World} (I : Inv P ops l anc N A S β₀ w₀ L M β a' w)
  {i j : Nat} {d : Drawn} {o : Oper} (X : Next1 ops l anc L i j d o)
include C I X
theorem Ctx.wholesTo (hjm : M ≤ j) (p : Nat) (e : Drawn) (hp : l[p]? = some e) (hw : howW e.how = true) (hlt : p < j + 1) : L e.ix ∨ e.ix = i := by
  rcases Nat.lt_or_ge p M with hpm | hpm
  · exact .inl (I.wholes p e hp hw hpm)
  · by_cases hpj : p = j
    · subst hpj; rw [X.hj] at hp; cases hp; exact .inr X.hi
    · have := C.gap I X p e hpm (by omega) hp
      rw [hw] at this; cases this
omit C in
theorem wholeJ (hh : howW d.how = true) : M ≤ j := by
  rcases Nat.lt_or_ge j M with hjm | hjm
  · have := I.wholes j d X.hj hh hjm
    rw [X.hi] at this
    exact (X.hn this).elim
  · exact hjm
theorem Ctx.whole (hjN : j < N) (hr : yr P call ops.toList d o (A j) (S j) = .normal (A (j + 1)) (S (j + 1))) (hwant : yM ops.toList (A j) o = true) (hh : d.how = .whole)
    (K : Act → World → Prop) (Q : Exit → Act → World → Prop)
    (hK : ∀ M' β' v' w', Inv P ops l anc N A S β₀ w₀ (fun k => L k ∨ k = i) M' β' (a'.put o.dst v') w' → K (a'.put o.dst v') w') : o.wp P a' w K Q := by
  have hW : howW d.how = true := by rw [hh]; rfl
  have hjm := wholeJ I X hW
  unfold yr at hr
  rw [hwant, hh] at hr
  simp only at hr
  have hfree := C.freeAt I X hjN
  let sm : St := { S j with prot := yl ops.toList (A j) d.free ++ (S j).prot }
  have hrel : Rel P β sm w := (C.relAt I X (by omega) (.inl hjm)).of_same rfl rfl
  split at hr
  · rename_i a₁ s₁ hop
    simp only [Out.normal.injEq] at hr
    obtain ⟨hA, hS⟩ := hr
    have hnext : (S (j + 1)).next = s₁.next := by rw [← hS]
    refine qA C.hc hrel (C.operands I X.hj X.hi (by omega) X.ho X.hn X.hanc) (by rw [hop]; simp) (by rw [hop]; exact fun b h1 h2 => hfree b h1 (by rw [hnext]; exact h2)) K Q (fun v v' s' β' w' he hx hv => ?_) (fun c c' s' β' w' he => by rw [hop] at he; cases he)
    obtain ⟨e1, e2⟩ := frame_eq hop he
    subst e2
    refine hK (j + 1) β' v' w' (C.advance I X hjN (by rw [← hA, e1]) (by omega) (by omega) (by omega) (C.wholesTo I X hjm) hv ?_ hx.le (fun b m h1 h2 => by rw [hnext]; exact hx.dom b m h1 h2) hx.size (fun r hr hno => ?_) (fun b m h1 h2 => ?_) hx.os hx.output hx.tape)
    · exact hx.rel.of_same hnext (by rw [← hS])
    · refine hx.out r hr fun b m oo hb hlt hmay hg => hno b m oo hb hlt ?_ hg
      rw [← C.mayAt (by omega : j ≤ N)]
      unfold St.may at hmay ⊢
      simp only [sm, Bool.and_eq_true, Bool.not_eq_true', List.any_append, Bool.or_eq_false_iff] at hmay ⊢
      exact ⟨hmay.1, hmay.2.2⟩
    · rcases hx.fresh b m h1 h2 with h | ⟨b₁, m₁, o₁, g1, g2, g3, g4, g5⟩
      · exact .inl h
      · refine .inr ⟨b₁, m₁, o₁, g1, g2, ?_, g4, g5⟩
        rw [← C.mayAt (by omega : j ≤ N)]
        unfold St.may at g3 ⊢
        simp only [sm, Bool.and_eq_true, Bool.not_eq_true', List.any_append, Bool.or_eq_false_iff] at g3 ⊢
        exact ⟨g3.1, g3.2.2⟩
  · cases hr
  · cases hr
omit C I X in
theorem no_may {s : St} {b : Nat} (hb : b < s.next) (p : List Nat) : ({ s with bar := s.next, prot := p } : St).may b = false := by
  unfold St.may
  simp only [Bool.and_eq_false_iff]
  left
  rw [Bool.eq_false_iff]
  intro hh
  have := Nat.le_of_ble_eq_true hh
  omega
theorem Ctx.freshOp (hjN : j < N) (hr : yr P call ops.toList d o (A j) (S j) = .normal (A (j + 1)) (S (j + 1))) (hwant : yM ops.toList (A j) o = true) (hh : d.how = .fresh)
    (K : Act → World → Prop) (Q : Exit → Act → World → Prop)
    (hK : ∀ M' β' v' w', Inv P ops l anc N A S β₀ w₀ (fun k => L k ∨ k = i) M' β' (a'.put o.dst v') w' → K (a'.put o.dst v') w') : o.wp P a' w K Q := by
  unfold yr at hr
  rw [hwant, hh] at hr
  simp only at hr
  have hfree := C.freeAt I X hjN
  have hrelj : Rel P β (S j) w := C.relAt I X (by omega) (.inr ⟨by rw [hh]; rfl, by rw [hh]; rfl⟩)
  let sm : St := { S j with bar := (S j).next }
  have hrel : Rel P β sm w := hrelj.of_same rfl rfl
  split at hr
  · rename_i a₁ s₁ hop
    simp only [Out.normal.injEq] at hr
    obtain ⟨hA, hS⟩ := hr
    have hnext : (S (j + 1)).next = s₁.next := by rw [← hS]
    refine qA C.hc hrel (C.operands I X.hj X.hi (by omega) X.ho X.hn X.hanc) (by rw [hop]; simp) (by rw [hop]; exact fun b h1 h2 => hfree b h1 (by rw [hnext]; exact h2)) K Q (fun v v' s' β' w' he hx hv => ?_) (fun c c' s' β' w' he => by rw [hop] at he; cases he)
    obtain ⟨e1, e2⟩ := frame_eq hop he
    subst e2
    -- nothing that was there is written
    have hkept : ∀ r, r < w.heap.size → w'.heap[r]? = w.heap[r]? := fun r hr => hx.out r hr fun b m oo hb hlt hmay => by
      have := no_may (s := S j) hlt (S j).prot
      rw [this] at hmay; cases hmay
    have hnew : ∀ b m, β' b = some m → β b = none → w.heap.size ≤ m.blk := fun b m h1 h2 => by
      rcases hx.fresh b m h1 h2 with h | ⟨b₁, m₁, o₁, g1, g2, g3, _⟩
      · exact h
      · have := no_may (s := S j) g2 (S j).prot
        rw [this] at g3; cases g3
    have hrel1 : Rel P β' (S (j + 1)) w' := hx.rel.of_same hnext (by rw [← hS])
    rcases Nat.lt_or_ge j M with hjm | hjm
    · -- others behind it are done
      have hstay : ∀ b, b < (S (j + 1)).next → (S M).get b = (S (j + 1)).get b := C.stays M (by omega) I.leN (fun r e h1 h2 he => by
        cases hw : howW e.how with
        | false => rfl
        | true => rcases (C.gap2 I X r e (by omega) h2 he hw).2.1 with this | this <;> (rw [hh] at this; cases this))
      have holdrel := (I.rel.grow hx.size hkept)
      have back : ∀ b m, β' b = some m → b < (S M).next → β b = some m ∨ (β b = none ∧ b < (S (j + 1)).next) := fun b m h1 _ => by
        cases hb : β b with
        | some m₁ => have := hx.le b m₁ hb; rw [h1] at this; cases this; exact .inl rfl
        | none => exact .inr ⟨rfl, by rw [hnext]; exact (hx.dom b m h1 hb).2⟩
      have hrelM : Rel P β' (S M) w' := {
        img := fun b m h1 h2 => by
          rcases back b m h1 h2 with h | ⟨_, h⟩
          · exact holdrel.img b m h h2
          · exact hrel1.img b m h1 h
        obj := fun b m oo h1 h2 hg => by
          rcases back b m h1 h2 with h | ⟨_, h⟩
          · obtain ⟨o', q1, q2⟩ := holdrel.obj b m oo h h2 hg
            exact ⟨o', q1, q2.mono hx.le⟩
          · exact hrel1.obj b m oo h1 h (by rw [← hstay b h]; exact hg)
        inj := fun b1 b2 m1 m2 o1 o2 h1 h2 l1 l2 g1 g2 e => by
          rcases back b1 m1 h1 l1 with k1 | ⟨k1, k1'⟩
          · rcases back b2 m2 h2 l2 with k2 | ⟨k2, k2'⟩
            · exact holdrel.inj b1 b2 m1 m2 o1 o2 k1 k2 l1 l2 g1 g2 e
            · have := I.rel.img b1 m1 k1 l1
              have := hnew b2 m2 h2 k2
              omega
          · rcases back b2 m2 h2 l2 with k2 | ⟨k2, k2'⟩
            · have := I.rel.img b2 m2 k2 l2
              have := hnew b1 m1 h1 k1
              omega
            · exact hrel1.inj b1 b2 m1 m2 o1 o2 h1 h2 k1' k2' (by rw [← hstay b1 k1']; exact g1) (by rw [← hstay b2 k2']; exact g2) e
        room := I.rel.room
        top := I.rel.top }
      exact hK M β' v' w' (C.advance I X hjN (by rw [← hA, e1]) (Nat.le_refl M) hjm I.leN (fun p e hp hw hlt => .inl (I.wholes p e hp hw hlt)) hv hrelM hx.le (fun b m h1 h2 => by rw [hnext]; exact hx.dom b m h1 h2) hx.size (fun r hr _ => hkept r hr) (fun b m h1 h2 => .inl (hnew b m h1 h2)) hx.os hx.output hx.tape)
    · exact hK (j + 1) β' v' w' (C.advance I X hjN (by rw [← hA, e1]) (by omega) (by omega) (by omega) (C.wholesTo I X hjm) hv hrel1 hx.le (fun b m h1 h2 => by rw [hnext]; exact hx.dom b m h1 h2) hx.size (fun r hr _ => hkept r hr) (fun b m h1 h2 => .inl (hnew b m h1 h2)) hx.os hx.output hx.tape)
  · cases hr
theorem Ctx.loadKept (hjN : j ≤ N) (hli : isLight o = true) {b : Nat} (hb : yD (A j) o = some b) (hlt : b < (S j).next) (hjm : j < M) : (S M).get b = (S j).get b := by
  have hld : isLoad o = true := by
    unfold yD at hb
    split at hb
    · rename_i t x hop; simp [isLoad, hop]
    · rename_i hop; simp [isLight, hop] at hli
    · cases hb
  -- its address is the same at every later turn
  have same : ∀ q, j ≤ q → q ≤ N → yD (A q) o = some b := fun q hq hqN => by
    unfold yD at hb ⊢
    split at hb
    · rename_i t x hop
      have : (A q).eval x = (A j).eval x := by
        cases x with
        | tmp u =>
          refine C.chain.keepsSlot C.small u j q hq hqN fun r e oe h1 h2 he hoe hd => ?_
          rcases C.plan.reads i o X.ho u (by rw [hop]; simp [Op.operands]) e.ix oe hoe hd with h | ⟨h, _⟩
          · have := C.ahead he X.hj (by rw [X.hi]; exact h); omega
          · rw [hld] at h; cases h
        | const v => rfl
        | global g => rfl
        | func f => rfl
      rw [this]; exact hb
    · rename_i hop; simp [isLight, hop] at hli
    · cases hb
  -- and no operation on the way writes there
  have hblk : ∀ (f : List Nat) (a : Fr), i ∈ f → yD a o = some b → b ∈ yl ops.toList a f := by
    intro f a
    induction f with
    | nil => intro h; cases h
    | cons k f ih =>
      intro hm hbk
      unfold yl
      rcases List.mem_cons.1 hm with rfl | hm
      · have : yo ops.toList i = some o := by rw [yx]; simpa using X.ho
        rw [this]
        simp only [hbk, List.mem_cons, true_or]
      · have := ih hm hbk
        split
        · split
          · exact List.mem_cons_of_mem _ this
          · exact this
        · exact this
  have : ∀ q, j ≤ q → q ≤ M → (S q).get b = (S j).get b := by
    intro q
    induction q with
    | zero => intro h _; have : j = 0 := by omega
              subst this; rfl
    | succ q ih =>
      intro h1 h2
      by_cases he : j = q + 1
      · rw [he]
      · have hMN := I.leN
        obtain ⟨e, oe, g1, g2, g3⟩ := C.chain.step q (by omega)
        rw [drawOp_prot C.hk (C.wf (by omega)) g3 (Nat.lt_of_lt_of_le hlt (C.kp (by omega : j ≤ q) (by omega)).next) (fun hw => by
          obtain ⟨_, _, q3⟩ := C.gap2 I X q e (by omega) (by omega) g1 hw
          exact hblk e.free (A q) (q3 (.inl hld)) (same q (by omega) (by omega)))]
        exact ih (by omega) (by omega)
  exact this M (by omega) (Nat.le_refl M)
theorem Ctx.lightOp (hjN : j < N) (hr : yr P call ops.toList d o (A j) (S j) = .normal (A (j + 1)) (S (j + 1))) (hwant : yM ops.toList (A j) o = true) (hh : d.how = .light)
    (K : Act → World → Prop) (Q : Exit → Act → World → Prop)
    (hK : ∀ M' β' v' w', Inv P ops l anc N A S β₀ w₀ (fun k => L k ∨ k = i) M' β' (a'.put o.dst v') w' → K (a'.put o.dst v') w') : o.wp P a' w K Q := by
  unfold yr at hr
  rw [hwant, hh] at hr
  simp only at hr
  let sm : St := { next := (S j).next, bar := (S j).next, prot := [], heap := only (S j) (yD (A j) o) }
  have hget : ∀ b, sm.get b = if yD (A j) o = some b then (S j).get b else none := fun b => by
    show Tr.get (only (S j) (yD (A j) o)) b = _
    unfold only
    cases hb : yD (A j) o with
    | none => simp [Tr.get]
    | some b₀ =>
      simp only
      rcases Nat.lt_or_ge b₀ 281474976710655 with hlt | hge
      · rw [Tr.get_put depth _ _ _ _ (by have : (2 : Nat) ^ depth = 281474976710656 := by decide
                                         omega)]
        by_cases he : b = b₀
        · subst he; simp
        · have : ¬ (some b₀ = some b) := fun h => he (by cases h; rfl)
          rw [if_neg he, if_neg this]; rfl
      · -- so great a number is none
        have hno : (S j).get b₀ = none := (C.wf (by omega : j ≤ N)).top b₀ (by have := (C.wf (by omega : j ≤ N)).room; omega)
        have all : ∀ (d n : Nat) (t : Tr MObj) (m : Nat), (∀ k, t.get k = none) → (Tr.put d t n none).get m = none := by
          intro d
          induction d with
          | zero => intro n t m ht; exact ht m
          | succ d ih =>
            intro n t m ht
            cases t with
            | nil =>
              cases n with
              | zero => cases m <;> simp only [Tr.put, Tr.get]; split <;> rfl
              | succ k =>
                simp only [Tr.put]
                split <;> (cases m <;> simp only [Tr.get]; split <;> first | rfl | exact ih _ _ _ (fun _ => rfl))
            | node v a b =>
              have hv : v = none := ht 0
              have ha : ∀ k, a.get k = none := fun k => by
                have := ht (2 * k + 1)
                simp only [Tr.get] at this
                rw [show 2 * k % 2 = 0 by omega, show 2 * k / 2 = k by omega] at this
                exact this
              have hb : ∀ k, b.get k = none := fun k => by
                have := ht (2 * k + 2)
                simp only [Tr.get] at this
                rw [show (2 * k + 1) % 2 = 1 by omega, show (2 * k + 1) / 2 = k by omega] at this
                exact this
              cases n with
              | zero => cases m <;> simp only [Tr.put, Tr.get]; split <;> first | exact ha _ | exact hb _
              | succ k =>
                simp only [Tr.put]
                split <;> (cases m <;> simp only [Tr.get]; · exact hv
                           · split <;> first | exact ha _ | exact hb _ | exact ih _ _ _ ha | exact ih _ _ _ hb)
        rw [hno, all depth b₀ .nil b (fun _ => rfl)]
        split
        · rename_i he; cases he; exact hno.symm
        · rfl
  have hwfm : WF sm := ⟨(C.wf (by omega : j ≤ N)).room, fun b hb => by
    rw [hget]
    split
    · exact (C.wf (by omega : j ≤ N)).top b hb
    · rfl⟩
  have hrel : Rel P β sm w := by
    refine I.rel.at_state hwfm (fun b m hb hlt => C.known I hb (by omega : j ≤ N) hlt) fun b m oo hb hlt hg => ?_
    rw [hget] at hg
    split at hg
    · rename_i hbo
      rcases Nat.lt_or_ge j M with hjm | hjm
      · rw [C.loadKept I X (by omega) (C.plan.light j d o X.hj (by rw [X.hi]; exact X.ho) (by rw [hh]; rfl)) hbo hlt hjm]; exact hg
      · rw [← C.stays j hjm (by omega) (fun r e h1 h2 he => C.gap I X r e h1 h2 he) b (C.known I hb (by omega : j ≤ N) hlt)]
        exact hg
    · cases hg
  split at hr
  · rename_i a₁ s₁ hop
    split at hr
    · rename_i hn
      have hn : s₁.next = (S j).next := Nat.eq_of_beq_eq_true hn
      simp only [Out.normal.injEq] at hr
      obtain ⟨hA, hS⟩ := hr
      refine qA C.hc hrel (C.operands I X.hj X.hi (by omega) X.ho X.hn X.hanc) (by rw [hop]; simp) (by
        rw [hop]
        intro b h1 h2
        have h1 : (S j).next ≤ b := h1
        omega) K Q (fun v v' s' β' w' he hx hv => ?_) (fun c c' s' β' w' he => by rw [hop] at he; cases he)
      obtain ⟨e1, e2⟩ := frame_eq hop he
      subst e2
      have hkept : ∀ r, r < w.heap.size → w'.heap[r]? = w.heap[r]? := fun r hr => hx.out r hr fun b m oo hb hlt hmay => by
        have := no_may (s := sm) hlt []
        have e : ({ sm with bar := sm.next, prot := [] } : St) = sm := rfl
        rw [e, hmay] at this; cases this
      have hno : ∀ b m, β' b = some m → β b = none → False := fun b m h1 h2 => by
        have h := hx.dom b m h1 h2
        have h1 : (S j).next ≤ b := h.1
        have h2 := h.2
        omega
      have hle' : β'.le β := fun b m hb => by
        cases h1 : β b with
        | some m₁ => have := hx.le b m₁ h1; rw [hb] at this; cases this; rfl
        | none => exact (hno b m hb h1).elim
      have hbe : β' = β := by
        funext b
        cases h1 : β b with
        | some m => exact hx.le b m h1
        | none => cases h2 : β' b with
          | none => rfl
          | some m => exact (hno b m h2 h1).elim
      subst hbe
      rcases Nat.lt_or_ge j M with hjm | hjm
      · exact hK M β' v' w' (C.advance I X hjN (by rw [← hA, e1]) (Nat.le_refl M) hjm I.leN (fun p e hp hw hlt => .inl (I.wholes p e hp hw hlt)) hv (I.rel.grow hx.size hkept) hx.le (fun b m h1 h2 => by rw [h2] at h1; cases h1) hx.size (fun r hr _ => hkept r hr) (fun b m h1 h2 => by rw [h2] at h1; cases h1) hx.os hx.output hx.tape)
      · exact hK (j + 1) β' v' w' (C.advance I X hjN (by rw [← hA, e1]) (by omega) (by omega) (by omega) (C.wholesTo I X hjm) hv (by rw [← hS]; exact (C.relAt I X (by omega) (.inl hjm)).grow hx.size hkept) hx.le (fun b m h1 h2 => by rw [h2] at h1; cases h1) hx.size (fun r hr _ => hkept r hr) (fun b m h1 h2 => by rw [h2] at h1; cases h1) hx.os hx.output hx.tape)
    · cases hr
  · cases hr
omit C I X in
theorem Rel.newDead {s : St} (h : Rel P β s w) (hroom : s.room = true) (hn : β s.next = none) (o : MObj) : Rel P β (s.new o) w := by
  have hr := room_lt hroom
  have gp := fun b' => St.get_new (s := s) (by omega) o b'
  have ne : ∀ b m, β b = some m → b ≠ s.next := fun b m hb e => by rw [e, hn] at hb; cases hb
  exact {
    img := fun b m hb hlt => h.img b m hb (by have := ne b m hb; simp at hlt; omega)
    obj := fun b m oo hb hlt hg => by
      rw [gp, if_neg (ne b m hb)] at hg
      exact h.obj b m oo hb (by have := ne b m hb; simp at hlt; omega) hg
    inj := fun b1 b2 m1 m2 o1 o2 h1 h2 l1 l2 g1 g2 e => by
      rw [gp, if_neg (ne b1 m1 h1)] at g1
      rw [gp, if_neg (ne b2 m2 h2)] at g2
      exact h.inj b1 b2 m1 m2 o1 o2 h1 h2 (by have := ne b1 m1 h1; simp at l1; omega) (by have := ne b2 m2 h2; simp at l2; omega) g1 g2 e
    room := by simp; omega
    top := fun b hb => by simp at hb; rw [gp, if_neg (by omega)]; exact h.top b (by omega) }
theorem Ctx.newKept (hjN : j < N) (hh : d.how = .new) {b : Nat} (hbo : yD (A (j + 1)) o = some b) (hlt : b < (S (j + 1)).next) (hjm : j < M) : (S M).get b = (S (j + 1)).get b := by
  have hal : isAlloc o = true := C.plan.alloc j d o X.hj (by rw [X.hi]; exact X.ho) (by rw [hh]; rfl)
  have same : ∀ q, j + 1 ≤ q → q ≤ N → yD (A q) o = some b := fun q hq hqN => by
    unfold yD at hbo ⊢
    split at hbo
    · rename_i t x hop; simp [isAlloc, hop] at hal
    · rename_i t hop
      cases hd : o.dst with
      | none => rw [hd] at hbo; cases hbo
      | some u =>
        rw [hd] at hbo
        have : (A q).get u = (A (j + 1)).get u := C.chain.keepsSlot C.small u (j + 1) q hq hqN fun r e oe h1 h2 he hoe hde => by
          have hix := C.plan.dst i e.ix o oe u X.ho hoe hd hde
          have := C.pos X.hj he (by rw [X.hi]; exact hix)
          omega
        simp only [this]
        exact hbo
    · cases hbo
  have hblk : ∀ (f : List Nat) (a : Fr), i ∈ f → yD a o = some b → b ∈ yl ops.toList a f := by
    intro f a
    induction f with
    | nil => intro h; cases h
    | cons k f ih =>
      intro hm hbk
      unfold yl
      rcases List.mem_cons.1 hm with rfl | hm
      · have : yo ops.toList i = some o := by rw [yx]; simpa using X.ho
        rw [this]
        simp only [hbk, List.mem_cons, true_or]
      · have := ih hm hbk
        split
        · split
          · exact List.mem_cons_of_mem _ this
          · exact this
        · exact this
  have : ∀ q, j + 1 ≤ q → q ≤ M → (S q).get b = (S (j + 1)).get b := by
    intro q
    induction q with
    | zero => intro h _; omega
    | succ q ih =>
      intro h1 h2
      by_cases he : j = q
      · rw [he]
      · have hMN := I.leN
        obtain ⟨e, oe, g1, g2, g3⟩ := C.chain.step q (by omega)
        rw [drawOp_prot C.hk (C.wf (by omega)) g3 (Nat.lt_of_lt_of_le hlt (C.kp (by omega : j + 1 ≤ q) (by omega)).next) (fun hw => by
          obtain ⟨_, _, q3⟩ := C.gap2 I X q e (by omega) (by omega) g1 hw
          exact hblk e.free (A q) (q3 (.inr (by rw [hh]; rfl))) (same q (by omega) (by omega)))]
        exact ih (by omega) (by omega)
  exact this M (by omega) (Nat.le_refl M)
theorem Ctx.newOp (hjN : j < N) (hr : yr P call ops.toList d o (A j) (S j) = .normal (A (j + 1)) (S (j + 1))) (hwant : yM ops.toList (A j) o = true) (hh : d.how = .new)
    (K : Act → World → Prop) (Q : Exit → Act → World → Prop)
    (hK : ∀ M' β' v' w', Inv P ops l anc N A S β₀ w₀ (fun k => L k ∨ k = i) M' β' (a'.put o.dst v') w' → K (a'.put o.dst v') w') : o.wp P a' w K Q := by
  obtain ⟨s₁, ob, hop, hn, hroom, hbo, hob, hS⟩ := drawOp_new hr hwant hh
  have hfree := C.freeAt I X hjN
  have hSn : (S (j + 1)).next = (S j).next + 1 := by rw [hS]; rfl
  let sm : St := { next := (S j).next, bar := (S j).next, prot := [], heap := .nil }
  have hwfm : WF sm := ⟨(C.wf (by omega : j ≤ N)).room, fun b _ => rfl⟩
  have hrel : Rel P β sm w := I.rel.at_state hwfm (fun b m hb hlt => C.known I hb (by omega : j ≤ N) hlt) fun b m oo hb hlt hg => by
    have : sm.get b = none := rfl
    rw [this] at hg
    cases hg
  refine qA C.hc hrel (C.operands I X.hj X.hi (by omega) X.ho X.hn X.hanc) (by rw [hop]; simp) (by
    rw [hop]
    intro b h1 h2
    exact hfree b h1 (by rw [hSn]; rw [hn] at h2; exact h2)) K Q (fun v v' s' β' w' he hx hv => ?_) (fun c c' s' β' w' he => by rw [hop] at he; cases he)
  obtain ⟨e1, e2⟩ := frame_eq hop he
  subst e2
  have hkept : ∀ r, r < w.heap.size → w'.heap[r]? = w.heap[r]? := fun r hr => hx.out r hr fun b m oo hb hlt hmay => by
    have := no_may (s := sm) hlt []
    have e : ({ sm with bar := sm.next, prot := [] } : St) = sm := rfl
    rw [e, hmay] at this; cases this
  have hnew : ∀ b m, β' b = some m → β b = none → w.heap.size ≤ m.blk := fun b m h1 h2 => by
    rcases hx.fresh b m h1 h2 with h | ⟨b₁, m₁, o₁, g1, g2, g3, _⟩
    · exact h
    · have := no_may (s := sm) g2 []
      have e : ({ sm with bar := sm.next, prot := [] } : St) = sm := rfl
      rw [e, g3] at this; cases this
  have hone : ∀ b m, β' b = some m → β b = none → b = (S j).next := fun b m h1 h2 => by
    have h3 := hx.dom b m h1 h2
    have h4 : (S j).next ≤ b := h3.1
    have h5 := h3.2
    omega
  have key : ∀ T : St, Rel P β T w → T.get (S j).next = some ob → Rel P β' T w' := fun T hT hg0 => by
    have holdrel := hT.grow hx.size hkept
    have back : ∀ b m, β' b = some m → β b = some m ∨ (β b = none ∧ b = (S j).next) := fun b m h1 => by
      cases hb : β b with
      | some m₁ => have := hx.le b m₁ hb; rw [h1] at this; cases this; exact .inl rfl
      | none => exact .inr ⟨rfl, hone b m h1 hb⟩
    exact {
      img := fun b m h1 h2 => by
        rcases back b m h1 with h | ⟨_, h⟩
        · exact holdrel.img b m h h2
        · exact hx.rel.img b m h1 (by omega)
      obj := fun b m oo h1 h2 hg => by
        rcases back b m h1 with h | ⟨_, h⟩
        · obtain ⟨o', q1, q2⟩ := holdrel.obj b m oo h h2 hg
          exact ⟨o', q1, q2.mono hx.le⟩
        · subst h
          rw [hg0] at hg
          cases hg
          exact hx.rel.obj _ m ob h1 (by omega) hob
      inj := fun b1 b2 m1 m2 o1 o2 h1 h2 l1 l2 g1 g2 e => by
        rcases back b1 m1 h1 with k1 | ⟨k1, k1'⟩
        · rcases back b2 m2 h2 with k2 | ⟨k2, k2'⟩
          · exact holdrel.inj b1 b2 m1 m2 o1 o2 k1 k2 l1 l2 g1 g2 e
          · have := hT.img b1 m1 k1 l1
            have := hnew b2 m2 h2 k2
            omega
        · rcases back b2 m2 h2 with k2 | ⟨k2, k2'⟩
          · have := hT.img b2 m2 k2 l2
            have := hnew b1 m1 h1 k1
            omega
          · omega
      room := hT.room
      top := hT.top }
  have hgn : (S (j + 1)).get (S j).next = some ob := by
    have := room_lt hroom
    rw [hS, St.get_new (by omega), if_pos rfl]
  have hdom : ∀ b m, β' b = some m → β b = none → (S j).next ≤ b ∧ b < (S (j + 1)).next := fun b m h1 h2 => by
    have := hone b m h1 h2
    omega
  rcases Nat.lt_or_ge j M with hjm | hjm
  · have hst := C.newKept I X hjN hh hbo (by omega) hjm
    exact hK M β' v' w' (C.advance I X hjN e1 (Nat.le_refl M) hjm I.leN (fun p e hp hw hlt => .inl (I.wholes p e hp hw hlt)) hv (key (S M) I.rel (by rw [hst]; exact hgn)) hx.le hdom hx.size (fun r hr _ => hkept r hr) (fun b m h1 h2 => .inl (hnew b m h1 h2)) hx.os hx.output hx.tape)
  · have hrj := C.relAt I X (by omega : j ≤ N) (.inl hjm)
    have hrj1 : Rel P β (S (j + 1)) w := by
      rw [hS]
      exact Rel.newDead hrj hroom (hfree _ (Nat.le_refl _) (by omega)) ob
    exact hK (j + 1) β' v' w' (C.advance I X hjN e1 (by omega) (by omega) (by omega) (C.wholesTo I X hjm) hv (key _ hrj1 hgn) hx.le hdom hx.size (fun r hr _ => hkept r hr) (fun b m h1 h2 => .inl (hnew b m h1 h2)) hx.os hx.output hx.tape)
end
end Go.M
