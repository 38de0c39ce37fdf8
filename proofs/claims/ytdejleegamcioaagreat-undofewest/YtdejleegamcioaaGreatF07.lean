/- A drawn region: one operation more. -/
/- A drawn region: the three kinds of operations; every order. -/
/- Drawn regions, whole. -/
import Derived.Test.YtdejleegamcioaaGreatF06
namespace Go.M
section
variable {P : Program} {call : FuncId → Array Value → St → CallOut} {ops : Array Oper} {l : List Drawn} {anc : Nat → Nat} {N : Nat} {A : Nat → Fr} {S : Nat → St} {β₀ : Ren} {w₀ : World} {a₀ : Act}
theorem put_same {a : Fr} (hs : a.size ≤ 65534) {v : Value} {t : Nat} (h : t < a.size) : (a.put (some t) v).get t = v := by
  unfold Fr.put
  simp only
  have : Nat.blt t a.size = true := by simpa [Nat.blt_eq] using h
  rw [this]
  unfold Fr.get
  simp only
  rw [Tr.get_put fdepth _ _ _ _ (by have : (2 : Nat) ^ fdepth = 65536 := by decide
                                    omega), if_pos rfl]
theorem act_put_same {a' : Act} {v' : Value} {t : Nat} (h : t < a'.tmps.size) : (a'.put (some t) v').tmps.getD t undef = v' := by
  unfold Act.put
  simp only
  rw [Array.getD_eq_getD_getElem?, Array.getElem?_setIfInBounds_self_of_lt h]
  rfl
theorem act_put_other {a' : Act} {dst : Option Tmp} {v' : Value} {t : Nat} (h : dst ≠ some t) : (a'.put dst v').tmps.getD t undef = a'.tmps.getD t undef := by
  unfold Act.put
  split
  · rename_i d
    rw [Array.getD_eq_getD_getElem?, Array.getD_eq_getD_getElem?, Array.getElem?_setIfInBounds_ne (fun e => h (by rw [e]))]
  · rfl
theorem act_put_size {a' : Act} {dst : Option Tmp} {v' : Value} : (a'.put dst v').tmps.size = a'.tmps.size := by
  unfold Act.put
  split <;> simp
theorem act_put_defers {a' : Act} {dst : Option Tmp} {v' : Value} : (a'.put dst v').defers = a'.defers := by
  unfold Act.put
  split <;> rfl
structure Next1 (ops : Array Oper) (l : List Drawn) (anc : Nat → Nat) (L : Nat → Prop) (i j : Nat) (d : Drawn) (o : Oper) : Prop where
  hj : l[j]? = some d
  hi : d.ix = i
  ho : ops[i]? = some o
  hn : ¬ L i
  hanc : ∀ k, (anc i).testBit k = true → L k
variable (C : Ctx P call ops l anc N A S β₀ w₀ a₀) {L : Nat → Prop} {M : Nat} {β : Ren} {a' : Act} {w : World} (I : Inv P ops l anc N A S β₀ w₀ L M β a' w)
  {i j : Nat} {d : Drawn} {o : Oper} (X : Next1 ops l anc L i j d o)
include C I X
theorem Ctx.gap (r : Nat) (e : Drawn) (h1 : M ≤ r) (h2 : r < j) (he : l[r]? = some e) : howW e.how = false := by
  have hnl : ¬ L e.ix := fun hl => by have := I.before r e he hl; omega
  have hp := C.plan.pair r j e d h2 he X.hj
  cases hb : (anc d.ix).testBit e.ix with
  | true => rw [X.hi] at hb; exact (hnl (X.hanc _ hb)).elim
  | false => exact (hp.2.2 hb).1
theorem Ctx.gap2 (r : Nat) (e : Drawn) (h1 : j ≤ r) (h2 : r < M) (he : l[r]? = some e) (hw : howW e.how = true) : j < r ∧ howL d.how = true ∧ (isLoad o = true → i ∈ e.free) := by
  have hl := I.wholes r e he hw h2
  have hne : j ≠ r := fun heq => by
    subst heq
    rw [X.hj] at he; cases he
    rw [X.hi] at hl; exact X.hn hl
  have hlt : j < r := by omega
  have hp := C.plan.pair j r d e hlt X.hj he
  obtain ⟨oe, hoe⟩ := C.plan.op r e he
  have hsz : e.ix < ops.size := by
    rcases Nat.lt_or_ge e.ix ops.size with hh | hh
    · exact hh
    · rw [Array.getElem?_eq_none hh] at hoe; cases hoe
  cases hb : (anc e.ix).testBit d.ix with
  | true => rw [X.hi] at hb; exact (X.hn (I.closed e.ix i hsz hl hb)).elim
  | false =>
    obtain ⟨g1, g2⟩ := (hp.2.2 hb).2 hw
    exact ⟨hlt, g1, fun hld => by have := g2 o (by rw [X.hi]; exact X.ho) hld; rw [X.hi] at this; exact this⟩
theorem Ctx.relAt (hjN : j ≤ N) (h : M ≤ j ∨ howL d.how = false) : Rel P β (S j) w := by
  refine I.rel.at_state (C.wf hjN) (fun b m hb hlt => C.known I hb hjN hlt) fun b m o' hb hlt hg => ?_
  rcases Nat.lt_or_ge j M with hjm | hjm
  · have hl := h.resolve_left (by omega)
    rw [C.stays M (by omega) I.leN (fun r e h1 h2 he => by
      cases hw : howW e.how with
      | false => rfl
      | true => have := (C.gap2 I X r e h1 h2 he hw).2.1; rw [hl] at this; cases this) b hlt]
    exact hg
  · rw [← C.stays j hjm hjN (fun r e h1 h2 he => C.gap I X r e h1 h2 he) b (C.known I hb hjN hlt)]
    exact hg
theorem Ctx.freeAt (hjN : j < N) : Free β (S j) (S (j + 1)) := fun b h1 h2 => by
  cases hb : β b with
  | none => rfl
  | some m =>
    exfalso
    rcases I.dom b m hb with h | ⟨p, e, g1, g2, g3, g4⟩
    · have := C.free b (Nat.le_trans (C.kp (Nat.zero_le j) (by omega)).next h1) (Nat.lt_of_lt_of_le h2 (C.kp (by omega : j + 1 ≤ N) (Nat.le_refl N)).next)
      rw [h] at this; cases this
    · have hpM := I.before p e g1 g2
      have hleN := I.leN
      rcases Nat.lt_trichotomy p j with hlt | heq | hlt
      · have := (C.kp (by omega : p + 1 ≤ j) (by omega)).next; omega
      · subst heq
        rw [X.hj] at g1; cases g1
        rw [X.hi] at g2; exact X.hn g2
      · have := (C.kp (by omega : j + 1 ≤ p) (by omega)).next; omega
theorem Ctx.advance (hjN : j < N) {v v' : Value} (hA : A (j + 1) = (A j).put o.dst v) {M' : Nat} (hM : M ≤ M') (hjM : j < M') (hM' : M' ≤ N)
    (hw : ∀ (p : Nat) (e : Drawn), l[p]? = some e → howW e.how = true → p < M' → L e.ix ∨ e.ix = i) {β' : Ren} {w' : World} (hv : VRel P β' v v') (hrel : Rel P β' (S M') w') (hle : β.le β')
    (hdom : ∀ b m, β' b = some m → β b = none → (S j).next ≤ b ∧ b < (S (j + 1)).next) (hsize : w.heap.size ≤ w'.heap.size)
    (hout : ∀ r, r < w.heap.size → (∀ b m o, β b = some m → b < (S j).next → (S 0).may b = true → (S j).get b = some o → m.blk ≠ r) → w'.heap[r]? = w.heap[r]?)
    (hfresh : ∀ b m, β' b = some m → β b = none → w.heap.size ≤ m.blk ∨ ∃ b₁ m₁ o₁, β b₁ = some m₁ ∧ b₁ < (S j).next ∧ (S 0).may b₁ = true ∧ (S j).get b₁ = some o₁ ∧ m₁.blk = m.blk)
    (hos : w'.os = w.os) (hop : w'.output = w.output) (htp : w'.tape = w.tape) :
    Inv P ops l anc N A S β₀ w₀ (fun k => L k ∨ k = i) M' β' (a'.put o.dst v') w' := by
  have hsm := C.small
  have hszj := C.chain.size j (by omega)
  -- what lives and may be written at the next operation's turn did so at the region's beginning
  have back : ∀ b m o, β b = some m → b < (S j).next → (S 0).may b = true → (S j).get b = some o → ∀ r, m.blk = r →
      w₀.heap.size ≤ r ∨ ∃ b₁ m₁ o₁, β₀ b₁ = some m₁ ∧ b₁ < (S 0).next ∧ (S 0).may b₁ = true ∧ (S 0).get b₁ = some o₁ ∧ m₁.blk = r := by
    intro b m oo hb hlt hmay hg r hr
    cases h0 : β₀ b with
    | some m₀ =>
      have := I.le b m₀ h0
      rw [hb] at this; cases this
      have hb0 : b < (S 0).next := by
        rcases Nat.lt_or_ge b (S 0).next with hh | hh
        · exact hh
        · have := C.free b hh (Nat.lt_of_lt_of_le hlt (C.kp (by omega : j ≤ N) (Nat.le_refl N)).next)
          rw [h0] at this; cases this
      cases hg0 : (S 0).get b with
      | none => rw [(C.kp (Nat.zero_le j) (by omega)).dead b hb0 hg0] at hg; cases hg
      | some o₁ => exact .inr ⟨b, m, o₁, h0, hb0, hmay, hg0, hr⟩
    | none => rw [← hr]; exact I.fresh b m hb h0
  exact {
    closed := fun k q hk hl hq => by
      rcases hl with hl | hl
      · exact .inl (I.closed k q hk hl hq)
      · subst hl; exact .inl (X.hanc q hq)
    before := fun p e hp hl => by
      rcases hl with hl | hl
      · exact Nat.lt_of_lt_of_le (I.before p e hp hl) hM
      · have := C.pos hp X.hj (by rw [hl, X.hi]); omega
    wholes := hw
    leN := hM'
    rel := hrel
    le := Ren.le_trans I.le hle
    dom := fun b m hb => by
      cases h1 : β b with
      | some m₁ =>
        have := hle b m₁ h1
        rw [hb] at this; cases this
        rcases I.dom b m h1 with h | ⟨p, e, g1, g2, g3, g4⟩
        · exact .inl h
        · exact .inr ⟨p, e, g1, .inl g2, g3, g4⟩
      | none =>
        obtain ⟨g1, g2⟩ := hdom b m hb h1
        exact .inr ⟨j, d, X.hj, .inr X.hi, g1, g2⟩
    tsize := by rw [act_put_size]; exact I.tsize
    defers := by rw [act_put_defers]; exact I.defers
    filled := fun p e q t hp hq hl hd ht => by
      rcases hl with hl | hl
      · have hne : o.dst ≠ some t := fun hh => by
          have := C.plan.dst e.ix i q o t hq X.ho hd hh
          rw [this] at hl; exact X.hn hl
        rw [act_put_other hne]
        exact (I.filled p e q t hp hq hl hd ht).mono hle
      · have hpj := C.pos hp X.hj (by rw [hl, X.hi])
        subst hpj
        rw [hl, X.ho] at hq; cases hq
        rw [hA, hd, put_same (by omega) (by omega), act_put_same (by rw [I.tsize]; exact ht)]
        exact hv
    old := fun t ht hno => by
      have hne : o.dst ≠ some t := hno j d o X.hj (by rw [X.hi]; exact X.ho) (.inr X.hi)
      rw [act_put_other hne]
      exact (I.old t ht fun p e q hp hq hl => hno p e q hp hq (.inl hl)).mono hle
    size := Nat.le_trans I.size hsize
    out := fun r hr hno => by
      rw [← I.out r hr hno]
      refine hout r (Nat.lt_of_lt_of_le hr I.size) fun b m oo hb hlt hmay hg heq => ?_
      rcases back b m oo hb hlt hmay hg r heq with h | ⟨b₁, m₁, o₁, g1, g2, g3, g4, g5⟩
      · omega
      · exact hno b₁ m₁ o₁ g1 g2 g3 g4 g5
    fresh := fun b m hb h0 => by
      cases h1 : β b with
      | some m₁ =>
        have := hle b m₁ h1
        rw [hb] at this; cases this
        exact I.fresh b m h1 h0
      | none =>
        rcases hfresh b m hb h1 with h | ⟨b₁, m₁, o₁, g1, g2, g3, g4, g5⟩
        · exact .inl (Nat.le_trans I.size h)
        · exact back b₁ m₁ o₁ g1 g2 g3 g4 m.blk g5
    os := hos.trans I.os
    output := hop.trans I.output
    tape := htp.trans I.tape }
omit I X in
theorem Ctx.mayAt (hjN : j ≤ N) (b : Nat) : (S j).may b = (S 0).may b := St.may_eq (C.kp (Nat.zero_le j) hjN).bar (C.kp (Nat.zero_le j) hjN).prot b
theorem Ctx.pass (hjN : j < N) (hr : yN P call ops.toList d o (A j) (S j) = .normal (A (j + 1)) (S (j + 1))) (hwant : xd ops.toList (A j) o = false) :
    ∃ M', Inv P ops l anc N A S β₀ w₀ (fun k => L k ∨ k = i) M' β (a'.put o.dst undef) w := by
  unfold yN at hr
  rw [hwant] at hr
  simp only [Out.normal.injEq] at hr
  obtain ⟨hA, hS⟩ := hr
  rcases Nat.lt_or_ge j M with hjm | hjm
  · refine ⟨M, C.advance I X hjN hA.symm (Nat.le_refl M) hjm I.leN (fun p e hp hw hlt => .inl (I.wholes p e hp hw hlt)) undef_rel I.rel (Ren.le_refl β) (fun b m h1 h2 => by rw [h2] at h1; cases h1) (Nat.le_refl _) (fun _ _ _ => rfl) (fun b m h1 h2 => by rw [h2] at h1; cases h1) rfl rfl rfl⟩
  · refine ⟨j + 1, C.advance I X hjN hA.symm (by omega) (by omega) (by omega) (fun p e hp hw hlt => ?_) undef_rel (by rw [← hS]; exact C.relAt I X (by omega) (.inl hjm)) (Ren.le_refl β) (fun b m h1 h2 => by rw [h2] at h1; cases h1) (Nat.le_refl _) (fun _ _ _ => rfl) (fun b m h1 h2 => by rw [h2] at h1; cases h1) rfl rfl rfl⟩
    rcases Nat.lt_or_ge p M with hpm | hpm
    · exact .inl (I.wholes p e hp hw hpm)
    · by_cases hpj : p = j
      · subst hpj; rw [X.hj] at hp; cases hp; exact .inr X.hi
      · have := C.gap I X p e hpm (by omega) hp
        rw [hw] at this; cases this
end
end Go.M
namespace Go.M
section
variable {P : Program} {call : FuncId → Array Value → St → CallOut} {ops : Array Oper} {l : List Drawn} {anc : Nat → Nat} {N : Nat} {A : Nat → Fr} {S : Nat → St} {β₀ : Ren} {w₀ : World} {a₀ : Act}
theorem frame_eq {o : Oper} {a : Fr} {v : Value} {s s₁ : St} {a₁ : Fr} (hr : opM P call o a s = .normal a₁ s₁) {s' : St} (h : opM P call o a s = .normal (a.put o.dst v) s') : a₁ = a.put o.dst v ∧ s' = s₁ := by
  rw [hr] at h
  simp only [Out.normal.injEq] at h
  exact ⟨h.1, h.2.symm⟩
variable (C : Ctx P call ops l anc N A S β₀ w₀ a₀) {L : Nat → Prop} {M : Nat} {β : Ren} {a' : Act} {w : World} (I : Inv P ops l anc N A S β₀ w₀ L M β a' w)
  {i j : Nat} {d : Drawn} {o : Oper} (X : Next1 ops l anc L i j d o)
include C I X
theorem Ctx.wholesTo (hjm : M ≤ j) (p : Nat) (e : Drawn) (hp : l[p]? = some e) (hw : howW e.how = true) (hlt : p < j + 1) : L e.ix ∨ e.ix = i := by
  rcases Nat.lt_or_ge p M with hpm | hpm
  · exact .inl (I.wholes p e hp hw hpm)
  · by_cases hpj : p = j
    · subst hpj; rw [X.hj] at hp; cases hp; exact .inr X.hi
    · have := C.gap I X p e hpm (by omega) hp
      rw [hw] at this; cases this
omit C in
theorem wholeJ (hh : howW d.how = true) : M ≤ j := by
  rcases Nat.lt_or_ge j M with hjm | hjm
  · have := I.wholes j d X.hj hh hjm
    rw [X.hi] at this
    exact (X.hn this).elim
  · exact hjm
theorem Ctx.whole (hjN : j < N) (hr : yN P call ops.toList d o (A j) (S j) = .normal (A (j + 1)) (S (j + 1))) (hwant : xd ops.toList (A j) o = true) (hh : d.how = .whole)
    (K : Act → World → Prop) (Q : Exit → Act → World → Prop)
    (hK : ∀ M' β' v' w', Inv P ops l anc N A S β₀ w₀ (fun k => L k ∨ k = i) M' β' (a'.put o.dst v') w' → K (a'.put o.dst v') w') : o.wp P a' w K Q := by
  have hW : howW d.how = true := by rw [hh]; rfl
  have hjm := wholeJ I X hW
  unfold yN at hr
  rw [hwant, hh] at hr
  simp only at hr
  have hfree := C.freeAt I X hjN
  let sm : St := { S j with prot := yK ops.toList (A j) d.free ++ (S j).prot }
  have hrel : Rel P β sm w := (C.relAt I X (by omega) (.inl hjm)).of_same rfl rfl
  split at hr
  · rename_i a₁ s₁ hop
    simp only [Out.normal.injEq] at hr
    obtain ⟨hA, hS⟩ := hr
    have hnext : (S (j + 1)).next = s₁.next := by rw [← hS]
    refine op_sound C.hc hrel (C.operands I X.hj X.hi (by omega) X.ho X.hn X.hanc) (by rw [hop]; simp) (by rw [hop]; exact fun b h1 h2 => hfree b h1 (by rw [hnext]; exact h2)) K Q (fun v v' s' β' w' he hx hv => ?_) (fun c c' s' β' w' he => by rw [hop] at he; cases he)
    obtain ⟨e1, e2⟩ := frame_eq hop he
    subst e2
    refine hK (j + 1) β' v' w' (C.advance I X hjN (by rw [← hA, e1]) (by omega) (by omega) (by omega) (C.wholesTo I X hjm) hv ?_ hx.le (fun b m h1 h2 => by rw [hnext]; exact hx.dom b m h1 h2) hx.size (fun r hr hno => ?_) (fun b m h1 h2 => ?_) hx.os hx.output hx.tape)
    · exact hx.rel.of_same hnext (by rw [← hS])
    · refine hx.out r hr fun b m oo hb hlt hmay hg => hno b m oo hb hlt ?_ hg
      rw [← C.mayAt (by omega : j ≤ N)]
      unfold St.may at hmay ⊢
      simp only [sm, Bool.and_eq_true, Bool.not_eq_true', List.any_append, Bool.or_eq_false_iff] at hmay ⊢
      exact ⟨hmay.1, hmay.2.2⟩
    · rcases hx.fresh b m h1 h2 with h | ⟨b₁, m₁, o₁, g1, g2, g3, g4, g5⟩
      · exact .inl h
      · refine .inr ⟨b₁, m₁, o₁, g1, g2, ?_, g4, g5⟩
        rw [← C.mayAt (by omega : j ≤ N)]
        unfold St.may at g3 ⊢
        simp only [sm, Bool.and_eq_true, Bool.not_eq_true', List.any_append, Bool.or_eq_false_iff] at g3 ⊢
        exact ⟨g3.1, g3.2.2⟩
  · cases hr
  · cases hr
omit C I X in
theorem no_may {s : St} {b : Nat} (hb : b < s.next) (p : List Nat) : ({ s with bar := s.next, prot := p } : St).may b = false := by
  unfold St.may
  simp only [Bool.and_eq_false_iff]
  left
  rw [Bool.eq_false_iff]
  intro hh
  have := Nat.le_of_ble_eq_true hh
  omega
theorem Ctx.freshOp (hjN : j < N) (hr : yN P call ops.toList d o (A j) (S j) = .normal (A (j + 1)) (S (j + 1))) (hwant : xd ops.toList (A j) o = true) (hh : d.how = .fresh)
    (K : Act → World → Prop) (Q : Exit → Act → World → Prop)
    (hK : ∀ M' β' v' w', Inv P ops l anc N A S β₀ w₀ (fun k => L k ∨ k = i) M' β' (a'.put o.dst v') w' → K (a'.put o.dst v') w') : o.wp P a' w K Q := by
  unfold yN at hr
  rw [hwant, hh] at hr
  simp only at hr
  have hfree := C.freeAt I X hjN
  have hrelj : Rel P β (S j) w := C.relAt I X (by omega) (.inr (by rw [hh]; rfl))
  let sm : St := { S j with bar := (S j).next }
  have hrel : Rel P β sm w := hrelj.of_same rfl rfl
  split at hr
  · rename_i a₁ s₁ hop
    simp only [Out.normal.injEq] at hr
    obtain ⟨hA, hS⟩ := hr
    have hnext : (S (j + 1)).next = s₁.next := by rw [← hS]
    refine op_sound C.hc hrel (C.operands I X.hj X.hi (by omega) X.ho X.hn X.hanc) (by rw [hop]; simp) (by rw [hop]; exact fun b h1 h2 => hfree b h1 (by rw [hnext]; exact h2)) K Q (fun v v' s' β' w' he hx hv => ?_) (fun c c' s' β' w' he => by rw [hop] at he; cases he)
    obtain ⟨e1, e2⟩ := frame_eq hop he
    subst e2
    -- nothing that was there is written
    have hkept : ∀ r, r < w.heap.size → w'.heap[r]? = w.heap[r]? := fun r hr => hx.out r hr fun b m oo hb hlt hmay => by
      have := no_may (s := S j) hlt (S j).prot
      rw [this] at hmay; cases hmay
    have hnew : ∀ b m, β' b = some m → β b = none → w.heap.size ≤ m.blk := fun b m h1 h2 => by
      rcases hx.fresh b m h1 h2 with h | ⟨b₁, m₁, o₁, g1, g2, g3, _⟩
      · exact h
      · have := no_may (s := S j) g2 (S j).prot
        rw [this] at g3; cases g3
    have hrel1 : Rel P β' (S (j + 1)) w' := hx.rel.of_same hnext (by rw [← hS])
    rcases Nat.lt_or_ge j M with hjm | hjm
    · -- others behind it are done
      have hstay : ∀ b, b < (S (j + 1)).next → (S M).get b = (S (j + 1)).get b := C.stays M (by omega) I.leN (fun r e h1 h2 he => by
        cases hw : howW e.how with
        | false => rfl
        | true => have := (C.gap2 I X r e (by omega) h2 he hw).2.1; rw [hh] at this; cases this)
      have holdrel := (I.rel.grow hx.size hkept)
      have back : ∀ b m, β' b = some m → b < (S M).next → β b = some m ∨ (β b = none ∧ b < (S (j + 1)).next) := fun b m h1 _ => by
        cases hb : β b with
        | some m₁ => have := hx.le b m₁ hb; rw [h1] at this; cases this; exact .inl rfl
        | none => exact .inr ⟨rfl, by rw [hnext]; exact (hx.dom b m h1 hb).2⟩
      have hrelM : Rel P β' (S M) w' := {
        img := fun b m h1 h2 => by
          rcases back b m h1 h2 with h | ⟨_, h⟩
          · exact holdrel.img b m h h2
          · exact hrel1.img b m h1 h
        obj := fun b m oo h1 h2 hg => by
          rcases back b m h1 h2 with h | ⟨_, h⟩
          · obtain ⟨o', q1, q2⟩ := holdrel.obj b m oo h h2 hg
            exact ⟨o', q1, q2.mono hx.le⟩
          · exact hrel1.obj b m oo h1 h (by rw [← hstay b h]; exact hg)
        inj := fun b1 b2 m1 m2 o1 o2 h1 h2 l1 l2 g1 g2 e => by
          rcases back b1 m1 h1 l1 with k1 | ⟨k1, k1'⟩
          · rcases back b2 m2 h2 l2 with k2 | ⟨k2, k2'⟩
            · exact holdrel.inj b1 b2 m1 m2 o1 o2 k1 k2 l1 l2 g1 g2 e
            · have := I.rel.img b1 m1 k1 l1
              have := hnew b2 m2 h2 k2
              omega
          · rcases back b2 m2 h2 l2 with k2 | ⟨k2, k2'⟩
            · have := I.rel.img b2 m2 k2 l2
              have := hnew b1 m1 h1 k1
              omega
            · exact hrel1.inj b1 b2 m1 m2 o1 o2 h1 h2 k1' k2' (by rw [← hstay b1 k1']; exact g1) (by rw [← hstay b2 k2']; exact g2) e
        room := I.rel.room
        top := I.rel.top }
      exact hK M β' v' w' (C.advance I X hjN (by rw [← hA, e1]) (Nat.le_refl M) hjm I.leN (fun p e hp hw hlt => .inl (I.wholes p e hp hw hlt)) hv hrelM hx.le (fun b m h1 h2 => by rw [hnext]; exact hx.dom b m h1 h2) hx.size (fun r hr _ => hkept r hr) (fun b m h1 h2 => .inl (hnew b m h1 h2)) hx.os hx.output hx.tape)
    · exact hK (j + 1) β' v' w' (C.advance I X hjN (by rw [← hA, e1]) (by omega) (by omega) (by omega) (C.wholesTo I X hjm) hv hrel1 hx.le (fun b m h1 h2 => by rw [hnext]; exact hx.dom b m h1 h2) hx.size (fun r hr _ => hkept r hr) (fun b m h1 h2 => .inl (hnew b m h1 h2)) hx.os hx.output hx.tape)
  · cases hr
theorem Ctx.loadKept (hjN : j ≤ N) {b : Nat} (hb : xp (A j) o = some b) (hlt : b < (S j).next) (hjm : j < M) : (S M).get b = (S j).get b := by
  have hld : isLoad o = true := by
    unfold xp at hb
    split at hb
    · rename_i t x hop; simp [isLoad, hop]
    · cases hb
  -- its address is the same at every later turn
  have same : ∀ q, j ≤ q → q ≤ N → xp (A q) o = some b := fun q hq hqN => by
    unfold xp at hb ⊢
    split at hb
    · rename_i t x hop
      have : (A q).eval x = (A j).eval x := by
        cases x with
        | tmp u =>
          refine C.chain.keepsSlot C.small u j q hq hqN fun r e oe h1 h2 he hoe hd => ?_
          rcases C.plan.reads i o X.ho u (by rw [hop]; simp [Op.operands]) e.ix oe hoe hd with h | ⟨h, _⟩
          · have := C.ahead he X.hj (by rw [X.hi]; exact h); omega
          · rw [hld] at h; cases h
        | const v => rfl
        | global g => rfl
        | func f => rfl
      rw [this]; exact hb
    · cases hb
  -- and no operation on the way writes there
  have hblk : ∀ (f : List Nat) (a : Fr), i ∈ f → xp a o = some b → b ∈ yK ops.toList a f := by
    intro f a
    induction f with
    | nil => intro h; cases h
    | cons k f ih =>
      intro hm hbk
      unfold yK
      rcases List.mem_cons.1 hm with rfl | hm
      · have : yA ops.toList i = some o := by rw [yY]; simpa using X.ho
        rw [this]
        simp only [hbk, List.mem_cons, true_or]
      · have := ih hm hbk
        split
        · split
          · exact List.mem_cons_of_mem _ this
          · exact this
        · exact this
  have : ∀ q, j ≤ q → q ≤ M → (S q).get b = (S j).get b := by
    intro q
    induction q with
    | zero => intro h _; have : j = 0 := by omega
              subst this; rfl
    | succ q ih =>
      intro h1 h2
      by_cases he : j = q + 1
      · rw [he]
      · have hMN := I.leN
        obtain ⟨e, oe, g1, g2, g3⟩ := C.chain.step q (by omega)
        rw [drawOp_prot C.hk (C.wf (by omega)) g3 (Nat.lt_of_lt_of_le hlt (C.kp (by omega : j ≤ q) (by omega)).next) (fun hw => by
          obtain ⟨_, _, q3⟩ := C.gap2 I X q e (by omega) (by omega) g1 hw
          exact hblk e.free (A q) (q3 hld) (same q (by omega) (by omega)))]
        exact ih (by omega) (by omega)
  exact this M (by omega) (Nat.le_refl M)
theorem Ctx.lightOp (hjN : j < N) (hr : yN P call ops.toList d o (A j) (S j) = .normal (A (j + 1)) (S (j + 1))) (hwant : xd ops.toList (A j) o = true) (hh : d.how = .light)
    (K : Act → World → Prop) (Q : Exit → Act → World → Prop)
    (hK : ∀ M' β' v' w', Inv P ops l anc N A S β₀ w₀ (fun k => L k ∨ k = i) M' β' (a'.put o.dst v') w' → K (a'.put o.dst v') w') : o.wp P a' w K Q := by
  unfold yN at hr
  rw [hwant, hh] at hr
  simp only at hr
  let sm : St := { next := (S j).next, bar := (S j).next, prot := [], heap := only (S j) (xp (A j) o) }
  have hget : ∀ b, sm.get b = if xp (A j) o = some b then (S j).get b else none := fun b => by
    show Tr.get (only (S j) (xp (A j) o)) b = _
    unfold only
    cases hb : xp (A j) o with
    | none => simp [Tr.get]
    | some b₀ =>
      simp only
      rcases Nat.lt_or_ge b₀ 281474976710655 with hlt | hge
      · rw [Tr.get_put depth _ _ _ _ (by have : (2 : Nat) ^ depth = 281474976710656 := by decide
                                         omega)]
        by_cases he : b = b₀
        · subst he; simp
        · have : ¬ (some b₀ = some b) := fun h => he (by cases h; rfl)
          rw [if_neg he, if_neg this]; rfl
      · -- so great a number is none
        have hno : (S j).get b₀ = none := (C.wf (by omega : j ≤ N)).top b₀ (by have := (C.wf (by omega : j ≤ N)).room; omega)
        have all : ∀ (d n : Nat) (t : Tr MObj) (m : Nat), (∀ k, t.get k = none) → (Tr.put d t n none).get m = none := by
          intro d
          induction d with
          | zero => intro n t m ht; exact ht m
          | succ d ih =>
            intro n t m ht
            cases t with
            | nil =>
              cases n with
              | zero => cases m <;> simp only [Tr.put, Tr.get]; split <;> rfl
              | succ k =>
                simp only [Tr.put]
                split <;> (cases m <;> simp only [Tr.get]; split <;> first | rfl | exact ih _ _ _ (fun _ => rfl))
            | node v a b =>
              have hv : v = none := ht 0
              have ha : ∀ k, a.get k = none := fun k => by
                have := ht (2 * k + 1)
                simp only [Tr.get] at this
                rw [show 2 * k % 2 = 0 by omega, show 2 * k / 2 = k by omega] at this
                exact this
              have hb : ∀ k, b.get k = none := fun k => by
                have := ht (2 * k + 2)
                simp only [Tr.get] at this
                rw [show (2 * k + 1) % 2 = 1 by omega, show (2 * k + 1) / 2 = k by omega] at this
                exact this
              cases n with
              | zero => cases m <;> simp only [Tr.put, Tr.get]; split <;> first | exact ha _ | exact hb _
              | succ k =>
                simp only [Tr.put]
                split <;> (cases m <;> simp only [Tr.get]; · exact hv
                           · split <;> first | exact ha _ | exact hb _ | exact ih _ _ _ ha | exact ih _ _ _ hb)
        rw [hno, all depth b₀ .nil b (fun _ => rfl)]
        split
        · rename_i he; cases he; exact hno.symm
        · rfl
  have hwfm : WF sm := ⟨(C.wf (by omega : j ≤ N)).room, fun b hb => by
    rw [hget]
    split
    · exact (C.wf (by omega : j ≤ N)).top b hb
    · rfl⟩
  have hrel : Rel P β sm w := by
    refine I.rel.at_state hwfm (fun b m hb hlt => C.known I hb (by omega : j ≤ N) hlt) fun b m oo hb hlt hg => ?_
    rw [hget] at hg
    split at hg
    · rename_i hbo
      rcases Nat.lt_or_ge j M with hjm | hjm
      · rw [C.loadKept I X (by omega) hbo hlt hjm]; exact hg
      · rw [← C.stays j hjm (by omega) (fun r e h1 h2 he => C.gap I X r e h1 h2 he) b (C.known I hb (by omega : j ≤ N) hlt)]
        exact hg
    · cases hg
  split at hr
  · rename_i a₁ s₁ hop
    split at hr
    · rename_i hn
      have hn : s₁.next = (S j).next := Nat.eq_of_beq_eq_true hn
      simp only [Out.normal.injEq] at hr
      obtain ⟨hA, hS⟩ := hr
      refine op_sound C.hc hrel (C.operands I X.hj X.hi (by omega) X.ho X.hn X.hanc) (by rw [hop]; simp) (by
        rw [hop]
        intro b h1 h2
        have h1 : (S j).next ≤ b := h1
        omega) K Q (fun v v' s' β' w' he hx hv => ?_) (fun c c' s' β' w' he => by rw [hop] at he; cases he)
      obtain ⟨e1, e2⟩ := frame_eq hop he
      subst e2
      have hkept : ∀ r, r < w.heap.size → w'.heap[r]? = w.heap[r]? := fun r hr => hx.out r hr fun b m oo hb hlt hmay => by
        have := no_may (s := sm) hlt []
        have e : ({ sm with bar := sm.next, prot := [] } : St) = sm := rfl
        rw [e, hmay] at this; cases this
      have hno : ∀ b m, β' b = some m → β b = none → False := fun b m h1 h2 => by
        have h := hx.dom b m h1 h2
        have h1 : (S j).next ≤ b := h.1
        have h2 := h.2
        omega
      have hle' : β'.le β := fun b m hb => by
        cases h1 : β b with
        | some m₁ => have := hx.le b m₁ h1; rw [hb] at this; cases this; rfl
        | none => exact (hno b m hb h1).elim
      have hbe : β' = β := by
        funext b
        cases h1 : β b with
        | some m => exact hx.le b m h1
        | none => cases h2 : β' b with
          | none => rfl
          | some m => exact (hno b m h2 h1).elim
      subst hbe
      rcases Nat.lt_or_ge j M with hjm | hjm
      · exact hK M β' v' w' (C.advance I X hjN (by rw [← hA, e1]) (Nat.le_refl M) hjm I.leN (fun p e hp hw hlt => .inl (I.wholes p e hp hw hlt)) hv (I.rel.grow hx.size hkept) hx.le (fun b m h1 h2 => by rw [h2] at h1; cases h1) hx.size (fun r hr _ => hkept r hr) (fun b m h1 h2 => by rw [h2] at h1; cases h1) hx.os hx.output hx.tape)
      · exact hK (j + 1) β' v' w' (C.advance I X hjN (by rw [← hA, e1]) (by omega) (by omega) (by omega) (C.wholesTo I X hjm) hv (by rw [← hS]; exact (C.relAt I X (by omega) (.inl hjm)).grow hx.size hkept) hx.le (fun b m h1 h2 => by rw [h2] at h1; cases h1) hx.size (fun r hr _ => hkept r hr) (fun b m h1 h2 => by rw [h2] at h1; cases h1) hx.os hx.output hx.tape)
    · cases hr
  · cases hr
end
end Go.M
namespace Go.M
theorem Ext.relax {P : Program} {β β' : Ren} {s s₀ s₁ : St} {w w' : World} (hh : s₀.heap = s.heap) (hn : s₀.next = s.next) (hm : ∀ b, s₀.may b = true → s.may b = true) (h : Ext P β s₀ w β' s₁ w') :
  Ext P β s w β' { next := s₁.next, bar := s.bar, prot := s.prot, heap := s₁.heap } w' := by
 have hg : ∀ b, s₀.get b = s.get b := fun b => by simp only [St.get, hh]
 exact {
  rel := h.rel.of_same rfl rfl
  le := h.le
  dom := fun b m h1 h2 => by have := h.dom b m h1 h2; rw [hn] at this; exact this
  next := by have := h.next; simp only; omega
  bar := rfl
  prot := rfl
  size := h.size
  out := fun r hr hno => h.out r hr fun b m o hb hlt hmay hgb => hno b m o hb (by omega) (hm b hmay) (by rw [← hg]; exact hgb)
  same := fun b hb hmb => by
   have hf : s₀.may b = false := by
    cases hx : s₀.may b with
    | false => rfl
    | true => rw [hm b hx] at hmb; cases hmb
   have := h.same b (by omega) hf
   rw [hg] at this
   exact this
  dead := fun b hb hd => h.dead b (by omega) (by rw [hg]; exact hd)
  fresh := fun b m h1 h2 => by
   rcases h.fresh b m h1 h2 with g | ⟨b₁, m₁, o₁, g1, g2, g3, g4, g5⟩
   ·exact .inl g
   ·exact .inr ⟨b₁, m₁, o₁, g1, by omega, hm _ g3, by rw [← hg]; exact g4, g5⟩
  os := h.os
  output := h.output
  tape := h.tape }
section
variable {P : Program} {call : FuncId → Array Value → St → CallOut} {ops : Array Oper} {l : List Drawn} {anc : Nat → Nat} {N : Nat} {A : Nat → Fr} {S : Nat → St} {β₀ : Ren} {w₀ : World} {a₀ : Act}
theorem Ctx.ext (C : Ctx P call ops l anc N A S β₀ w₀ a₀) {L : Nat → Prop} {M : Nat} {β : Ren} {a' : Act} {w : World} (I : Inv P ops l anc N A S β₀ w₀ L M β a' w) {q : Nat} (hMq : M ≤ q) (hq : q ≤ N) (hrel : Rel P β (S q) w) :
  Ext P β₀ (S 0) w₀ β (S q) w := by
 have hk := C.kp (Nat.zero_le q) hq
 exact {
  rel := hrel
  le := I.le
  dom := fun b m h1 h2 => by
   rcases I.dom b m h1 with h | ⟨p, d, g1, g2, g3, g4⟩
   ·rw [h2] at h; cases h
   ·have := I.before p d g1 g2
    exact ⟨Nat.le_trans (C.kp (Nat.zero_le p) (by omega)).next g3, Nat.lt_of_lt_of_le g4 (C.kp (by omega : p + 1 ≤ q) hq).next⟩
  next := hk.next
  bar := hk.bar
  prot := hk.prot
  size := I.size
  out := I.out
  same := hk.same
  dead := hk.dead
  fresh := I.fresh
  os := I.os
  output := I.output
  tape := I.tape }
theorem Ctx.finish (C : Ctx P call ops l anc N A S β₀ w₀ a₀) (hN : N = l.length) {L : Nat → Prop} {M : Nat} {β : Ren} {a' : Act} {w : World} (I : Inv P ops l anc N A S β₀ w₀ L M β a' w) (hall : ∀ i, i < ops.size → L i) :
  OutP P β₀ (S 0) w₀ (.normal (A N) (S N)) .normal a' w := by
 have hsz : ∀ i (o : Oper), ops[i]? = some o → i < ops.size := fun i o ho => by
  rcases Nat.lt_or_ge i ops.size with hh | hh
  ·exact hh
  ·rw [Array.getElem?_eq_none hh] at ho; cases ho
 have hM : M = N := by
  have h1 := I.leN
  rcases Nat.lt_or_ge M N with hlt | hge
  ·obtain ⟨d, hd⟩ : ∃ d, l[M]? = some d := ⟨l[M], by simp [hN ▸ hlt]⟩
   obtain ⟨o, ho⟩ := C.plan.op M d hd
   have := I.before M d hd (hall _ (hsz _ o ho))
   omega
  ·omega
 subst hM
 refine ⟨rfl, β, C.ext I (Nat.le_refl M) (Nat.le_refl M) I.rel, (⟨by rw [I.tsize, C.chain.size M (Nat.le_refl M)], by rw [C.chain.size M (Nat.le_refl M)]; exact C.small, fun t => ?_, I.defers⟩)⟩
 by_cases ht : t < (A 0).size
 ·by_cases hex : ∃ (p : Nat) (d : Drawn) (o : Oper), l[p]? = some d ∧ ops[d.ix]? = some o ∧ o.dst = some t
  ·obtain ⟨p, d, o, hp, ho, hd⟩ := hex
   have hl := hall _ (hsz _ o ho)
   have hv := I.filled p d o t hp ho hl hd ht
   have hpM := I.before p d hp hl
   have : (A M).get t = (A (p + 1)).get t := C.chain.keepsSlot C.small t (p + 1) M (by omega) (Nat.le_refl M) fun r e oe h1 h2 he hoe hde => by
    have heq := C.plan.dst e.ix d.ix oe o t hoe ho hde hd
    have := C.pos he hp heq
    omega
   rw [this]; exact hv
  ·have : (A M).get t = (A 0).get t := C.chain.keepsSlot C.small t 0 M (Nat.zero_le _) (Nat.le_refl M) fun r e oe h1 h2 he hoe hde => hex ⟨r, e, oe, he, hoe, hde⟩
   rw [this]
   exact I.old t ht fun p d o hp ho _ hd => hex ⟨p, d, o, hp, ho, hd⟩
 ·have h1 : ∀ q, q ≤ M → (A q).get t = (A 0).get t := by
   intro q
   induction q with
   | zero => intro _; rfl
   | succ q ih =>
    intro hq
    obtain ⟨d, o, _, _, hr⟩ := C.chain.step q (by omega)
    obtain ⟨v, hv⟩ := drawOp_frame hr
    rw [hv, put_ge (by rw [C.chain.size q (by omega)]; exact C.small) (by rw [C.chain.size q (by omega)]; omega)]
    exact ih (by omega)
  rw [h1 M (Nat.le_refl M)]
  have h2 : a'.tmps.getD t undef = a₀.tmps.getD t undef := by
   rw [Array.getD_eq_getD_getElem?, Array.getD_eq_getD_getElem?, Array.getElem?_eq_none (by rw [I.tsize]; omega), Array.getElem?_eq_none (by rw [C.fr.size]; omega)]
  rw [h2]
  exact (C.fr.get t).mono I.le
def Ends (P : Program) (call : FuncId → Array Value → St → CallOut) (ops : Array Oper) (l : List Drawn) (N : Nat) (A : Nat → Fr) (S : Nat → St) (r : Out) : Prop :=
 (N = l.length ∧ r = .normal (A N) (S N)) ∨
 ∃ d o c a₁ s₁, l[N]? = some d ∧ ops[d.ix]? = some o ∧ yN P call ops.toList d o (A N) (S N) = .panic c a₁ s₁ ∧ r = .panic c a₁ s₁
theorem Ctx.sched (C : Ctx P call ops l anc N A S β₀ w₀ a₀) {r : Out} (hend : Ends P call ops l N A S r) (hfree : r.free β₀ (S 0)) (Q : Exit → Act → World → Prop) (hQ : ∀ e a₂ w₂, OutP P β₀ (S 0) w₀ r e a₂ w₂ → Q e a₂ w₂) :
  ∀ (σ : List Nat) (L : Nat → Prop), Sched ops L σ → ∀ (M : Nat) (β : Ren) (a' : Act) (w : World), Inv P ops l anc N A S β₀ w₀ L M β a' w → wpOps P ops Q σ a' w := by
 intro σ
 induction σ with
 | nil =>
  intro L hs M β a' w I
  cases hs with
  | nil hall =>
   rcases hend with ⟨hN, hr⟩ | ⟨d, o, c, a₁, s₁, hd, ho, _, _⟩
   ·subst hr
    exact hQ _ _ _ (C.finish hN I hall)
   ·exfalso
    have hl := hall d.ix (by
     rcases Nat.lt_or_ge d.ix ops.size with hh | hh
     ·exact hh
     ·rw [Array.getElem?_eq_none hh] at ho; cases ho)
    have := I.before N d hd hl
    have := I.leN
    omega
 | cons i rest ih =>
  intro L hs M β a' w I
  cases hs with
  | cons hi hn he hs =>
   obtain ⟨j, d, hj, hix⟩ := C.plan.surj i hi
   obtain ⟨o, ho⟩ := C.plan.op j d hj
   rw [hix] at ho
   have X : Next1 ops l anc L i j d o := ⟨hj, hix, ho, hn, fun k hk => C.done I ho (he o ho) hk⟩
   unfold wpOps
   rw [ho]
   simp only
   rcases Nat.lt_or_ge j N with hjN | hjN
   ·obtain ⟨d', o', g1, g2, hr⟩ := C.chain.step j hjN
    rw [hj] at g1; cases g1
    rw [hix, ho] at g2; cases g2
    rw [← C.wants I hj hix (by omega) ho hn X.hanc]
    cases hw : xd ops.toList (A j) o with
    | false =>
     obtain ⟨M', I'⟩ := C.pass I X hjN hr hw
     simp only [Bool.false_eq_true, if_false]
     exact ih _ hs M' β _ w I'
    | true =>
     simp only [if_true]
     refine .inl ?_
     have hK : ∀ M' β' v' w', Inv P ops l anc N A S β₀ w₀ (fun k => L k ∨ k = i) M' β' (a'.put o.dst v') w' → wpOps P ops Q rest (a'.put o.dst v') w' := fun M' β' v' w' I' => ih _ hs M' β' _ w' I'
     cases hh : d.how with
     | light => exact C.lightOp I X hjN hr hw hh _ Q hK
     | whole => exact C.whole I X hjN hr hw hh _ Q hK
     | fresh => exact C.freshOp I X hjN hr hw hh _ Q hK
   ·-- it panics
    rcases hend with ⟨hN, _⟩ | ⟨dN, oN, c, a₁, s₁, hdN, hoN, hpan, hr⟩
    ·exfalso
     have : j < l.length := by
      rcases Nat.lt_or_ge j l.length with hh | hh
      ·exact hh
      ·rw [List.getElem?_eq_none hh] at hj; cases hj
     omega
    ·-- the operation that panics is a whole one
     have hwant : xd ops.toList (A N) oN = true ∧ dN.how = .whole ∧ ∃ s', opM P call oN (A N) { S N with prot := yK ops.toList (A N) dN.free ++ (S N).prot } = .panic c a₁ s' ∧ s₁ = { next := s'.next, bar := (S N).bar, prot := (S N).prot, heap := s'.heap } := by
      unfold yN at hpan
      split at hpan
      ·rename_i hw
       split at hpan
       ·(repeat' split at hpan) <;> cases hpan
       ·rename_i hh
        split at hpan
        ·cases hpan
        ·rename_i c' a'' s' hop
         cases hpan
         exact ⟨hw, hh, s', hop, rfl⟩
        ·cases hpan
       ·(repeat' split at hpan) <;> cases hpan
      ·cases hpan
     obtain ⟨hw, hh, s', hop, hs₁⟩ := hwant
     have hjeq : j = N := by
      rcases Nat.lt_or_ge N j with hlt | hge
      ·exfalso
       have hnl : ¬ L dN.ix := fun hl => by
        have := I.before N dN hdN hl
        have := I.leN
        omega
       have hp := C.plan.pair N j dN d hlt hdN hj
       cases hb : (anc d.ix).testBit dN.ix with
       | true => rw [hix] at hb; exact hnl (X.hanc _ hb)
       | false =>
        have := (hp.2.2 hb).1
        rw [hh] at this; cases this
      ·omega
     subst hjeq
     rw [hj] at hdN; cases hdN
     rw [hix, ho] at hoN; cases hoN
     rw [← C.wants I hj hix (Nat.le_refl j) ho hn X.hanc, hw]
     simp only [if_true]
     refine .inl ?_
     subst hr hs₁
     have hrelj := C.relAt I X (Nat.le_refl j) (.inl I.leN)
     have hext := C.ext I I.leN (Nat.le_refl j) hrelj
     have hfr : Free β (S j) s' := hext.freeOf hfree
     refine op_sound C.hc (hrelj.of_same (T := { S j with prot := yK ops.toList (A j) d.free ++ (S j).prot }) rfl rfl) (C.operands I hj hix (Nat.le_refl j) ho hn X.hanc) (by rw [hop]; simp) (by rw [hop]; exact hfr) _ Q (fun v v' s'' β' w' he => by rw [hop] at he; cases he) fun ch ch' s'' β' w' he hx hch => ?_
     rw [hop] at he
     simp only [Out.panic.injEq] at he
     obtain ⟨rfl, _, rfl⟩ := he
     have hx' := Ext.relax (s := S j) (s₀ := { S j with prot := yK ops.toList (A j) d.free ++ (S j).prot }) rfl rfl (fun b hb => by
      unfold St.may at hb ⊢
      simp only [Bool.and_eq_true, Bool.not_eq_true', List.any_append, Bool.or_eq_false_iff] at hb ⊢
      exact ⟨hb.1, hb.2.2⟩) hx
     exact hQ _ _ _ ⟨ch', β', rfl, hext.trans hx' hfree, hch, I.defers⟩
end
theorem draw_sound {P : Program} {call : FuncId → Array Value → St → CallOut} (hmix : P.follows .mixedOrders = true) (hc : CallS P call) (hk : ∀ f args s, WF s → (call f args s).keeps s) {id : Nat} {ops : Array Oper} {l : List Drawn}
  (hplan : planB ops.toList l = true) (hops : ops.toList.all (fun o => o.op.operands.toList.all qz) = true) {a : Fr} {a' : Act} {s : St} {β : Ren} {w : World} (h : Rel P β s w) (hf : FRel P β a a')
  (hne : qQ P call ops.toList l a s ≠ .stuck) (hfree : (qQ P call ops.toList l a s).free β s) : (Code.region id ops true).wp P (OutP P β s w (qQ P call ops.toList l a s)) a' w := by
 obtain ⟨anc, hp⟩ := plan_ok hplan
 obtain ⟨N, A, S, hA, hS, hch, hend⟩ := chain_of l a s hne
 subst hA hS
 refine wp_region_draw fun t => ?_
 have hsch : Region.schedule (P.follows .mixedOrders) ops t = Region.linearise .any ops t := by
  unfold Region.schedule
  rw [hmix]
  simp
 rw [hsch]
 have hwf : WF (S 0) := ⟨h.room, h.top⟩
 have hkN := hch.kp hk hwf N (Nat.le_refl N)
 have hfreeN : Free β (S 0) (S N) := by
  rcases hend with ⟨_, hr⟩ | ⟨d, o, c, a₁, s₁, _, _, hpan, hr⟩
  ·rw [hr] at hfree; exact hfree
  ·rw [hr] at hfree
   have := drawOp_keeps (P := P) hk hkN.wf ops.toList d o (A N)
   rw [hpan] at this
   have this : Kp (S N) s₁ := this
   exact Free.sub hfree this.next
 have C : Ctx P call ops l anc N A S β (drewW w) a' := {
  hc := hc
  hk := hk
  plan := hp
  chain := hch
  small := hf.small
  rel := h.drewW
  fr := hf
  free := hfreeN
  opsB := fun i o ho => by
   rw [List.all_eq_true] at hops
   exact hops o (by rw [Array.mem_toList_iff]; exact Array.mem_of_getElem? ho) }
 have I : Inv P ops l anc N A S β (drewW w) (fun _ => False) 0 β a' (drewW w) := {
  closed := fun _ _ _ hl => hl.elim
  before := fun _ _ _ hl => hl.elim
  wholes := fun _ _ _ _ hlt => by omega
  leN := Nat.zero_le _
  rel := h.drewW
  le := Ren.le_refl β
  dom := fun b m hb => .inl hb
  tsize := hf.size
  defers := hf.defers
  filled := fun _ _ _ _ _ _ hl => hl.elim
  old := fun t _ _ => hf.get t
  size := Nat.le_refl _
  out := fun _ _ _ => rfl
  fresh := fun b m h1 h2 => by rw [h2] at h1; cases h1
  os := rfl
  output := rfl
  tape := rfl }
 refine C.sched (r := qQ P call ops.toList l (A 0) (S 0)) ?_ hfree _ (fun e a₂ w₂ ho => ?_) _ _ (linearise_sched ops (fun i o ho e he hb => (hp.edges i o ho e he hb).1) t) 0 β a' (drewW w) I
 ·rcases hend with ⟨h1, h2⟩ | ⟨d, o, c, a₁, s₁, g1, g2, g3, g4⟩
  ·exact .inl ⟨h1, h2⟩
  ·exact .inr ⟨d, o, c, a₁, s₁, g1, g2, g3, g4⟩
 ·have back : ∀ β' s', Ext P β (S 0) (drewW w) β' s' w₂ → Ext P β (S 0) w β' s' w₂ := fun β' s' hx => ⟨hx.rel, hx.le, hx.dom, hx.next, hx.bar, hx.prot, hx.size, hx.out, hx.same, hx.dead, hx.fresh, hx.os, hx.output, hx.tape⟩
  cases hr : qQ P call ops.toList l (A 0) (S 0) with
  | normal a₁ s₁ => rw [hr] at ho; obtain ⟨h1, β', h2, h3⟩ := ho; exact ⟨h1, β', back _ _ h2, h3⟩
  | exit i a₁ s₁ => rw [hr] at ho; obtain ⟨h1, β', h2, h3⟩ := ho; exact ⟨h1, β', back _ _ h2, h3⟩
  | ret a₁ s₁ => rw [hr] at ho; obtain ⟨h1, β', h2, h3⟩ := ho; exact ⟨h1, β', back _ _ h2, h3⟩
  | panic c a₁ s₁ => rw [hr] at ho; obtain ⟨c', β', h1, h2, h3, h4⟩ := ho; exact ⟨c', β', h1, back _ _ h2, h3, h4⟩
  | stuck => rw [hr] at ho; exact ho
end Go.M
