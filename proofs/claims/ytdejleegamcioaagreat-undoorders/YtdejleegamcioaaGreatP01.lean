/- What the abstract machine's states and values have to do with the model's. -/
/- The abstract machine's runs of the model's small programs stand for the model's own. -/
/- Each operation of the abstract machine stands for the model's own. -/
import Derived.Test.YtdejleegamcioaaGreatP00
import Derived.Eval
import Derived.Laws.Sem
import Derived.Laws.IdiomCopy
import Derived.Laws.Append
import Derived.IntWalk
namespace Go.M
namespace Tr
variable {α : Type}
theorem get_put : ∀ (d : Nat) (t : Tr α) (n m : Nat) (x : Option α), n + 1 < 2 ^ d →
    (t.put d n x).get m = if m = n then x else t.get m := by
  intro d
  induction d with
  | zero => intro t n m x h; simp at h
  | succ d ih =>
    intro t n m x h
    cases t with
    | nil =>
      cases n with
      | zero => cases m with
        | zero => simp [put, get]
        | succ m => simp only [put, get]; split <;> simp
      | succ k =>
        have hk : k / 2 + 1 < 2 ^ d := by rw [Nat.pow_succ] at h; omega
        cases hp : k % 2 with
        | zero =>
          cases m with
          | zero => simp [put, get, hp]
          | succ m =>
            cases hq : m % 2 with
            | zero => simp only [put, get, hp, hq, ih _ _ _ _ hk, Nat.add_right_cancel_iff]; congr 1; apply propext; constructor <;> intro <;> omega
            | succ q => simp only [put, get, hp, hq, Nat.add_right_cancel_iff]; rw [if_neg]; omega
        | succ p =>
          cases m with
          | zero => simp [put, get, hp]
          | succ m =>
            cases hq : m % 2 with
            | zero => simp only [put, get, hp, hq, Nat.add_right_cancel_iff]; rw [if_neg]; omega
            | succ q => simp only [put, get, hp, hq, ih _ _ _ _ hk, Nat.add_right_cancel_iff]; congr 1; apply propext; constructor <;> intro <;> omega
    | node v l r =>
      cases n with
      | zero => cases m with
        | zero => simp [put, get]
        | succ m => simp [put, get]
      | succ k =>
        have hk : k / 2 + 1 < 2 ^ d := by rw [Nat.pow_succ] at h; omega
        cases hp : k % 2 with
        | zero =>
          cases m with
          | zero => simp [put, get, hp]
          | succ m =>
            cases hq : m % 2 with
            | zero => simp only [put, get, hp, hq, ih _ _ _ _ hk, Nat.add_right_cancel_iff]; congr 1; apply propext; constructor <;> intro <;> omega
            | succ q => simp only [put, get, hp, hq, Nat.add_right_cancel_iff]; rw [if_neg]; omega
        | succ p =>
          cases m with
          | zero => simp [put, get, hp]
          | succ m =>
            cases hq : m % 2 with
            | zero => simp only [put, get, hp, hq, Nat.add_right_cancel_iff]; rw [if_neg]; omega
            | succ q => simp only [put, get, hp, hq, ih _ _ _ _ hk, Nat.add_right_cancel_iff]; congr 1; apply propext; constructor <;> intro <;> omega
end Tr
section
variable {α : Type}
theorem yx (l : List α) : ∀ n, yo l n = l[n]? := by
  induction l with
  | nil => intro n; simp [yo]
  | cons x l ih => intro n; cases n <;> simp [yo, ih]
theorem xX : ∀ (n : Nat) (l : List α), xd n l = if n ≤ l.length then some (l.take n) else none := by
  intro n
  induction n with
  | zero => intro l; simp [xd]
  | succ n ih =>
    intro l
    cases l with
    | nil => simp [xd]
    | cons x l => simp only [xd, ih, List.length_cons, Nat.add_le_add_iff_right, List.take_succ_cons]; split <;> simp_all
theorem qi : ∀ (n : Nat) (l : List α), xy n l = l.drop n := by
  intro n
  induction n with
  | zero => intro l; simp [xy]
  | succ n ih => intro l; cases l <;> simp [xy, ih]
theorem y9 (l : List α) : ∀ n, yY l n = l.length + n := by
  induction l with
  | nil => intro n; simp [yY]
  | cons x l ih => intro n; simp [yY, ih]; omega
theorem lover_spec : ∀ (vs l r : List α), lover vs l = some r → vs.length ≤ l.length ∧ r = vs ++ l.drop vs.length := by
  intro vs
  induction vs with
  | nil => intro l r h; simp [lover] at h; simp [h]
  | cons v vs ih =>
    intro l r h
    cases l with
    | nil => simp [lover] at h
    | cons x l =>
      simp only [lover] at h
      cases ho : lover vs l with
      | none => simp [ho] at h
      | some q => simp only [ho, Option.some.injEq] at h; obtain ⟨h1, h2⟩ := ih l q ho; subst h; subst h2; simp [h1]
theorem lput_spec : ∀ (n : Nat) (vs l r : List α), lput n vs l = some r → n + vs.length ≤ l.length ∧ r = l.take n ++ vs ++ l.drop (n + vs.length) := by
  intro n
  induction n with
  | zero => intro vs l r h; obtain ⟨h1, h2⟩ := lover_spec vs l r h; simp [h1, h2]
  | succ n ih =>
    intro vs l r h
    cases l with
    | nil => simp [lput] at h
    | cons x l =>
      simp only [lput] at h
      cases ho : lput n vs l with
      | none => simp [ho] at h
      | some q =>
        simp only [ho, Option.some.injEq] at h
        obtain ⟨h1, h2⟩ := ih vs l q ho
        subst h; subst h2
        constructor
        · simp; omega
        · have e : n + 1 + vs.length = (n + vs.length) + 1 := by omega
          simp [e, List.drop_succ_cons]
end
structure Img where
  blk : Nat
  sh : Nat
  size : Nat
  elem : TypeId
abbrev Ren := Nat → Option Img
def Ren.le (β β' : Ren) : Prop := ∀ b m, β b = some m → β' b = some m
theorem Ren.le_refl (β : Ren) : β.le β := fun _ _ h => h
theorem Ren.le_trans {β β' β'' : Ren} (h : β.le β') (h' : β'.le β'') : β.le β'' := fun b m e => h' b m (h b m e)
def flatB : Fn → List Value → Bool
  | fn, [.pointer (some a)] => !keysF fn || (Nat.beq a.off 0 && a.spot.isNone)
  | _, _ => true
theorem flatB_no {fn : Fn} (h : keysF fn = false) (c : List Value) : flatB fn c = true := by
  unfold flatB
  split
  · rw [h]; rfl
  · rfl
mutual
inductive VRel (P : Program) (β : Ren) : Value → Value → Prop where
  | bool (b : Bool) : VRel P β (.bool b) (.bool b)
  | int (k : IntKind) (n : Int) : VRel P β (.int k n) (.int k n)
  | float (k : FloatKind) (n : Nat) : VRel P β (.float k n) (.float k n)
  | complex (k : FloatKind) (a b : Nat) : VRel P β (.complex k a b) (.complex k a b)
  | string (s : ByteArray) : VRel P β (.string s) (.string s)
  | nilFunc : VRel P β .nilFunc .nilFunc
  | nilIface : VRel P β .nilIface .nilIface
  | pnil : VRel P β (.pointer none) (.pointer none)
  | ptr {b off : Nat} {m : Img} (h : β b = some m) : VRel P β (.pointer (some ⟨b, off, none⟩)) (.pointer (some ⟨m.blk, off + m.sh, none⟩))
  | snil : VRel P β (.slice none 0 0) (.slice none 0 0)
  | sknown {b off len c : Nat} {m : Img} (h : β b = some m) : VRel P β (.slice (some ⟨b, off, none⟩) len (2 * c)) (.slice (some ⟨m.blk, off + m.sh, none⟩) len c)
  | sgrown {b off len c cap : Nat} {m : Img} (h : β b = some m) (hc : c ≤ cap) (hs : off + m.sh + cap * P.cellsOf m.elem ≤ m.size) :
      VRel P β (.slice (some ⟨b, off, none⟩) len (2 * c + 1)) (.slice (some ⟨m.blk, off + m.sh, none⟩) len cap)
  | sempty {b off off' cap : Nat} {m : Img} (h : β b = some m) (hs : m.sh ≤ off' ∧ off' + cap * P.cellsOf m.elem ≤ m.size) :
      VRel P β (.slice (some ⟨b, off, none⟩) 0 1) (.slice (some ⟨m.blk, off', none⟩) 0 cap)
  | szero {b off off' : Nat} {m : Img} (h : β b = some m) : VRel P β (.slice (some ⟨b, off, none⟩) 0 0) (.slice (some ⟨m.blk, off', none⟩) 0 0)
  | mnil : VRel P β (.map none) (.map none)
  | mref {b : Nat} {m : Img} (h : β b = some m) : VRel P β (.map (some b)) (.map (some m.blk))
  | func {fn : Fn} {f f' c c' : List Value} (hf : LRel P β f f') (hc : LRel P β c c') (fl : flatB fn c' = true) : VRel P β (.func fn ⟨f⟩ ⟨c⟩) (.func fn ⟨f'⟩ ⟨c'⟩)
  | iface {t : TypeId} {v v' : Value} (h : VRel P β v v') : VRel P β (.iface t v) (.iface t v')
  | agg {l l' : List Value} (h : LRel P β l l') : VRel P β (.agg ⟨l⟩) (.agg ⟨l'⟩)
  | tuple {l l' : List Value} (h : LRel P β l l') : VRel P β (.tuple ⟨l⟩) (.tuple ⟨l'⟩)
inductive LRel (P : Program) (β : Ren) : List Value → List Value → Prop where
  | nil : LRel P β [] []
  | cons {v v' : Value} {l l' : List Value} (h : VRel P β v v') (hl : LRel P β l l') : LRel P β (v :: l) (v' :: l')
end
mutual
theorem VRel.mono {P : Program} {β β' : Ren} (hb : β.le β') : ∀ {v v' : Value}, VRel P β v v' → VRel P β' v v'
  | _, _, .bool b => .bool b
  | _, _, .int k n => .int k n
  | _, _, .float k n => .float k n
  | _, _, .complex k a b => .complex k a b
  | _, _, .string s => .string s
  | _, _, .nilFunc => .nilFunc
  | _, _, .nilIface => .nilIface
  | _, _, .pnil => .pnil
  | _, _, .ptr h => .ptr (hb _ _ h)
  | _, _, .snil => .snil
  | _, _, .sknown h => .sknown (hb _ _ h)
  | _, _, .sgrown h hc hs => .sgrown (hb _ _ h) hc hs
  | _, _, .sempty h hs => .sempty (hb _ _ h) hs
  | _, _, .szero h => .szero (hb _ _ h)
  | _, _, .mnil => .mnil
  | _, _, .mref h => .mref (hb _ _ h)
  | _, _, .func hf hc fl => .func (hf.mono hb) (hc.mono hb) fl
  | _, _, .iface h => .iface (h.mono hb)
  | _, _, .agg h => .agg (h.mono hb)
  | _, _, .tuple h => .tuple (h.mono hb)
theorem LRel.mono {P : Program} {β β' : Ren} (hb : β.le β') : ∀ {l l' : List Value}, LRel P β l l' → LRel P β' l l'
  | _, _, .nil => .nil
  | _, _, .cons h hl => .cons (h.mono hb) (hl.mono hb)
end
section
variable {P : Program} {β : Ren}
theorem LRel.length {l l' : List Value} (h : LRel P β l l') : l'.length = l.length := by
  induction l generalizing l' with
  | nil => cases h; rfl
  | cons v l ih => cases h with | cons h hl => simp [ih hl]
theorem LRel.get {l l' : List Value} (h : LRel P β l l') {i : Nat} {v : Value} (hi : l[i]? = some v) : ∃ v', l'[i]? = some v' ∧ VRel P β v v' := by
  induction l generalizing l' i with
  | nil => simp at hi
  | cons x l ih =>
    cases h with
    | cons h hl =>
      cases i with
      | zero => simp at hi; subst hi; exact ⟨_, by simp, h⟩
      | succ i => simp at hi; simpa using ih hl hi
theorem LRel.append {l l' m m' : List Value} (h : LRel P β l l') (h2 : LRel P β m m') : LRel P β (l ++ m) (l' ++ m') := by
  induction l generalizing l' with
  | nil => cases h; exact h2
  | cons v l ih => cases h with | cons h hl => exact .cons h (ih hl)
theorem LRel.take {l l' : List Value} (h : LRel P β l l') (n : Nat) : LRel P β (l.take n) (l'.take n) := by
  induction l generalizing l' n with
  | nil => cases h; simp; exact .nil
  | cons v l ih => cases h with | cons h hl => cases n with
    | zero => simp; exact .nil
    | succ n => simpa using .cons h (ih hl n)
theorem LRel.drop {l l' : List Value} (h : LRel P β l l') (n : Nat) : LRel P β (l.drop n) (l'.drop n) := by
  induction l generalizing l' n with
  | nil => cases h; simp; exact .nil
  | cons v l ih => cases h with | cons h hl => cases n with
    | zero => simpa using .cons h hl
    | succ n => simpa using ih hl n
end
def ERel (P : Program) (β : Ren) (e e' : MapEntry) : Prop := VRel P β e.key e'.key ∧ VRel P β e.val e'.val ∧ e'.born = e.born
inductive ORel (P : Program) (β : Ren) (m : Img) : MObj → Obj → Prop where
  | cells {c : List Value} {e e' : TypeId} {c' : Array Value} {fz : Nat × Nat} (he : e = m.elem) (hsz : m.size ≤ c'.size) (hln : c.length = 0 ∨ c.length + m.sh ≤ m.size) (hfz : ∀ i, m.sh ≤ i → i < m.size → ¬ (fz.1 ≤ i ∧ i < fz.2))
      (hc : ∀ (i : Nat) (v : Value), c[i]? = some v → ∃ v', c'[i + m.sh]? = some v' ∧ VRel P β v v') : ORel P β m (.cells c e) (.cells c' e' fz)
  | map {es es' : Array MapEntry} {clock : Nat} (hlen : es'.size = es.size) (he : ∀ (i : Nat) (e : MapEntry), es[i]? = some e → ∃ e', es'[i]? = some e' ∧ ERel P β e e') :
      ORel P β m (.map es clock) (.map es' clock)
theorem ORel.mono {P : Program} {β β' : Ren} (hb : β.le β') {m : Img} {o : MObj} {o' : Obj} (h : ORel P β m o o') : ORel P β' m o o' := by
  cases h with
  | cells he hsz hln hfz hc => exact .cells he hsz hln hfz fun i v hv => let ⟨v', h1, h2⟩ := hc i v hv; ⟨v', h1, h2.mono hb⟩
  | map hlen he => exact .map hlen fun i e h => let ⟨e', h1, h2, h3, h4⟩ := he i e h; ⟨e', h1, h2.mono hb, h3.mono hb, h4⟩
structure Rel (P : Program) (β : Ren) (s : St) (w : World) : Prop where
  img : ∀ b m, β b = some m → b < s.next → m.blk < w.heap.size
  obj : ∀ b m o, β b = some m → b < s.next → s.get b = some o → ∃ o', w.heap[m.blk]? = some o' ∧ ORel P β m o o'
  inj : ∀ b b' m m' o o', β b = some m → β b' = some m' → b < s.next → b' < s.next → s.get b = some o → s.get b' = some o' → m.blk = m'.blk → b = b'
  room : s.next ≤ 281474976710655
  top : ∀ b, s.next ≤ b → s.get b = none
structure Ext (P : Program) (β : Ren) (s : St) (w : World) (β' : Ren) (s' : St) (w' : World) : Prop where
  rel : Rel P β' s' w'
  le : β.le β'
  dom : ∀ b m, β' b = some m → β b = none → s.next ≤ b ∧ b < s'.next
  next : s.next ≤ s'.next
  bar : s'.bar = s.bar
  prot : s'.prot = s.prot
  size : w.heap.size ≤ w'.heap.size
  out : ∀ r, r < w.heap.size → (∀ b m o, β b = some m → b < s.next → s.may b = true → s.get b = some o → m.blk ≠ r) → w'.heap[r]? = w.heap[r]?
  same : ∀ b, b < s.next → s.may b = false → s'.get b = s.get b
  dead : ∀ b, b < s.next → s.get b = none → s'.get b = none
  fresh : ∀ b m, β' b = some m → β b = none → w.heap.size ≤ m.blk ∨ ∃ b₀ m₀ o₀, β b₀ = some m₀ ∧ b₀ < s.next ∧ s.may b₀ = true ∧ s.get b₀ = some o₀ ∧ m₀.blk = m.blk
  os : w'.os = w.os
  output : w'.output = w.output
  tape : w'.tape = w.tape
def Free (β : Ren) (s s' : St) : Prop := ∀ b, s.next ≤ b → b < s'.next → β b = none
theorem St.may_eq {s s' : St} (h : s'.bar = s.bar) (h' : s'.prot = s.prot) (b : Nat) : s'.may b = s.may b := by simp [St.may, h, h']
theorem Ext.refl {P : Program} {β : Ren} {s : St} {w : World} (h : Rel P β s w) : Ext P β s w β s w where
  rel := h
  le := Ren.le_refl β
  dom := fun b m h h' => by rw [h'] at h; cases h
  next := Nat.le_refl _
  bar := rfl
  prot := rfl
  size := Nat.le_refl _
  out := fun _ _ _ => rfl
  same := fun _ _ _ => rfl
  dead := fun _ _ h => h
  fresh := fun b m h h' => by rw [h'] at h; cases h
  os := rfl
  output := rfl
  tape := rfl
theorem Ext.trans {P : Program} {β β₁ β₂ : Ren} {s s₁ s₂ : St} {w w₁ w₂ : World} (h : Ext P β s w β₁ s₁ w₁) (h' : Ext P β₁ s₁ w₁ β₂ s₂ w₂) (hfree : Free β s s₂) :
    Ext P β s w β₂ s₂ w₂ := by
  have old : ∀ b m, β b = some m → b < s₁.next → b < s.next := fun b m hb hlt =>
    Classical.byContradiction fun hcon => by
      have := hfree b (by omega) (Nat.lt_of_lt_of_le hlt h'.next)
      rw [this] at hb; cases hb
  have live : ∀ b o, b < s.next → s₁.get b = some o → ∃ o', s.get b = some o' := fun b o hb hg => by
    cases hs : s.get b with
    | none => rw [h.dead b hb hs] at hg; cases hg
    | some o' => exact ⟨o', rfl⟩
  exact {
    rel := h'.rel
    le := Ren.le_trans h.le h'.le
    dom := fun b m hb hn => by
      cases h1 : β₁ b with
      | none => have := h'.dom b m hb h1; have := h.next; omega
      | some m₁ => have := h.dom b m₁ h1 hn; have := h'.next; omega
    next := Nat.le_trans h.next h'.next
    bar := h'.bar.trans h.bar
    prot := h'.prot.trans h.prot
    size := Nat.le_trans h.size h'.size
    out := fun r hr hno => by
      rw [← h.out r hr hno]
      refine h'.out r (Nat.lt_of_lt_of_le hr h.size) fun b m o hb hlt hmay hget heq => ?_
      rw [St.may_eq h.bar h.prot] at hmay
      cases h1 : β b with
      | some m₁ =>
        have e := h.le b m₁ h1
        rw [hb] at e; cases e
        have hb' := old b m h1 hlt
        obtain ⟨o', ho'⟩ := live b o hb' hget
        exact hno b m o' h1 hb' hmay ho' heq
      | none =>
        rcases h.fresh b m hb h1 with hf | ⟨b₀, m₀, o₀, h0, hlt0, hmay0, hg0, he0⟩
        · omega
        · exact hno b₀ m₀ o₀ h0 hlt0 hmay0 hg0 (he0.trans heq)
    same := fun b hb hm => by
      rw [h'.same b (Nat.lt_of_lt_of_le hb h.next) (by rw [St.may_eq h.bar h.prot]; exact hm), h.same b hb hm]
    dead := fun b hb hg => h'.dead b (Nat.lt_of_lt_of_le hb h.next) (h.dead b hb hg)
    fresh := fun b m hb hn => by
      cases h1 : β₁ b with
      | some m₁ =>
        have e := h'.le b m₁ h1
        rw [hb] at e; cases e
        exact h.fresh b m h1 hn
      | none =>
        rcases h'.fresh b m hb h1 with hf | ⟨b₀, m₀, o₀, h0, hlt0, hmay0, hg0, he0⟩
        · exact .inl (Nat.le_trans h.size hf)
        · rw [St.may_eq h.bar h.prot] at hmay0
          cases h2 : β b₀ with
          | some m₁ =>
            have e := h.le b₀ m₁ h2
            rw [h0] at e; cases e
            have hb' := old b₀ m₀ h2 hlt0
            obtain ⟨o', ho'⟩ := live b₀ o₀ hb' hg0
            exact .inr ⟨b₀, m₀, o', h2, hb', hmay0, ho', he0⟩
          | none =>
            rcases h.fresh b₀ m₀ h0 h2 with hf | ⟨b₁, m₁, o₁, h3, hlt3, hmay3, hg3, he3⟩
            · exact .inl (by omega)
            · exact .inr ⟨b₁, m₁, o₁, h3, hlt3, hmay3, hg3, he3.trans he0⟩
    os := h'.os.trans h.os
    output := h'.output.trans h.output
    tape := h'.tape.trans h.tape }
theorem runA_next {P : Program} {α : Type} (x : Sem α) : ∀ (s : St),
    (∀ a s', x5 P x s = .ok a s' → s.next ≤ s'.next) ∧ (∀ v s', x5 P x s = .panic v s' → s.next ≤ s'.next) := by
  induction x with
  | pure a => intro s; simp [x5]
  | load m a k ih =>
    intro s
    simp only [x5]
    repeat' split
    all_goals first | exact ih _ _ | simp
  | store m a v k ih =>
    intro s
    simp only [x5]
    repeat' split
    all_goals first | exact ih (s.put _ _) | simp
  | new o k ih =>
    intro s
    simp only [x5]
    repeat' split
    all_goals first | (refine ⟨fun a s' h => ?_, fun v s' h => ?_⟩; · have := (ih _ (s.new _)).1 a s' h; simp [St.new] at this; omega
                       · have := (ih _ (s.new _)).2 v s' h; simp [St.new] at this; omega) | simp
  | shape r k ih => intro s; simp [x5]
  | freeze a n k ih => intro s; simp [x5]
  | frozen a k ih => intro s; simp [x5]
  | getObj r k ih =>
    intro s
    simp only [x5]
    repeat' split
    all_goals first | exact ih _ _ | simp
  | setObj r o k ih =>
    intro s
    simp only [x5]
    repeat' split
    all_goals first | exact ih (s.put _ _) | simp
  | choose q k ih =>
    intro s
    simp only [x5]
    repeat' split
    all_goals first | exact ih _ _ | simp
  | sys c k ih => intro s; simp [x5]
  | program k ih => intro s; simpa [x5] using ih P s
  | mark m k ih => intro s; simpa [x5] using ih s
  | halt h => intro s; cases h <;> simp [x5]
end Go.M
namespace Go.M
theorem St.get_put {s : St} {b : Nat} (h : b + 1 < 281474976710656) (o : Option MObj) (b' : Nat) : (s.put b o).get b' = if b' = b then o else s.get b' := by
 have : (281474976710656 : Nat) = 2 ^ depth := by decide
 simp only [St.get, St.put]
 exact Tr.get_put depth s.heap b b' o (by rw [← this]; exact h)
theorem St.get_new {s : St} (h : s.next + 1 < 281474976710656) (o : MObj) (b' : Nat) : (s.new o).get b' = if b' = s.next then some o else s.get b' := by
 have : (281474976710656 : Nat) = 2 ^ depth := by decide
 simp only [St.get, St.new]
 exact Tr.get_put depth s.heap s.next b' (some o) (by rw [← this]; exact h)
@[simp] theorem St.put_next {s : St} {b : Nat} {o : Option MObj} : (s.put b o).next = s.next := rfl
@[simp] theorem St.put_bar {s : St} {b : Nat} {o : Option MObj} : (s.put b o).bar = s.bar := rfl
@[simp] theorem St.put_prot {s : St} {b : Nat} {o : Option MObj} : (s.put b o).prot = s.prot := rfl
@[simp] theorem St.new_next {s : St} {o : MObj} : (s.new o).next = s.next + 1 := rfl
@[simp] theorem St.new_bar {s : St} {o : MObj} : (s.new o).bar = s.bar := rfl
@[simp] theorem St.new_prot {s : St} {o : MObj} : (s.new o).prot = s.prot := rfl
section
variable {P : Program} {β : Ren} {s : St} {w : World}
theorem Rel.lt (h : Rel P β s w) {b : Nat} {o : MObj} (hg : s.get b = some o) : b < s.next :=
 Classical.byContradiction fun hc => by rw [h.top b (by omega)] at hg; cases hg
theorem Ext.write (h : Rel P β s w) {b : Nat} {m : Img} (hb : β b = some m) (hmay : s.may b = true) {o : MObj} (hg : s.get b = some o) (o₁ : MObj) {w' : World}
  (hsize : w'.heap.size = w.heap.size) (hsame : ∀ r, r ≠ m.blk → w'.heap[r]? = w.heap[r]?) (hnew : ∃ o', w'.heap[m.blk]? = some o' ∧ ORel P β m o₁ o')
  (hos : w'.os = w.os) (hout : w'.output = w.output) (htape : w'.tape = w.tape) : Ext P β s w β (s.put b (some o₁)) w' := by
 have hlt := h.lt hg
 have hroom := h.room
 have gp := fun b' => St.get_put (s := s) (b := b) (by omega) (some o₁) b'
 have live : ∀ b' o', (s.put b (some o₁)).get b' = some o' → ∃ o'', s.get b' = some o'' := fun b' o' hh => by
  rw [gp] at hh
  split at hh
  ·rename_i e; subst e; exact ⟨o, hg⟩
  ·exact ⟨o', hh⟩
 exact {
  rel := {
   img := fun b' m' hb' hlt' => by rw [hsize]; exact h.img b' m' hb' hlt'
   obj := fun b' m' o' hb' hlt' hg' => by
    rw [gp] at hg'
    split at hg'
    ·rename_i e; subst e
     rw [hb] at hb'; cases hb'; cases hg'
     exact hnew
    ·rename_i ne
     obtain ⟨o'', h1, h2⟩ := h.obj b' m' o' hb' hlt' hg'
     refine ⟨o'', ?_, h2⟩
     rw [hsame m'.blk (fun e => ne (h.inj b' b m' m o' o hb' hb hlt' hlt hg' hg e))]
     exact h1
   inj := fun b1 b2 m1 m2 o1 o2 h1 h2 l1 l2 g1 g2 e => by
    obtain ⟨_, g1'⟩ := live _ _ g1
    obtain ⟨_, g2'⟩ := live _ _ g2
    exact h.inj b1 b2 m1 m2 _ _ h1 h2 l1 l2 g1' g2' e
   room := h.room
   top := fun b' hb' => by rw [gp, if_neg (by simp at hb'; omega)]; exact h.top b' hb' }
  le := Ren.le_refl β
  dom := fun b' m' h1 h2 => by rw [h2] at h1; cases h1
  next := Nat.le_refl _
  bar := rfl
  prot := rfl
  size := by omega
  out := fun r hr hno => hsame r (fun e => hno b m o hb hlt hmay hg e.symm)
  same := fun b' hb' hm => by rw [gp, if_neg (fun e => by rw [e, hmay] at hm; cases hm)]
  dead := fun b' hb' hd => by rw [gp, if_neg (fun e => by rw [e, hg] at hd; cases hd)]; exact hd
  fresh := fun b' m' h1 h2 => by rw [h2] at h1; cases h1
  os := hos
  output := hout
  tape := htape }
def Ren.add (β : Ren) (b : Nat) (m : Img) : Ren := fun x => if x = b then some m else β x
theorem Ren.le_add {β : Ren} {b : Nat} {m : Img} (h : β b = none) : β.le (β.add b m) := fun x n hx => by
 unfold Ren.add
 split
 ·rename_i e; subst e; rw [h] at hx; cases hx
 ·exact hx
theorem Ren.add_self {β : Ren} {b : Nat} {m : Img} : β.add b m b = some m := by simp [Ren.add]
theorem Ext.new (h : Rel P β s w) (hroom : s.next < 281474976710655) (hn : β s.next = none) {o₁ : MObj} {o' : Obj} {m : Img} (hm : m.blk = w.heap.size) (ho : ORel P β m o₁ o') :
  Ext P β s w (β.add s.next m) (s.new o₁) { w with heap := w.heap.push o' } := by
 have gp := fun b' => St.get_new (s := s) (by omega) o₁ b'
 have hle : β.le (β.add s.next m) := Ren.le_add hn
 have at_ : ∀ b m', β.add s.next m b = some m' → b ≠ s.next → β b = some m' := fun b m' hh ne => by
  simpa [Ren.add, ne] using hh
 exact {
  rel := {
   img := fun b m' hb hlt => by
    simp only [Array.size_push]
    by_cases e : b = s.next
    ·subst e; rw [Ren.add_self] at hb; cases hb; omega
    ·have := h.img b m' (at_ b m' hb e) (by simp at hlt; omega); omega
   obj := fun b m' o hb hlt hg => by
    rw [gp] at hg
    by_cases e : b = s.next
    ·subst e
     rw [if_pos rfl] at hg; cases hg
     rw [Ren.add_self] at hb; cases hb
     exact ⟨o', by simp [hm], ho.mono hle⟩
    ·rw [if_neg e] at hg
     have hb' := at_ b m' hb e
     have hlt' : b < s.next := by simp at hlt; omega
     obtain ⟨o'', h1, h2⟩ := h.obj b m' o hb' hlt' hg
     have := h.img b m' hb' hlt'
     exact ⟨o'', by simp only [Array.getElem?_push]; rw [if_neg (by omega)]; exact h1, h2.mono hle⟩
   inj := fun b1 b2 m1 m2 o1 o2 h1 h2 l1 l2 g1 g2 e => by
    rw [gp] at g1 g2
    by_cases e1 : b1 = s.next
    ·by_cases e2 : b2 = s.next
     ·omega
     ·subst e1; rw [Ren.add_self] at h1; cases h1
      have := h.img b2 m2 (at_ b2 m2 h2 e2) (by simp at l2; omega)
      omega
    ·by_cases e2 : b2 = s.next
     ·subst e2; rw [Ren.add_self] at h2; cases h2
      have := h.img b1 m1 (at_ b1 m1 h1 e1) (by simp at l1; omega)
      omega
     ·rw [if_neg e1] at g1; rw [if_neg e2] at g2
      exact h.inj b1 b2 m1 m2 o1 o2 (at_ _ _ h1 e1) (at_ _ _ h2 e2) (by simp at l1; omega) (by simp at l2; omega) g1 g2 e
   room := by simp; omega
   top := fun b hb => by simp at hb; rw [gp, if_neg (by omega)]; exact h.top b (by omega) }
  le := hle
  dom := fun b m' h1 h2 => by
   by_cases e : b = s.next
   ·subst e; simp
   ·rw [at_ b m' h1 e] at h2; cases h2
  next := by simp
  bar := rfl
  prot := rfl
  size := by simp
  out := fun r hr _ => by simp only [Array.getElem?_push]; rw [if_neg (by omega)]
  same := fun b hb _ => by rw [gp, if_neg (by omega)]
  dead := fun b hb hd => by rw [gp, if_neg (by omega)]; exact hd
  fresh := fun b m' h1 h2 => by
   by_cases e : b = s.next
   ·subst e; rw [Ren.add_self] at h1; cases h1; exact .inl (by omega)
   ·rw [at_ b m' h1 e] at h2; cases h2
  os := rfl
  output := rfl
  tape := rfl }
end
section
variable {P : Program} {β : Ren} {α α' γ γ' : Type}
end
end Go.M
namespace Go.M
def NRel (P : Program) (β : Ren) (n n' : Next) : Prop :=
 match n with
 | .value v => ∃ v', n' = .value v' ∧ VRel P β v v'
 | .skip => n' = .skip
 | .enter f args => ∃ args', n' = .enter f args' ∧ LRel P β args.toList args'.toList
 | _ => False
def OpS (P : Program) (β : Ren) (s : St) (w : World) (r : Res Next) (r' : Result Next) : Prop :=
 match r with
 | .ok n s' => Free β s s' → ∃ β' w' n', r' = .ok n' w' ∧ Ext P β s w β' s' w' ∧ NRel P β' n n'
 | .panic v s' => Free β s s' → ∃ β' w' v', r' = .halt (.panic v') w' ∧ Ext P β s w β' s' w' ∧ VRel P β' v v'
 | .stuck => True
def zO (x : Sem Value) : Sem Next := x >>= fun a => pure (.value a)
section
variable {P : Program} {β : Ren} {s : St} {w : World}
theorem zR {x : Sem Value} {v : Value} {w' : World} (h : x.run P w = .ok v w') : (zO x).run P w = .ok (.value v) w' := by
 simp [zO, h]
theorem OpS.value (h : Rel P β s w) {v v' : Value} (hv : VRel P β v v') {r' : Result Next} (hr : r' = .ok (.value v') w) : OpS P β s w (okV v s) r' :=
 fun _ => ⟨β, w, .value v', hr, Ext.refl h, v', rfl, hv⟩
theorem OpS.stuck {r' : Result Next} : OpS P β s w .stuck r' := trivial
theorem xb {t : TypeId} {i : TypeInfo} (h : P.info? t = some i) (w : World) : (typeInfo t).run P w = .ok i w := by
 simp [typeInfo, h]
theorem yc {t : TypeId} {i : TypeInfo} (h : P.info? t = some i) (w : World) : (sizeOf t).run P w = .ok i.size w := by
 simp [sizeOf, xb h]
theorem yy {t : TypeId} {i : TypeInfo} {z : Value} (h : P.info? t = some i) (hz : i.zero = some z) (w : World) : (zeroValue t).run P w = .ok z w := by
 simp [zeroValue, xb h, hz]
theorem shapeOf_one {t : TypeId} (h : z1 P t = some none) (w : World) : (isAgg t).run P w = .ok false w := by
 unfold z1 at h
 split at h <;> simp at h
 rename_i d i n1 n2 hu hi
 simp only [isAgg, Sem.run_bind, run_underlying hu, Result.andThen_ok]
 cases d <;> first | rfl | (exact (n1 _ rfl).elim) | (exact (n2 _ _ rfl).elim)
theorem shapeOf_many {t : TypeId} {n : Nat} (h : z1 P t = some (some n)) (w : World) : (isAgg t).run P w = .ok true w ∧ (sizeOf t).run P w = .ok n w := by
 unfold z1 at h
 split at h <;> simp at h
 ·rename_i fs i hu hi
  exact ⟨by simp [isAgg, run_underlying hu], by rw [yc hi, h]⟩
 ·rename_i k e i hu hi
  exact ⟨by simp [isAgg, run_underlying hu], by rw [yc hi, h]⟩
theorem x3 (b off i : Nat) : (⟨b, off, none⟩ : Addr).add i = ⟨b, off + i, none⟩ := by
 unfold Addr.add; split <;> simp_all
theorem Rel.row (h : Rel P β s w) {b : Nat} {m : Img} {c : List Value} {e : TypeId} (hb : β b = some m) (hg : s.get b = some (.cells c e)) :
  e = m.elem ∧ ∃ c' e' fz, w.heap[m.blk]? = some (.cells c' e' fz) ∧ m.size ≤ c'.size ∧ ((c.length = 0 ∨ c.length + m.sh ≤ m.size) ∧ ∀ i, m.sh ≤ i → i < m.size → ¬ (fz.1 ≤ i ∧ i < fz.2)) ∧
   ∀ (i : Nat) (v : Value), c[i]? = some v → ∃ v', c'[i + m.sh]? = some v' ∧ VRel P β v v' := by
 obtain ⟨o', ho', hor⟩ := h.obj b m _ hb (h.lt hg) hg
 cases hor with
 | cells he hsz hln hfz hc => exact ⟨he, _, _, _, ho', hsz, ⟨hln, hfz⟩, hc⟩
theorem row_list {c : List Value} {c' : Array Value} {sh : Nat} (hc : ∀ (i : Nat) (v : Value), c[i]? = some v → ∃ v', c'[i + sh]? = some v' ∧ VRel P β v v')
  (off n : Nat) (hn : off + n ≤ c.length) : ∃ l', LRel P β ((c.drop off).take n) l' ∧ l'.length = n ∧ ∀ j v, l'[j]? = some v → c'[off + j + sh]? = some v := by
 induction n with
 | zero => exact ⟨[], by simp; exact .nil, rfl, by simp⟩
 | succ n ih =>
  obtain ⟨l', h1, h2, h3⟩ := ih (by omega)
  have hlt : off + n < c.length := by omega
  obtain ⟨v', hv', hr⟩ := hc (off + n) c[off + n] (by simp [hlt])
  refine ⟨l' ++ [v'], ?_, by simp [h2], ?_⟩
  ·have e : (c.drop off).take (n + 1) = (c.drop off).take n ++ [c[off + n]] := by
    rw [List.take_succ_eq_append_getElem (by simp; omega)]
    simp
   rw [e]
   exact h1.append (.cons hr .nil)
  ·intro j v hj
   rw [List.getElem?_append] at hj
   split at hj
   ·exact h3 j v hj
   ·rename_i hge
    have : j = n := by
     by_cases hjn : j - l'.length = 0
     ·omega
     ·obtain ⟨q, hq⟩ : ∃ q, j - l'.length = q + 1 := ⟨j - l'.length - 1, by omega⟩
      rw [hq] at hj; simp at hj
    subst this
    simp [h2] at hj
    subst hj
    exact hv'
theorem ql (h : Rel P β s w) {b off n : Nat} {m : Img} {c : List Value} {e : TypeId} (hb : β b = some m) (hg : s.get b = some (.cells c e)) {l : List Value}
  (hl : xd n (xy off c) = some l) : ∃ l', (loadCells ⟨m.blk, off + m.sh, none⟩ n).run P w = .ok ⟨l'⟩ w ∧ LRel P β l l' := by
 obtain ⟨_, c', e', fz, ho, hsz, hfz, hc⟩ := h.row hb hg
 rw [xX, qi] at hl
 split at hl
 ·rename_i hn
  cases hl
  by_cases hz : n = 0
  ·subst hz
   exact ⟨[], by simp [loadCells, loadCellsFrom], by simp; exact .nil⟩
  obtain ⟨l', h1, h2, h3⟩ := row_list hc off n (by simp at hn; omega)
  refine ⟨l', ?_, h1⟩
  have := run_loadCells_list (P := P) w ⟨m.blk, off + m.sh, none⟩ l' (fun j v hj => by
   rw [x3]
   have := h3 j v hj
   simp only [World.cell?, ho]
   rw [show off + m.sh + j = off + j + m.sh by omega]
   simpa using this)
  rw [h2] at this
  exact this
 ·cases hl
theorem loadVar_sound (h : Rel P β s w) {b off : Nat} {m : Img} {c : List Value} {e t : TypeId} (hb : β b = some m) (hg : s.get b = some (.cells c e)) {v : Value}
  (hv : cutL (z1 P t) off c = some v) : ∃ v', (loadVar t ⟨m.blk, off + m.sh, none⟩).run P w = .ok v' w ∧ VRel P β v v' := by
 unfold cutL at hv
 split at hv
 ·rename_i hs
  obtain ⟨_, c', e', fz, ho, hsz, hfz, hc⟩ := h.row hb hg
  rw [yx] at hv
  obtain ⟨v', hv', hr⟩ := hc off v hv
  refine ⟨v', ?_, hr⟩
  have hc' : w.cell? ⟨m.blk, off + m.sh, none⟩ = some v' := by simp [World.cell?, ho, hv']
  simp [loadVar, shapeOf_one hs, hc']
 ·rename_i n hs
  split at hv
  ·rename_i l hl
   cases hv
   obtain ⟨l', h1, h2⟩ := ql h hb hg hl
   exact ⟨.agg ⟨l'⟩, by simp [loadVar, shapeOf_many hs, h1], .agg h2⟩
  ·cases hv
 ·cases hv
theorem loadV_sound (h : Rel P β s w) {t : TypeId} {x x' v : Value} (hx : VRel P β x x') (hv : loadV P t x s = some v) :
  ∃ a v', x' = .pointer (some a) ∧ (loadVar t a).run P w = .ok v' w ∧ VRel P β v v' := by
 unfold loadV at hv
 split at hv
 ·rename_i b off
  cases hx with
  | ptr hb =>
   split at hv
   ·rename_i c e hg
    obtain ⟨v', h1, h2⟩ := loadVar_sound h hb hg hv
    exact ⟨_, v', rfl, h1, h2⟩
   ·cases hv
 ·cases hv
theorem load_sound (h : Rel P β s w) {t : TypeId} {x x' : Value} (hx : VRel P β x x') : OpS P β s w (loadM P t x s) ((zO (Instr.loadAt t x')).run P w) := by
 unfold loadM
 split
 ·rename_i v hv
  obtain ⟨a, v', rfl, h1, h2⟩ := loadV_sound h hx hv
  exact .value h h2 (zR (by simp [Instr.loadAt, Instr.sureAddr, h1]))
 ·exact .stuck
theorem VRel.cells {v v' : Value} (h : VRel P β v v') : LRel P β (yv v) v'.cells.toList := by
 cases h with
 | agg hl => exact hl
 | _ => exact .cons (by constructor <;> assumption) .nil
theorem VRel.oneCell {v v' : Value} (h : VRel P β v v') : v'.oneCell' = plainCell v := by
 cases h <;> rfl
theorem LRel.oneCell {l l' : List Value} (h : LRel P β l l') (ha : l.all plainCell = true) : ∀ v ∈ l', v.oneCell' = true := by
 induction l generalizing l' with
 | nil => cases h; simp
 | cons x l ih =>
  cases h with
  | cons h hl =>
   simp only [List.all_cons, Bool.and_eq_true] at ha
   intro v hv
   simp only [List.mem_cons] at hv
   rcases hv with rfl | hv
   ·rw [h.oneCell]; exact ha.1
   ·exact ih hl ha.2 v hv
theorem setCells_heap (b : Nat) : ∀ (vs : List Value) (o : Nat) (w : World) (c : Array Value) (e : TypeId) (fz : Nat × Nat), w.heap[b]? = some (.cells c e fz) → o + vs.length ≤ c.size →
  ∃ c', (w.setCells b o vs).heap[b]? = some (.cells c' e fz) ∧ c'.size = c.size ∧ (∀ i, i < o ∨ o + vs.length ≤ i → c'[i]? = c[i]?) ∧ (∀ (j : Nat) (v : Value), vs[j]? = some v → c'[o + j]? = some v)
 | [], o, w, c, e, fz, h, _ => ⟨c, h, rfl, fun _ _ => rfl, by simp⟩
 | v :: r, o, w, c, e, fz, h, hl => by
  have h1 : (w.setCell ⟨b, o, none⟩ v).heap[b]? = some (.cells (c.setIfInBounds o v) e fz) := by simp [World.setCell, Array.getElem?_modify, h]
  obtain ⟨c', g1, g2, g3, g4⟩ := setCells_heap b r (o + 1) (w.setCell ⟨b, o, none⟩ v) _ e fz h1 (by simp at hl ⊢; omega)
  refine ⟨c', g1, by simpa using g2, fun i hi => ?_, fun j x hj => ?_⟩
  ·rw [g3 i (by simp at hi; omega), Array.getElem?_setIfInBounds_ne (by simp at hi; omega)]
  ·cases j with
   | zero =>
    simp at hj; subst hj
    rw [Nat.add_zero, g3 o (by omega)]
    simp only [List.length_cons] at hl
    rw [Array.getElem?_setIfInBounds_self_of_lt (by omega)]
   | succ j =>
    have := g4 j x (by simpa using hj)
    rw [show o + (j + 1) = o + 1 + j by omega]; exact this
theorem setCells_other (b : Nat) : ∀ (vs : List Value) (o : Nat) (w : World), (w.setCells b o vs).heap.size = w.heap.size ∧ (∀ r, r ≠ b → (w.setCells b o vs).heap[r]? = w.heap[r]?) ∧
  (w.setCells b o vs).os = w.os ∧ (w.setCells b o vs).output = w.output ∧ (w.setCells b o vs).tape = w.tape
 | [], _, _ => ⟨rfl, fun _ _ => rfl, rfl, rfl, rfl⟩
 | v :: r, o, w => by
  obtain ⟨h1, h2, h3, h4, h5⟩ := setCells_other b r (o + 1) (w.setCell ⟨b, o, none⟩ v)
  refine ⟨by simpa [World.setCells, World.setCell] using h1, fun q hq => ?_, h3, h4, h5⟩
  have := h2 q hq
  simpa [World.setCells, World.setCell, Array.getElem?_modify, Ne.symm hq] using this
theorem yF (h : Rel P β s w) {b off : Nat} {m : Img} {vs vs' : List Value} (hb : β b = some m) (hvs : LRel P β vs vs') {s' : St} {n : Next}
  (hst : xF b off vs s = .ok n s') : n = .skip ∧ ∃ w', (storeCells ⟨m.blk, off + m.sh, none⟩ vs').run P w = .ok () w' ∧ Ext P β s w β s' w' := by
 unfold xF at hst
 split at hst
 ·rename_i c e hg
  split at hst
  ·rename_i c₁ hmay hp
   cases hst
   simp only [Bool.and_eq_true] at hmay
   obtain ⟨he, c', e', fz, ho, hsz, hfz, hc⟩ := h.row hb hg
   obtain ⟨hlen, rfl⟩ := lput_spec _ _ _ _ hp
   have hl' := hvs.length
   have hin : vs.length = 0 ∨ off + m.sh + vs.length ≤ c'.size := by
    cases hvl : vs.length with
    | zero => exact .inl rfl
    | succ q =>
     right
     have hlt : off + q < c.length := by omega
     obtain ⟨v', hv', _⟩ := hc (off + q) c[off + q] (by simp [hlt])
     rcases Nat.lt_or_ge (off + q + m.sh) c'.size with hh | hh
     ·omega
     ·rw [Array.getElem?_eq_none hh] at hv'; cases hv'
   rcases hin with hz | hin
   ·have e0 : vs = [] := List.length_eq_zero_iff.1 hz
    subst e0
    cases hvs
    refine ⟨rfl, w, rfl, ?_⟩
    refine Ext.write h hb hmay.2 hg _ rfl (fun _ _ => rfl) ⟨_, ho, ?_⟩ rfl rfl rfl
    refine .cells he hsz (by simpa using hfz.1) hfz.2 ?_
    simpa using hc
   have hrun := run_storeCells_cells (P := P) m.blk (off + m.sh) vs' 0 w (fun j hj => by
     simp only [World.cell?, ho, Nat.add_zero]
     have : off + m.sh + j < c'.size := by omega
     simp [this])
    (fun j hj => by
     simp only [World.frozen?, ho, Nat.add_zero]
     have h1 := hfz.2 (off + m.sh + j) (by omega) (by have := hfz.1; omega)
     simp only [Bool.and_eq_false_iff, decide_eq_false_iff_not]
     by_cases h2 : fz.1 ≤ off + m.sh + j
     ·exact .inr fun h3 => h1 ⟨h2, h3⟩
     ·exact .inl h2)
    (hvs.oneCell hmay.1)
   rw [Nat.add_zero] at hrun
   obtain ⟨c₂, g1, g2, g3, g4⟩ := setCells_heap m.blk vs' (off + m.sh) w c' e' fz ho (by omega)
   obtain ⟨k1, k2, k3, k4, k5⟩ := setCells_other m.blk vs' (off + m.sh) w
   refine ⟨rfl, _, hrun, Ext.write h hb hmay.2 hg _ k1 k2 ⟨_, g1, ?_⟩ k3 k4 k5⟩
   refine .cells he (by omega) (by have := hfz.1; simp only [List.length_append, List.length_take, List.length_drop]; omega) hfz.2 fun i v hv => ?_
   rw [List.append_assoc, List.getElem?_append] at hv
   split at hv
   ·rename_i hlt
    simp only [List.length_take] at hlt
    rw [List.getElem?_take_of_lt (by omega)] at hv
    obtain ⟨v', hv', hr⟩ := hc i v hv
    exact ⟨v', by rw [g3 _ (by omega)]; exact hv', hr⟩
   ·rename_i hge
    simp only [List.length_take] at hge hv
    rw [List.getElem?_append] at hv
    split at hv
    ·obtain ⟨v', hv', hr⟩ := hvs.get hv
     refine ⟨v', ?_, hr⟩
     have := g4 _ v' hv'
     rw [show i + m.sh = off + m.sh + (i - min off c.length) by omega]
     exact this
    ·rename_i hge2
     rw [List.getElem?_drop] at hv
     obtain ⟨v', hv', hr⟩ := hc i v (by rw [← hv]; congr 1; omega)
     exact ⟨v', by rw [g3 _ (by omega)]; exact hv', hr⟩
  ·split at hst
   ·cases hst
    cases hvs
    exact ⟨rfl, w, rfl, Ext.refl h⟩
   ·cases hst
 ·cases hst
theorem store_sound (h : Rel P β s w) {t : TypeId} {x x' v v' : Value} (hx : VRel P β x x') (hv : VRel P β v v') :
  OpS P β s w (storeM P t x v s) ((Instr.storeAt t x' v' >>= fun _ => pure Next.skip).run P w) := by
 unfold storeM
 split
 ·rename_i b off i hi
  split
  ·rename_i hsz
   cases hx with
   | ptr hb =>
    cases hst : xF b off (yv v) s with
    | stuck => exact .stuck
    | panic u s' =>
     exfalso
     unfold xF at hst
     repeat' split at hst
     all_goals cases hst
    | ok n s' =>
     intro _
     obtain ⟨rfl, w', h1, h2⟩ := yF h hb hv.cells hst
     refine ⟨β, w', .skip, ?_, h2, rfl⟩
     have hlen : v'.cells.size = i.size := by
      have := hv.cells.length
      rw [Array.length_toList] at this
      rw [this]
      have e := Nat.eq_of_beq_eq_true hsz
      rw [y9] at e
      omega
     simp [Instr.storeAt, Instr.sureAddr, storeVar, yc hi, hlen, h1]
  ·exact .stuck
 ·exact .stuck
end
end Go.M
