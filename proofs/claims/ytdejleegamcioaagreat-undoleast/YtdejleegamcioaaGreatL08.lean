/- What is computed with frames that are functions, the abstract machine computes. -/
/- What code comes to, whatever the fuel: rules for proofs about every argument. -/
import Derived.Test.YtdejleegamcioaaGreatL07
namespace Go.M

section
variable {P : Program} {ρ ρ' : Operand → Value} {s : St}

theorem mapL_congr {l : List Operand} (h : ∀ x ∈ l, ρ x = ρ' x) : mapL ρ l = mapL ρ' l := by
  induction l with
  | nil => rfl
  | cons x l ih => simp only [mapL]; rw [h x (by simp), ih fun y hy => h y (by simp [hy])]

theorem fillL_congr {place : Nat → Option (Nat × Nat)} : ∀ {l : List (Nat × Operand)} {c : List Value}, (∀ p ∈ l, ρ p.2 = ρ' p.2) → fillL place ρ l c = fillL place ρ' l c
  | [], _, _ => rfl
  | (i, x) :: l, c, h => by
    have e : ∀ c, fillL place ρ l c = fillL place ρ' l c := fun c => fillL_congr fun p hp => h p (List.mem_cons_of_mem _ hp)
    have hx : ρ x = ρ' x := h (i, x) (by simp)
    simp only [fillL, e, hx]

theorem optMap_congr {o : Option Operand} (h : ∀ x, o = some x → ρ x = ρ' x) : o.map ρ = o.map ρ' := by
  cases o with
  | none => rfl
  | some x => simp [h x rfl]

theorem stepM_congr (o : Op) (h : ∀ x ∈ o.operands.toList, ρ x = ρ' x) : stepM P ρ o s = stepM P ρ' o s := by
  cases o with
  | move x => simp only [stepM]; rw [h x (by simp [Op.operands])]
  | assign x => simp only [stepM]; rw [h x (by simp [Op.operands])]
  | pick c a b => simp only [stepM]; rw [h c (by simp [Op.operands]), h a (by simp [Op.operands]), h b (by simp [Op.operands])]
  | load t a => simp only [stepM]; rw [h a (by simp [Op.operands])]
  | store t a v => simp only [stepM]; rw [h a (by simp [Op.operands]), h v (by simp [Op.operands])]
  | box e x => simp only [stepM]; rw [h x (by simp [Op.operands])]
  | alloc e => rfl
  | fieldAddr t x f => simp only [stepM]; rw [h x (by simp [Op.operands])]
  | indexAddr t x i => simp only [stepM]; rw [h x (by simp [Op.operands]), h i (by simp [Op.operands])]
  | binOp op t x y yt => simp only [stepM]; rw [h x (by simp [Op.operands]), h y (by simp [Op.operands])]
  | unOp op t x => simp only [stepM]; rw [h x (by simp [Op.operands])]
  | extract x i => simp only [stepM]; rw [h x (by simp [Op.operands])]
  | nilCheck x => simp only [stepM]; rw [h x (by simp [Op.operands])]
  | convert src dst x => simp only [stepM]; rw [h x (by simp [Op.operands])]
  | makeInterface t x => simp only [stepM]; rw [h x (by simp [Op.operands])]
  | makeFunc fn first captured =>
    simp only [stepM]
    rw [mapL_congr (l := first.toList) fun x hx => h x (by simp [Op.operands]; exact .inl (by simpa using hx)), mapL_congr (l := captured.toList) fun x hx => h x (by simp [Op.operands]; exact .inr (by simpa using hx))]
  | makeMap t r => cases r <;> rfl
  | slice t x lo hi mx =>
    simp only [stepM]
    rw [h x (by simp [Op.operands]), optMap_congr (o := lo) fun x hx => h x (by simp [Op.operands, hx]), optMap_congr (o := hi) fun x hx => h x (by simp [Op.operands, hx]), optMap_congr (o := mx) fun x hx => h x (by simp [Op.operands, hx])]
  | field t x f => simp only [stepM]; rw [h x (by simp [Op.operands])]
  | index t x i => simp only [stepM]; rw [h x (by simp [Op.operands]), h i (by simp [Op.operands])]
  | panic x => simp only [stepM]; rw [h x (by simp [Op.operands])]
  | call c =>
    obtain ⟨callee, args, argTypes⟩ := c
    cases callee with
    | value f =>
      simp only [stepM]
      rw [h f (by simp [Op.operands, Call.operands]), mapL_congr (l := args.toList) fun x hx => h x (by simp [Op.operands, Call.operands]; exact .inr (by simpa using hx))]
    | builtin b =>
      simp only [stepM]
      rw [mapL_congr (l := args.toList) fun x hx => h x (by simp [Op.operands, Call.operands]; simpa using hx)]
    | invoke r m => rfl
  | build t parts =>
    have hp : ∀ p ∈ parts.toList, ρ p.2 = ρ' p.2 := fun p hp => h p.2 (by simp [Op.operands]; exact ⟨p.1, by simpa using hp⟩)
    simp only [stepM, buildM]
    have e : ∀ place c, fillL place ρ parts.toList c = fillL place ρ' parts.toList c := fun place c => fillL_congr hp
    simp only [e]
  | buildSlice t len parts =>
    have hp : ∀ p ∈ parts.toList, ρ p.2 = ρ' p.2 := fun p hp => h p.2 (by simp [Op.operands]; exact ⟨p.1, by simpa using hp⟩)
    simp only [stepM, buildSliceM]
    have e : ∀ place c, fillL place ρ parts.toList c = fillL place ρ' parts.toList c := fun place c => fillL_congr hp
    simp only [e]
  | makeSlice t l c => simp only [stepM]; rw [h l (by simp [Op.operands]), h c (by simp [Op.operands])]
  | lookup t x i ok => simp only [stepM]; rw [h x (by simp [Op.operands]), h i (by simp [Op.operands])]
  | mapUpdate t m k x => simp only [stepM]; rw [h m (by simp [Op.operands]), h k (by simp [Op.operands]), h x (by simp [Op.operands])]
  | insert t m k x => simp only [stepM]; rw [h m (by simp [Op.operands]), h k (by simp [Op.operands]), h x (by simp [Op.operands])]
  | _ => rfl
end

/-- The machine's outcome is the other's. -/
def SimOut (N : Nat) : FOut → Out → Prop
  | .normal F s, .normal a s' => s' = s ∧ Agrees N F a
  | .exit id F s, .exit id' a s' => id' = id ∧ s' = s ∧ Agrees N F a
  | .ret F s, .ret a s' => s' = s ∧ Agrees N F a
  | .stuck, _ => True
  | _, _ => False

section
variable {P : Program} {call : FuncId → Array Value → St → CallOut} {N : Nat}

theorem wanted_sim {ops : List Oper} {F : FF} {a : Fr} {o : Oper} (h : Agrees N F a) (hg : guardN N ops o = true) : wantedM ops a o = wantedF ops F o := by
  unfold wantedM wantedF
  unfold guardN at hg
  cases hgu : o.guard with
  | none => rfl
  | some g =>
    rw [hgu] at hg
    simp only at hg ⊢
    cases hq : lget ops g.1 with
    | none => rfl
    | some q =>
      rw [hq] at hg
      simp only at hg ⊢
      cases hd : q.dst with
      | none => rfl
      | some d =>
        rw [hd] at hg
        simp only at hg ⊢
        rw [h.get d (Nat.le_of_ble_eq_true hg)]
        rfl

theorem op_sim {F : FF} {a : Fr} {o : Oper} {s : St} (h : Agrees N F a) (ho : o.op.operands.toList.all (tmpB N) = true) : SimOut N (opF P call o F s) (opM P call o a s) := by
  have e : stepM P a.eval o.op s = stepM P (evalF F) o.op s := stepM_congr o.op fun x hx => h.eval (by rw [List.all_eq_true] at ho; exact ho x hx)
  unfold opF opM
  rw [e]
  cases stepM P (evalF F) o.op s with
  | stuck => trivial
  | panic v s => trivial
  | ok n s =>
    cases n with
    | value v => exact ⟨rfl, h.put _ _⟩
    | skip => exact ⟨rfl, h.put _ _⟩
    | enter f args =>
      simp only
      cases call f args s with
      | ret v s => exact ⟨rfl, h.put _ _⟩
      | panic c s => trivial
      | stuck => trivial
    | _ => trivial

theorem ops_sim (ops : List Oper) : ∀ (l : List Oper) (F : FF) (a : Fr) (s : St), (l.all fun o => o.op.operands.toList.all (tmpB N) && guardN N ops o) = true → Agrees N F a → SimOut N (opsF P call ops l F s) (opsM P call ops l a s)
  | [], F, a, s, _, h => ⟨rfl, h⟩
  | o :: l, F, a, s, hl, h => by
    simp only [List.all_cons, Bool.and_eq_true] at hl
    have hl2 : (l.all fun o => o.op.operands.toList.all (tmpB N) && guardN N ops o) = true := by simpa using hl.2
    simp only [opsF, opsM]
    rw [wanted_sim h hl.1.2]
    cases wantedF ops F o with
    | false => exact ops_sim ops l _ _ s hl2 (h.put _ _)
    | true =>
      have h1 := op_sim (P := P) (call := call) (s := s) h hl.1.1
      simp only
      cases hf : opF P call o F s with
      | normal F₁ s₁ =>
        rw [hf] at h1
        cases hm : opM P call o a s with
        | normal a₁ s₂ =>
          rw [hm] at h1
          obtain ⟨rfl, h2⟩ := h1
          exact ops_sim ops l F₁ a₁ _ hl2 h2
        | _ => rw [hm] at h1; exact h1.elim
      | _ => trivial

theorem block_sim {F : FF} {a : Fr} {o : Oper} (h : Agrees N F a) (ho : o.op.operands.toList.all (tmpB N) = true) : blockOf a o = blockOfF F o := by
  unfold blockOf blockOfF
  cases hop : o.op with
  | load t x =>
    simp only
    rw [h.eval (by rw [List.all_eq_true] at ho; exact ho x (by rw [hop]; simp [Op.operands]))]
    rfl
  | _ => rfl

theorem blocks_sim {ops : List Oper} {F : FF} {a : Fr} (h : Agrees N F a) (ho : ∀ o ∈ ops, o.op.operands.toList.all (tmpB N) = true) : ∀ l, blocksOf ops a l = blocksOfF ops F l
  | [] => rfl
  | i :: l => by
    simp only [blocksOf, blocksOfF]
    cases hg : lget ops i with
    | none => exact blocks_sim h ho l
    | some o =>
      simp only
      rw [block_sim h (ho o (by rw [lget_eq] at hg; exact List.mem_of_getElem? hg)), blocks_sim h ho l]
      rfl

theorem drawOp_sim {ops : List Oper} (ho : ∀ o ∈ ops, o.op.operands.toList.all (tmpB N) = true ∧ guardN N ops o = true) {d : Drawn} {o : Oper} (hmem : o ∈ ops) {F : FF} {a : Fr} {s : St} (h : Agrees N F a) :
    SimOut N (drawOpF P call ops d o F s) (drawOp P call ops d o a s) := by
  unfold drawOpF drawOp
  rw [wanted_sim h (ho o hmem).2]
  cases wantedF ops F o with
  | false => exact ⟨rfl, h.put _ _⟩
  | true =>
    simp only
    cases d.how with
    | light =>
      simp only
      rw [block_sim h (ho o hmem).1]
      have h1 := op_sim (P := P) (call := call) (s := { next := s.next, bar := s.next, prot := [], heap := only s (blockOfF F o) }) h (ho o hmem).1
      cases hf : opF P call o F { next := s.next, bar := s.next, prot := [], heap := only s (blockOfF F o) } with
      | normal F₁ s₁ =>
        rw [hf] at h1
        cases hm : opM P call o a { next := s.next, bar := s.next, prot := [], heap := only s (blockOfF F o) } with
        | normal a₁ s₂ =>
          rw [hm] at h1
          obtain ⟨rfl, h2⟩ := h1
          simp only
          cases Nat.beq s₂.next s.next with
          | true => exact ⟨rfl, h2⟩
          | false => trivial
        | _ => rw [hm] at h1; exact h1.elim
      | _ => trivial
    | whole =>
      simp only
      rw [blocks_sim h (fun o hm => (ho o hm).1)]
      have h1 := op_sim (P := P) (call := call) (s := { s with prot := blocksOfF ops F d.free ++ s.prot }) h (ho o hmem).1
      cases hf : opF P call o F { s with prot := blocksOfF ops F d.free ++ s.prot } with
      | normal F₁ s₁ =>
        rw [hf] at h1
        cases hm : opM P call o a { s with prot := blocksOfF ops F d.free ++ s.prot } with
        | normal a₁ s₂ =>
          rw [hm] at h1
          obtain ⟨rfl, h2⟩ := h1
          exact ⟨rfl, h2⟩
        | _ => rw [hm] at h1; exact h1.elim
      | _ => trivial
    | fresh =>
      simp only
      have h1 := op_sim (P := P) (call := call) (s := { s with bar := s.next }) h (ho o hmem).1
      cases hf : opF P call o F { s with bar := s.next } with
      | normal F₁ s₁ =>
        rw [hf] at h1
        cases hm : opM P call o a { s with bar := s.next } with
        | normal a₁ s₂ =>
          rw [hm] at h1
          obtain ⟨rfl, h2⟩ := h1
          exact ⟨rfl, h2⟩
        | _ => rw [hm] at h1; exact h1.elim
      | _ => trivial

theorem draw_sim {ops : List Oper} (ho : ∀ o ∈ ops, o.op.operands.toList.all (tmpB N) = true ∧ guardN N ops o = true) : ∀ (l : List Drawn) (F : FF) (a : Fr) (s : St), Agrees N F a → SimOut N (drawF P call ops l F s) (drawM P call ops l a s)
  | [], F, a, s, h => ⟨rfl, h⟩
  | d :: l, F, a, s, h => by
    simp only [drawF, drawM]
    cases hg : lget ops d.ix with
    | none => trivial
    | some o =>
      simp only
      have h1 := drawOp_sim (P := P) (call := call) ho (d := d) (o := o) (by rw [lget_eq] at hg; exact List.mem_of_getElem? hg) (s := s) h
      cases hf : drawOpF P call ops d o F s with
      | normal F₁ s₁ =>
        rw [hf] at h1
        cases hm : drawOp P call ops d o a s with
        | normal a₁ s₂ =>
          rw [hm] at h1
          obtain ⟨rfl, h2⟩ := h1
          exact draw_sim ho l F₁ a₁ _ h2
        | _ => rw [hm] at h1; exact h1.elim
      | _ => trivial

theorem code_sim {I : Table} : ∀ (n : Nat) (c : Code) (F : FF) (a : Fr) (s : St), codeN N c = true → Agrees N F a → SimOut N (codeF P I n c F s) (codeM P I n c a s)
  | 0, _, _, _, _, _, _ => trivial
  | n + 1, c, F, a, s, hc, h => by
    cases c with
    | skip => exact ⟨rfl, h⟩
    | label _ => exact ⟨rfl, h⟩
    | exit id => exact ⟨rfl, rfl, h⟩
    | ret => exact ⟨rfl, h⟩
    | seq x y =>
      simp only [codeN, Bool.and_eq_true] at hc
      have h1 := code_sim (I := I) n x F a s hc.1 h
      simp only [codeF, codeM]
      cases hf : codeF P I n x F s with
      | normal F₁ s₁ =>
        rw [hf] at h1
        cases hm : codeM P I n x a s with
        | normal a₁ s₂ =>
          rw [hm] at h1
          obtain ⟨rfl, h2⟩ := h1
          exact code_sim n y F₁ a₁ _ hc.2 h2
        | _ => rw [hm] at h1; exact h1.elim
      | exit id F₁ s₁ =>
        rw [hf] at h1
        cases hm : codeM P I n x a s with
        | exit id' a₁ s₂ => rw [hm] at h1; exact h1
        | _ => rw [hm] at h1; exact h1.elim
      | ret F₁ s₁ =>
        rw [hf] at h1
        cases hm : codeM P I n x a s with
        | ret a₁ s₂ => rw [hm] at h1; exact h1
        | _ => rw [hm] at h1; exact h1.elim
      | stuck => trivial
    | cond x y z =>
      simp only [codeN, Bool.and_eq_true] at hc
      simp only [codeF, codeM]
      rw [h.eval hc.1.1]
      cases evalF F x with
      | bool b => cases b with
        | true => exact code_sim n y F a s hc.1.2 h
        | false => exact code_sim n z F a s hc.2 h
      | _ => trivial
    | block id b =>
      simp only [codeN] at hc
      have h1 := code_sim (I := I) n b F a s hc h
      simp only [codeF, codeM]
      cases hf : codeF P I n b F s with
      | normal F₁ s₁ =>
        rw [hf] at h1
        cases hm : codeM P I n b a s with
        | normal a₁ s₂ => rw [hm] at h1; exact h1
        | _ => rw [hm] at h1; exact h1.elim
      | exit id₁ F₁ s₁ =>
        rw [hf] at h1
        cases hm : codeM P I n b a s with
        | exit id' a₁ s₂ =>
          rw [hm] at h1
          obtain ⟨rfl, rfl, h2⟩ := h1
          simp only
          cases Nat.beq id' id with
          | true => exact ⟨rfl, h2⟩
          | false => exact ⟨rfl, rfl, h2⟩
        | _ => rw [hm] at h1; exact h1.elim
      | ret F₁ s₁ =>
        rw [hf] at h1
        cases hm : codeM P I n b a s with
        | ret a₁ s₂ => rw [hm] at h1; exact h1
        | _ => rw [hm] at h1; exact h1.elim
      | stuck => trivial
    | loop b =>
      simp only [codeN] at hc
      have h1 := code_sim (I := I) n b F a s hc h
      simp only [codeF, codeM]
      cases hf : codeF P I n b F s with
      | normal F₁ s₁ =>
        rw [hf] at h1
        cases hm : codeM P I n b a s with
        | normal a₁ s₂ =>
          rw [hm] at h1
          obtain ⟨rfl, h2⟩ := h1
          exact code_sim n (.loop b) F₁ a₁ _ (by simpa only [codeN] using hc) h2
        | _ => rw [hm] at h1; exact h1.elim
      | exit id F₁ s₁ =>
        rw [hf] at h1
        cases hm : codeM P I n b a s with
        | exit id' a₁ s₂ => rw [hm] at h1; exact h1
        | _ => rw [hm] at h1; exact h1.elim
      | ret F₁ s₁ =>
        rw [hf] at h1
        cases hm : codeM P I n b a s with
        | ret a₁ s₂ => rw [hm] at h1; exact h1
        | _ => rw [hm] at h1; exact h1.elim
      | stuck => trivial
    | region id ops draw =>
      simp only [codeN] at hc
      simp only [codeF, codeM]
      cases draw with
      | false => exact ops_sim ops.toList ops.toList F a s hc h
      | true =>
        simp only
        cases planB ops.toList (plan ops.toList) with
        | false => trivial
        | true =>
          refine draw_sim (fun o ho => ?_) _ F a s h
          unfold opsN at hc
          rw [List.all_eq_true] at hc
          simpa using hc o ho
    | _ => trivial
end
end Go.M
namespace Go.M
section
variable (P : Program) (I : Table)

/-- A call returns, with whatever fuel that is great enough. -/
def Rets (f : FuncId) (args : Array Value) (s : St) (v : Value) (s' : St) : Prop := ∃ n, ∀ m, n ≤ m → callM P I m f args s = .ret v s'

def OpW (o : Oper) (F : FF) (s : St) (Q : FF → St → Prop) : Prop :=
  ∃ F' s', Q F' s' ∧ ∃ n, ∀ m, n ≤ m → opF P (callM P I m) o F s = .normal F' s'
def OpsW (ops l : List Oper) (F : FF) (s : St) (Q : FF → St → Prop) : Prop :=
  ∃ F' s', Q F' s' ∧ ∃ n, ∀ m, n ≤ m → opsF P (callM P I m) ops l F s = .normal F' s'
def DrawW (ops : List Oper) (l : List Drawn) (F : FF) (s : St) (Q : FF → St → Prop) : Prop :=
  ∃ F' s', Q F' s' ∧ ∃ n, ∀ m, n ≤ m → drawF P (callM P I m) ops l F s = .normal F' s'
def CodeW (c : Code) (F : FF) (s : St) (Q : FOut → Prop) : Prop :=
  ∃ o, Q o ∧ ∃ n, ∀ m, n ≤ m → codeF P I m c F s = o
end

section
variable {P : Program} {I : Table}

theorem OpW.mono {o : Oper} {F : FF} {s : St} {Q Q' : FF → St → Prop} (h : OpW P I o F s Q) (hq : ∀ F s, Q F s → Q' F s) : OpW P I o F s Q' := by
  obtain ⟨F', s', h1, h2⟩ := h
  exact ⟨F', s', hq _ _ h1, h2⟩
theorem OpsW.mono {ops l : List Oper} {F : FF} {s : St} {Q Q' : FF → St → Prop} (h : OpsW P I ops l F s Q) (hq : ∀ F s, Q F s → Q' F s) : OpsW P I ops l F s Q' := by
  obtain ⟨F', s', h1, h2⟩ := h
  exact ⟨F', s', hq _ _ h1, h2⟩
theorem CodeW.mono {c : Code} {F : FF} {s : St} {Q Q' : FOut → Prop} (h : CodeW P I c F s Q) (hq : ∀ o, Q o → Q' o) : CodeW P I c F s Q' := by
  obtain ⟨o, h1, h2⟩ := h
  exact ⟨o, hq _ h1, h2⟩

/-! ### Lists of operations -/

theorem ops_nil {ops : List Oper} {F : FF} {s : St} {Q : FF → St → Prop} (h : Q F s) : OpsW P I ops [] F s Q := ⟨F, s, h, 0, fun _ _ => rfl⟩

theorem oO {ops : List Oper} {o : Oper} {rest : List Oper} {F : FF} {s : St} {Q : FF → St → Prop} (hw : wantedF ops F o = true)
    (h : OpW P I o F s fun F s => OpsW P I ops rest F s Q) : OpsW P I ops (o :: rest) F s Q := by
  obtain ⟨F₁, s₁, ⟨F₂, s₂, hq, n₂, h2⟩, n₁, h1⟩ := h
  refine ⟨F₂, s₂, hq, n₁ + n₂, fun m hm => ?_⟩
  simp only [opsF, hw, h1 m (by omega)]
  exact h2 m (by omega)

theorem oF {ops : List Oper} {o : Oper} {rest : List Oper} {F : FF} {s : St} {Q : FF → St → Prop} (hw : wantedF ops F o = false)
    (h : OpsW P I ops rest (upd F o.dst undef) s Q) : OpsW P I ops (o :: rest) F s Q := by
  obtain ⟨F₂, s₂, hq, n₂, h2⟩ := h
  refine ⟨F₂, s₂, hq, n₂, fun m hm => ?_⟩
  simp only [opsF, hw]
  exact h2 m (by omega)

/-! ### Drawn regions -/

theorem draw_nil {ops : List Oper} {F : FF} {s : St} {Q : FF → St → Prop} (h : Q F s) : DrawW P I ops [] F s Q := ⟨F, s, h, 0, fun _ _ => rfl⟩

theorem draw_off {ops : List Oper} {d : Drawn} {o : Oper} {rest : List Drawn} {F : FF} {s : St} {Q : FF → St → Prop} (hg : lget ops d.ix = some o) (hw : wantedF ops F o = false)
    (h : DrawW P I ops rest (upd F o.dst undef) s Q) : DrawW P I ops (d :: rest) F s Q := by
  obtain ⟨F₂, s₂, hq, n₂, h2⟩ := h
  refine ⟨F₂, s₂, hq, n₂, fun m hm => ?_⟩
  simp only [drawF, hg, drawOpF, hw]
  exact h2 m (by omega)

theorem dL {ops : List Oper} {ix anc : Nat} {free : List Nat} {o : Oper} {rest : List Drawn} {F : FF} {s : St} {Q : FF → St → Prop} (hg : lget ops ix = some o) (hw : wantedF ops F o = true)
    (h : OpW P I o F { next := s.next, bar := s.next, prot := [], heap := only s (blockOfF F o) } fun F' s' => s'.next = s.next ∧ DrawW P I ops rest F' s Q) :
    DrawW P I ops (⟨ix, anc, .light, free⟩ :: rest) F s Q := by
  obtain ⟨F₁, s₁, ⟨hn, F₂, s₂, hq, n₂, h2⟩, n₁, h1⟩ := h
  refine ⟨F₂, s₂, hq, n₁ + n₂, fun m hm => ?_⟩
  have hb : Nat.beq s₁.next s.next = true := by rw [hn]; exact Nat.beq_refl _
  simp only [drawF, hg, drawOpF, hw, h1 m (by omega), hb]
  exact h2 m (by omega)

theorem dW {ops : List Oper} {ix anc : Nat} {free : List Nat} {o : Oper} {rest : List Drawn} {F : FF} {s : St} {Q : FF → St → Prop} (hg : lget ops ix = some o) (hw : wantedF ops F o = true)
    (h : OpW P I o F { s with prot := blocksOfF ops F free ++ s.prot } fun F' s' => DrawW P I ops rest F' { next := s'.next, bar := s.bar, prot := s.prot, heap := s'.heap } Q) :
    DrawW P I ops (⟨ix, anc, .whole, free⟩ :: rest) F s Q := by
  obtain ⟨F₁, s₁, ⟨F₂, s₂, hq, n₂, h2⟩, n₁, h1⟩ := h
  refine ⟨F₂, s₂, hq, n₁ + n₂, fun m hm => ?_⟩
  simp only [drawF, hg, drawOpF, hw, h1 m (by omega)]
  exact h2 m (by omega)

theorem draw_fresh {ops : List Oper} {ix anc : Nat} {free : List Nat} {o : Oper} {rest : List Drawn} {F : FF} {s : St} {Q : FF → St → Prop} (hg : lget ops ix = some o) (hw : wantedF ops F o = true)
    (h : OpW P I o F { s with bar := s.next } fun F' s' => DrawW P I ops rest F' { next := s'.next, bar := s.bar, prot := s.prot, heap := s'.heap } Q) :
    DrawW P I ops (⟨ix, anc, .fresh, free⟩ :: rest) F s Q := by
  obtain ⟨F₁, s₁, ⟨F₂, s₂, hq, n₂, h2⟩, n₁, h1⟩ := h
  refine ⟨F₂, s₂, hq, n₁ + n₂, fun m hm => ?_⟩
  simp only [drawF, hg, drawOpF, hw, h1 m (by omega)]
  exact h2 m (by omega)

/-! ### Code -/

/-- What is asked behind the first of two. -/
def seqQ (P : Program) (I : Table) (y : Code) (Q : FOut → Prop) : FOut → Prop
  | .normal F s => CodeW P I y F s Q
  | o => Q o
def blockQ (id : Nat) (Q : FOut → Prop) : FOut → Prop
  | .exit i F s => match Nat.beq i id with
    | true => Q (.normal F s)
    | false => Q (.exit i F s)
  | o => Q o

theorem cw_skip {F : FF} {s : St} {Q : FOut → Prop} (h : Q (.normal F s)) : CodeW P I .skip F s Q := by
  refine ⟨_, h, 1, fun m hm => ?_⟩
  obtain ⟨m, rfl⟩ : ∃ k, m = k + 1 := ⟨m - 1, by omega⟩
  rfl
theorem cw_exit {id : Nat} {F : FF} {s : St} {Q : FOut → Prop} (h : Q (.exit id F s)) : CodeW P I (.exit id) F s Q := by
  refine ⟨_, h, 1, fun m hm => ?_⟩
  obtain ⟨m, rfl⟩ : ∃ k, m = k + 1 := ⟨m - 1, by omega⟩
  rfl
theorem cw_ret {F : FF} {s : St} {Q : FOut → Prop} (h : Q (.ret F s)) : CodeW P I .ret F s Q := by
  refine ⟨_, h, 1, fun m hm => ?_⟩
  obtain ⟨m, rfl⟩ : ∃ k, m = k + 1 := ⟨m - 1, by omega⟩
  rfl

theorem cw_seq {x y : Code} {F : FF} {s : St} {Q : FOut → Prop} (h : CodeW P I x F s (seqQ P I y Q)) : CodeW P I (.seq x y) F s Q := by
  obtain ⟨o, hq, n, hn⟩ := h
  cases o with
  | normal F₁ s₁ =>
    obtain ⟨o₂, hq2, n₂, hn2⟩ := hq
    refine ⟨o₂, hq2, n + n₂ + 1, fun m hm => ?_⟩
    obtain ⟨m, rfl⟩ : ∃ k, m = k + 1 := ⟨m - 1, by omega⟩
    simp only [codeF, hn m (by omega)]
    exact hn2 m (by omega)
  | exit i F₁ s₁ =>
    refine ⟨_, hq, n + 1, fun m hm => ?_⟩
    obtain ⟨m, rfl⟩ : ∃ k, m = k + 1 := ⟨m - 1, by omega⟩
    simp only [codeF, hn m (by omega)]
  | ret F₁ s₁ =>
    refine ⟨_, hq, n + 1, fun m hm => ?_⟩
    obtain ⟨m, rfl⟩ : ∃ k, m = k + 1 := ⟨m - 1, by omega⟩
    simp only [codeF, hn m (by omega)]
  | stuck =>
    refine ⟨_, hq, n + 1, fun m hm => ?_⟩
    obtain ⟨m, rfl⟩ : ∃ k, m = k + 1 := ⟨m - 1, by omega⟩
    simp only [codeF, hn m (by omega)]

theorem cT {c : Operand} {x y : Code} {F : FF} {s : St} {Q : FOut → Prop} (hc : evalF F c = .bool true) (h : CodeW P I x F s Q) : CodeW P I (.cond c x y) F s Q := by
  obtain ⟨o, hq, n, hn⟩ := h
  refine ⟨o, hq, n + 1, fun m hm => ?_⟩
  obtain ⟨m, rfl⟩ : ∃ k, m = k + 1 := ⟨m - 1, by omega⟩
  simp only [codeF, hc]
  exact hn m (by omega)
theorem cE {c : Operand} {x y : Code} {F : FF} {s : St} {Q : FOut → Prop} (hc : evalF F c = .bool false) (h : CodeW P I y F s Q) : CodeW P I (.cond c x y) F s Q := by
  obtain ⟨o, hq, n, hn⟩ := h
  refine ⟨o, hq, n + 1, fun m hm => ?_⟩
  obtain ⟨m, rfl⟩ : ∃ k, m = k + 1 := ⟨m - 1, by omega⟩
  simp only [codeF, hc]
  exact hn m (by omega)
theorem cw_cond {b : Bool} {c : Operand} {x y : Code} {F : FF} {s : St} {Q : FOut → Prop} (hc : evalF F c = .bool b) (h1 : b = true → CodeW P I x F s Q) (h2 : b = false → CodeW P I y F s Q) : CodeW P I (.cond c x y) F s Q := by
  cases b with
  | true => exact cT hc (h1 rfl)
  | false => exact cE hc (h2 rfl)

theorem cw_block {id : Nat} {b : Code} {F : FF} {s : St} {Q : FOut → Prop} (h : CodeW P I b F s (blockQ id Q)) : CodeW P I (.block id b) F s Q := by
  obtain ⟨o, hq, n, hn⟩ := h
  cases o with
  | exit i F₁ s₁ =>
    cases hb : Nat.beq i id with
    | true =>
      simp only [blockQ, hb] at hq
      refine ⟨_, hq, n + 1, fun m hm => ?_⟩
      obtain ⟨m, rfl⟩ : ∃ k, m = k + 1 := ⟨m - 1, by omega⟩
      simp only [codeF, hn m (by omega), hb]
    | false =>
      simp only [blockQ, hb] at hq
      refine ⟨_, hq, n + 1, fun m hm => ?_⟩
      obtain ⟨m, rfl⟩ : ∃ k, m = k + 1 := ⟨m - 1, by omega⟩
      simp only [codeF, hn m (by omega), hb]
  | normal F₁ s₁ =>
    refine ⟨_, hq, n + 1, fun m hm => ?_⟩
    obtain ⟨m, rfl⟩ : ∃ k, m = k + 1 := ⟨m - 1, by omega⟩
    simp only [codeF, hn m (by omega)]
  | ret F₁ s₁ =>
    refine ⟨_, hq, n + 1, fun m hm => ?_⟩
    obtain ⟨m, rfl⟩ : ∃ k, m = k + 1 := ⟨m - 1, by omega⟩
    simp only [codeF, hn m (by omega)]
  | stuck =>
    refine ⟨_, hq, n + 1, fun m hm => ?_⟩
    obtain ⟨m, rfl⟩ : ∃ k, m = k + 1 := ⟨m - 1, by omega⟩
    simp only [codeF, hn m (by omega)]

/-- What a round of a loop must come to. -/
def loopQ (Inv : Nat → FF → St → Prop) (k : Nat) (Q : FOut → Prop) : FOut → Prop
  | .normal F s => ∃ k', k' < k ∧ Inv k' F s
  | o => Q o

theorem cw_loop {b : Code} {Q : FOut → Prop} (Inv : Nat → FF → St → Prop) (step : ∀ k F s, Inv k F s → CodeW P I b F s (loopQ Inv k Q)) :
    ∀ (k : Nat) (F : FF) (s : St), Inv k F s → CodeW P I (.loop b) F s Q := by
  intro k
  induction k using Nat.strongRecOn with
  | _ k ih =>
    intro F s hi
    obtain ⟨o, hq, n, hn⟩ := step k F s hi
    cases o with
    | normal F₁ s₁ =>
      obtain ⟨k', hk, hi'⟩ := hq
      obtain ⟨o₂, hq2, n₂, hn2⟩ := ih k' hk F₁ s₁ hi'
      refine ⟨o₂, hq2, n + n₂ + 1, fun m hm => ?_⟩
      obtain ⟨m, rfl⟩ : ∃ k, m = k + 1 := ⟨m - 1, by omega⟩
      simp only [codeF, hn m (by omega)]
      exact hn2 m (by omega)
    | exit i F₁ s₁ =>
      refine ⟨_, hq, n + 1, fun m hm => ?_⟩
      obtain ⟨m, rfl⟩ : ∃ k, m = k + 1 := ⟨m - 1, by omega⟩
      simp only [codeF, hn m (by omega)]
    | ret F₁ s₁ =>
      refine ⟨_, hq, n + 1, fun m hm => ?_⟩
      obtain ⟨m, rfl⟩ : ∃ k, m = k + 1 := ⟨m - 1, by omega⟩
      simp only [codeF, hn m (by omega)]
    | stuck =>
      refine ⟨_, hq, n + 1, fun m hm => ?_⟩
      obtain ⟨m, rfl⟩ : ∃ k, m = k + 1 := ⟨m - 1, by omega⟩
      simp only [codeF, hn m (by omega)]

theorem cG {id : Nat} {ops : Array Oper} {F : FF} {s : St} {Q : FOut → Prop} (h : OpsW P I ops.toList ops.toList F s fun F s => Q (.normal F s)) : CodeW P I (.region id ops false) F s Q := by
  obtain ⟨F₁, s₁, hq, n, hn⟩ := h
  refine ⟨_, hq, n + 1, fun m hm => ?_⟩
  obtain ⟨m, rfl⟩ : ∃ k, m = k + 1 := ⟨m - 1, by omega⟩
  simp only [codeF]
  exact hn m (by omega)

theorem cw_draw {id : Nat} {ops : Array Oper} {F : FF} {s : St} {Q : FOut → Prop} (l : List Drawn) (hb : planB ops.toList (plan ops.toList) = true) (hl : plan ops.toList = l)
    (h : DrawW P I ops.toList l F s fun F s => Q (.normal F s)) : CodeW P I (.region id ops true) F s Q := by
  obtain ⟨F₁, s₁, hq, n, hn⟩ := h
  refine ⟨_, hq, n + 1, fun m hm => ?_⟩
  obtain ⟨m, rfl⟩ : ∃ k, m = k + 1 := ⟨m - 1, by omega⟩
  simp only [codeF, hb]
  rw [hl]
  exact hn m (by omega)

/-- A region with code behind it. -/
theorem cR {id : Nat} {ops : Array Oper} {y : Code} {F : FF} {s : St} {Q : FOut → Prop} (h : OpsW P I ops.toList ops.toList F s fun F s => CodeW P I y F s Q) : CodeW P I (.seq (.region id ops false) y) F s Q :=
  cw_seq (cG h)
theorem cw_dseq {id : Nat} {ops : Array Oper} {y : Code} {F : FF} {s : St} {Q : FOut → Prop} (l : List Drawn) (hb : planB ops.toList (plan ops.toList) = true) (hl : plan ops.toList = l)
    (h : DrawW P I ops.toList l F s fun F s => CodeW P I y F s Q) : CodeW P I (.seq (.region id ops true) y) F s Q :=
  cw_seq (cw_draw l hb hl h)

/-! ### Frames -/

/-- These slots hold these values. -/
def Slots (F : FF) : List (Nat × Value) → Prop
  | [] => True
  | (d, v) :: l => F d = v ∧ Slots F l
def lay (G : FF) : List (Nat × Value) → FF
  | [] => G
  | (d, v) :: l => upd (lay G l) (some d) v

theorem lay_self {F : FF} : ∀ {l : List (Nat × Value)}, Slots F l → lay F l = F
  | [], _ => rfl
  | (d, v) :: l, h => by
    funext t
    simp only [lay, upd_eq, lay_self h.2]
    split
    · next e => rw [e]; exact h.1.symm
    · rfl

theorem slots {F : FF} {l : List (Nat × Value)} (h : Slots F l) : F = lay F l := (lay_self h).symm
theorem cw_frame {c : Code} {F : FF} {s : St} {Q : FOut → Prop} (l : List (Nat × Value)) (h : Slots F l) (k : ∀ G, CodeW P I c (lay G l) s Q) : CodeW P I c F s Q := by
  have := k F
  rwa [lay_self h] at this
theorem ow_frame {ops r : List Oper} {F : FF} {s : St} {Q : FF → St → Prop} (l : List (Nat × Value)) (h : Slots F l) (k : ∀ G, OpsW P I ops r (lay G l) s Q) : OpsW P I ops r F s Q := by
  have := k F
  rwa [lay_self h] at this

/-! ### Calls -/

def fillF : List Value → Nat → FF → FF
  | [], _, F => F
  | v :: l, n, F => fillF l (n + 1) (upd F (some n) v)
def frameOf (args : Array Value) : FF := fillF args.toList 0 fun _ => undef

theorem agrees_fill : ∀ (l : List Value) (n N : Nat) (F : FF) (t : Tr Value), n + l.length ≤ N → Agrees N F ⟨N, t⟩ → Agrees N (fillF l n F) ⟨N, fillT l n t⟩
  | [], _, _, _, _, _, h => h
  | v :: l, n, N, F, t, hn, h => by
    simp only [List.length_cons] at hn
    simp only [fillF, fillT]
    refine agrees_fill l (n + 1) N _ _ (by omega) ?_
    have := h.put (some n) v
    have hb : Nat.blt n N = true := blt_true (by omega)
    simpa only [Fr.put, hb] using this

theorem agrees_make {args : Array Value} {N : Nat} (h1 : args.toList.length ≤ N) (h2 : N ≤ 65534) : Agrees N (frameOf args) (Fr.make args N) := by
  refine agrees_fill _ 0 N _ _ (by omega) ⟨rfl, h2, fun t _ => ?_⟩
  simp [Fr.get, Tr.get]

def resultsF (P : Program) (F : FF) (s : St) : List ResultVar → Option (List Value)
  | [] => some []
  | .tmp t :: l => match resultsF P F s l with
    | some r => some (F t :: r)
    | none => none
  | .cell t ty :: l => match loadV P ty (F t) s, resultsF P F s l with
    | some v, some r => some (v :: r)
    | _, _ => none
def resultB (N : Nat) : ResultVar → Bool
  | .tmp t => Nat.blt t N
  | .cell t _ => Nat.blt t N

theorem results_sim {N : Nat} {F : FF} {a : Fr} {s : St} (h : Agrees N F a) : ∀ l : List ResultVar, l.all (resultB N) = true → resultsM P a s l = resultsF P F s l
  | [], _ => rfl
  | .tmp t :: l, hl => by
    simp only [List.all_cons, Bool.and_eq_true, resultB] at hl
    simp only [resultsM, resultsF]
    rw [results_sim h l (by simpa using hl.2), h.get t (Nat.le_of_ble_eq_true hl.1)]
    rfl
  | .cell t ty :: l, hl => by
    simp only [List.all_cons, Bool.and_eq_true, resultB] at hl
    simp only [resultsM, resultsF]
    rw [results_sim h l (by simpa using hl.2), h.get t (Nat.le_of_ble_eq_true hl.1)]
    rfl

/-- The function's end: what it returns. -/
def endQ (P : Program) (rs : List ResultVar) (Post : Value → St → Prop) (F : FF) (s : St) : Prop :=
  match resultsF P F s rs with
  | some [v] => Post v s
  | some l => Post (.tuple ⟨l⟩) s
  | none => False
def retQ (P : Program) (rs : List ResultVar) (Post : Value → St → Prop) : FOut → Prop
  | .normal F s => endQ P rs Post F s
  | .ret F s => endQ P rs Post F s
  | _ => False

def funcB (fn : Func) (c : Code) (n : Nat) : Bool :=
  Nat.ble n fn.ntmps && Nat.ble fn.ntmps 65534 && codeB c && codeN fn.ntmps c && fn.results.toList.all (resultB fn.ntmps)

theorem end_t {t : Nat} {F : FF} {s : St} {Post : Value → St → Prop} (h : Post (F t) s) : endQ P [.tmp t] Post F s := h

theorem ret_end {rs : List ResultVar} {F : FF} {s : St} {Post : Value → St → Prop} (h : endQ P rs Post F s) : retQ P rs Post (.ret F s) := h
theorem nrm_end {rs : List ResultVar} {F : FF} {s : St} {Post : Value → St → Prop} (h : endQ P rs Post F s) : retQ P rs Post (.normal F s) := h
theorem sN {y : Code} {Q : FOut → Prop} {F : FF} {s : St} (h : CodeW P I y F s Q) : seqQ P I y Q (.normal F s) := h
theorem seq_ret {y : Code} {Q : FOut → Prop} {F : FF} {s : St} (h : Q (.ret F s)) : seqQ P I y Q (.ret F s) := h
theorem seq_exit {y : Code} {Q : FOut → Prop} {i : Nat} {F : FF} {s : St} (h : Q (.exit i F s)) : seqQ P I y Q (.exit i F s) := h
theorem blk_norm {id : Nat} {Q : FOut → Prop} {F : FF} {s : St} (h : Q (.normal F s)) : blockQ id Q (.normal F s) := h
theorem blk_ret {id : Nat} {Q : FOut → Prop} {F : FF} {s : St} (h : Q (.ret F s)) : blockQ id Q (.ret F s) := h
theorem blk_here {id : Nat} {Q : FOut → Prop} {F : FF} {s : St} (h : Q (.normal F s)) : blockQ id Q (.exit id F s) := by
  simp only [blockQ, Nat.beq_refl]; exact h
theorem blk_exit {id i : Nat} {Q : FOut → Prop} {F : FF} {s : St} (hi : Nat.beq i id = false) (h : Q (.exit i F s)) : blockQ id Q (.exit i F s) := by
  simp only [blockQ, hi]; exact h
theorem loop_norm {Inv : Nat → FF → St → Prop} {k : Nat} {Q : FOut → Prop} {F : FF} {s : St} (h : ∃ k', k' < k ∧ Inv k' F s) : loopQ Inv k Q (.normal F s) := h
theorem loop_ret {Inv : Nat → FF → St → Prop} {k : Nat} {Q : FOut → Prop} {F : FF} {s : St} (h : Q (.ret F s)) : loopQ Inv k Q (.ret F s) := h
theorem loop_exit {Inv : Nat → FF → St → Prop} {k i : Nat} {Q : FOut → Prop} {F : FF} {s : St} (h : Q (.exit i F s)) : loopQ Inv k Q (.exit i F s) := h

theorem call_of {f : FuncId} {args : Array Value} {s : St} {fn : Func} {c : Code} {Post : Value → St → Prop} (n : Nat) (hI : I f = none) (hf : P.funcs[f]? = some fn) (hb : fn.body = some c) (hc : funcB fn c n = true)
    (hn : args.toList.length = n) (h : CodeW P I c (frameOf args) s (retQ P fn.results.toList Post)) : ∃ v s', Rets P I f args s v s' ∧ Post v s' := by
  simp only [funcB, Bool.and_eq_true] at hc
  obtain ⟨⟨⟨⟨h1, h2⟩, h3⟩, h4⟩, h5⟩ := hc
  obtain ⟨o, hq, k, hk⟩ := h
  have hag : Agrees fn.ntmps (frameOf args) (Fr.make args fn.ntmps) := agrees_make (by rw [hn]; exact Nat.le_of_ble_eq_true h1) (Nat.le_of_ble_eq_true h2)
  have hgate : (Nat.ble (llen args.toList 0) fn.ntmps && Nat.ble fn.ntmps 65534 && codeB c) = true := by
    rw [llen_eq, hn, Nat.add_zero, h1, h2, h3]; rfl
  have hfin : ∀ F s', endQ P fn.results.toList Post F s' → ∃ v, Post v s' ∧ ∀ a, Agrees fn.ntmps F a → finish P fn a s' = .ret v s' := by
    intro F s' he
    unfold endQ at he
    split at he
    · next v hv => exact ⟨v, he, fun a ha => by unfold finish; rw [results_sim ha _ h5, hv]⟩
    · next l hl hv =>
      refine ⟨_, he, fun a ha => ?_⟩
      unfold finish
      rw [results_sim ha _ h5, hv]
      cases l with
      | nil => rfl
      | cons x l => cases l with
        | nil => exact (hl x rfl).elim
        | cons y l => rfl
    · exact he.elim
  have hsim := fun m => code_sim (P := P) (I := I) m c (frameOf args) (Fr.make args fn.ntmps) s h4 hag
  cases o with
  | normal F s' =>
    obtain ⟨v, hv2, hv⟩ := hfin F s' hq
    refine ⟨v, s', ⟨k, fun m hmk => ?_⟩, hv2⟩
    have h0 := hsim m
    rw [hk m hmk] at h0
    simp only [callM, callWith, hI, hf, hb, bodyM, hgate]
    cases hm2 : codeM P I m c (Fr.make args fn.ntmps) s with
    | normal a₃ s₃ =>
      rw [hm2] at h0
      obtain ⟨rfl, ha3⟩ := h0
      exact hv a₃ ha3
    | _ => rw [hm2] at h0; exact h0.elim
  | ret F s' =>
    obtain ⟨v, hv2, hv⟩ := hfin F s' hq
    refine ⟨v, s', ⟨k, fun m hmk => ?_⟩, hv2⟩
    have h0 := hsim m
    rw [hk m hmk] at h0
    simp only [callM, callWith, hI, hf, hb, bodyM, hgate]
    cases hm2 : codeM P I m c (Fr.make args fn.ntmps) s with
    | ret a₃ s₃ =>
      rw [hm2] at h0
      obtain ⟨rfl, ha3⟩ := h0
      exact hv a₃ ha3
    | _ => rw [hm2] at h0; exact h0.elim
  | exit i F s' => exact hq.elim
  | stuck => exact hq.elim

end
end Go.M
