/- Slots that code does not read do not matter. -/
/- Slots that code does not read do not matter: on the machine itself. -/
import Derived.Test.YtdejleegamcioaaGreatL08
namespace Go.M
section
variable (Z : Nat → Bool)
def EqOff (F F' : FF) : Prop := ∀ t, Z t = false → F t = F' t
def okZ : Operand → Bool
  | .tmp t => !Z t
  | _ => true
def guardZ (ops : List Oper) (o : Oper) : Bool :=
  match o.guard with
  | none => true
  | some (j, _) => match lget ops j with
    | some q => match q.dst with
      | some d => !Z d
      | none => true
    | none => true
def opsZ (ops : List Oper) : Bool := ops.all fun o => o.op.operands.toList.all (okZ Z) && guardZ Z ops o
def codeZ : Code → Bool
  | .region _ ops _ => opsZ Z ops.toList
  | .seq a b => codeZ a && codeZ b
  | .cond c a b => okZ Z c && codeZ a && codeZ b
  | .block _ b => codeZ b
  | .loop b => codeZ b
  | _ => true
def SimZ : FOut → FOut → Prop
  | .normal F s, .normal F' s' => s' = s ∧ EqOff Z F F'
  | .exit id F s, .exit id' F' s' => id' = id ∧ s' = s ∧ EqOff Z F F'
  | .ret F s, .ret F' s' => s' = s ∧ EqOff Z F F'
  | .stuck, .stuck => True
  | _, _ => False
variable {Z} {P : Program} {call : FuncId → Array Value → St → CallOut}
theorem EqOff.upd {F F' : FF} (h : EqOff Z F F') (d : Option Nat) (v : Value) : EqOff Z (upd F d v) (upd F' d v) := fun t ht => by
  cases d with
  | none => exact h t ht
  | some d => rw [upd_eq, upd_eq, h t ht]
theorem EqOff.eval {F F' : FF} (h : EqOff Z F F') {x : Operand} (hx : okZ Z x = true) : evalF F x = evalF F' x := by
  cases x with
  | tmp t => exact h t (by simpa [okZ] using hx)
  | _ => rfl
theorem wanted_z {ops : List Oper} {F F' : FF} {o : Oper} (h : EqOff Z F F') (hg : guardZ Z ops o = true) : wantedF ops F o = wantedF ops F' o := by
  unfold wantedF
  unfold guardZ at hg
  cases hgu : o.guard with
  | none => rfl
  | some g =>
    rw [hgu] at hg
    simp only at hg ⊢
    cases hq : lget ops g.1 with
    | none => rfl
    | some q =>
      rw [hq] at hg
      simp only at hg ⊢
      cases hd : q.dst with
      | none => rfl
      | some d =>
        rw [hd] at hg
        simp only at hg ⊢
        rw [h d (by simpa using hg)]
theorem op_z {F F' : FF} {o : Oper} {s : St} (h : EqOff Z F F') (ho : o.op.operands.toList.all (okZ Z) = true) : SimZ Z (opF P call o F s) (opF P call o F' s) := by
  have e : stepM P (evalF F) o.op s = stepM P (evalF F') o.op s := stepM_congr o.op fun x hx => h.eval (by rw [List.all_eq_true] at ho; exact ho x hx)
  unfold opF
  rw [e]
  cases stepM P (evalF F') o.op s with
  | stuck => trivial
  | panic v s => trivial
  | ok n s =>
    cases n with
    | value v => exact ⟨rfl, h.upd _ _⟩
    | skip => exact ⟨rfl, h.upd _ _⟩
    | enter f args =>
      simp only
      cases call f args s with
      | ret v s => exact ⟨rfl, h.upd _ _⟩
      | panic c s => trivial
      | stuck => trivial
    | _ => trivial
theorem ops_z (ops : List Oper) : ∀ (l : List Oper) (F F' : FF) (s : St), (l.all fun o => o.op.operands.toList.all (okZ Z) && guardZ Z ops o) = true → EqOff Z F F' → SimZ Z (opsF P call ops l F s) (opsF P call ops l F' s)
  | [], F, F', s, _, h => ⟨rfl, h⟩
  | o :: l, F, F', s, hl, h => by
    simp only [List.all_cons, Bool.and_eq_true] at hl
    have hl2 : (l.all fun o => o.op.operands.toList.all (okZ Z) && guardZ Z ops o) = true := by simpa using hl.2
    simp only [opsF]
    rw [wanted_z h hl.1.2]
    cases wantedF ops F' o with
    | false => exact ops_z ops l _ _ s hl2 (h.upd _ _)
    | true =>
      have h1 := op_z (P := P) (call := call) (s := s) h hl.1.1
      simp only
      cases hf : opF P call o F s <;> cases hm : opF P call o F' s <;> rw [hf, hm] at h1 <;> first | exact h1.elim | trivial | skip
      obtain ⟨rfl, h2⟩ := h1
      exact ops_z ops l _ _ _ hl2 h2
theorem block_z {F F' : FF} {o : Oper} (h : EqOff Z F F') (ho : o.op.operands.toList.all (okZ Z) = true) : blockOfF F o = blockOfF F' o := by
  unfold blockOfF
  cases hop : o.op with
  | load t x =>
    simp only
    rw [h.eval (by rw [List.all_eq_true] at ho; exact ho x (by rw [hop]; simp [Op.operands]))]
  | _ => rfl
theorem blocks_z {ops : List Oper} {F F' : FF} (h : EqOff Z F F') (ho : ∀ o ∈ ops, o.op.operands.toList.all (okZ Z) = true) : ∀ l, blocksOfF ops F l = blocksOfF ops F' l
  | [] => rfl
  | i :: l => by
    simp only [blocksOfF]
    cases hg : lget ops i with
    | none => exact blocks_z h ho l
    | some o =>
      simp only
      rw [block_z h (ho o (by rw [lget_eq] at hg; exact List.mem_of_getElem? hg)), blocks_z h ho l]
theorem drawOp_z {ops : List Oper} (ho : ∀ o ∈ ops, o.op.operands.toList.all (okZ Z) = true ∧ guardZ Z ops o = true) {d : Drawn} {o : Oper} (hmem : o ∈ ops) {F F' : FF} {s : St} (h : EqOff Z F F') :
    SimZ Z (drawOpF P call ops d o F s) (drawOpF P call ops d o F' s) := by
  unfold drawOpF
  rw [wanted_z h (ho o hmem).2]
  cases wantedF ops F' o with
  | false => exact ⟨rfl, h.upd _ _⟩
  | true =>
    simp only
    cases d.how with
    | light =>
      simp only
      rw [block_z h (ho o hmem).1]
      have h1 := op_z (P := P) (call := call) (s := { next := s.next, bar := s.next, prot := [], heap := only s (blockOfF F' o) }) h (ho o hmem).1
      cases hf : opF P call o F { next := s.next, bar := s.next, prot := [], heap := only s (blockOfF F' o) } <;> cases hm : opF P call o F' { next := s.next, bar := s.next, prot := [], heap := only s (blockOfF F' o) } <;> rw [hf, hm] at h1 <;> first | exact h1.elim | trivial | skip
      obtain ⟨rfl, h2⟩ := h1
      simp only
      split
      · exact ⟨rfl, h2⟩
      · trivial
    | whole =>
      simp only
      rw [blocks_z h (fun o hm => (ho o hm).1)]
      have h1 := op_z (P := P) (call := call) (s := { s with prot := blocksOfF ops F' d.free ++ s.prot }) h (ho o hmem).1
      cases hf : opF P call o F { s with prot := blocksOfF ops F' d.free ++ s.prot } <;> cases hm : opF P call o F' { s with prot := blocksOfF ops F' d.free ++ s.prot } <;> rw [hf, hm] at h1 <;> first | exact h1.elim | trivial | skip
      obtain ⟨rfl, h2⟩ := h1
      exact ⟨rfl, h2⟩
    | fresh =>
      simp only
      have h1 := op_z (P := P) (call := call) (s := { s with bar := s.next }) h (ho o hmem).1
      cases hf : opF P call o F { s with bar := s.next } <;> cases hm : opF P call o F' { s with bar := s.next } <;> rw [hf, hm] at h1 <;> first | exact h1.elim | trivial | skip
      obtain ⟨rfl, h2⟩ := h1
      exact ⟨rfl, h2⟩
theorem draw_z {ops : List Oper} (ho : ∀ o ∈ ops, o.op.operands.toList.all (okZ Z) = true ∧ guardZ Z ops o = true) : ∀ (l : List Drawn) (F F' : FF) (s : St), EqOff Z F F' → SimZ Z (drawF P call ops l F s) (drawF P call ops l F' s)
  | [], F, F', s, h => ⟨rfl, h⟩
  | d :: l, F, F', s, h => by
    simp only [drawF]
    cases hg : lget ops d.ix with
    | none => trivial
    | some o =>
      simp only
      have h1 := drawOp_z (P := P) (call := call) ho (d := d) (o := o) (by rw [lget_eq] at hg; exact List.mem_of_getElem? hg) (s := s) h
      cases hf : drawOpF P call ops d o F s <;> cases hm : drawOpF P call ops d o F' s <;> rw [hf, hm] at h1 <;> first | exact h1.elim | trivial | skip
      obtain ⟨rfl, h2⟩ := h1
      exact draw_z ho l _ _ _ h2
theorem code_z {I : Table} : ∀ (n : Nat) (c : Code) (F F' : FF) (s : St), codeZ Z c = true → EqOff Z F F' → SimZ Z (codeF P I n c F s) (codeF P I n c F' s)
  | 0, _, _, _, _, _, _ => trivial
  | n + 1, c, F, F', s, hc, h => by
    cases c with
    | skip => exact ⟨rfl, h⟩
    | label _ => exact ⟨rfl, h⟩
    | exit id => exact ⟨rfl, rfl, h⟩
    | ret => exact ⟨rfl, h⟩
    | seq x y =>
      simp only [codeZ, Bool.and_eq_true] at hc
      have h1 := code_z (I := I) n x F F' s hc.1 h
      simp only [codeF]
      cases hf : codeF P I n x F s <;> cases hm : codeF P I n x F' s <;> rw [hf, hm] at h1 <;> first | exact h1.elim | exact h1 | skip
      obtain ⟨rfl, h2⟩ := h1
      exact code_z n y _ _ _ hc.2 h2
    | cond x y z =>
      simp only [codeZ, Bool.and_eq_true] at hc
      simp only [codeF]
      rw [h.eval hc.1.1]
      cases evalF F' x with
      | bool b => cases b with
        | true => exact code_z n y F F' s hc.1.2 h
        | false => exact code_z n z F F' s hc.2 h
      | _ => trivial
    | block id b =>
      simp only [codeZ] at hc
      have h1 := code_z (I := I) n b F F' s hc h
      simp only [codeF]
      cases hf : codeF P I n b F s <;> cases hm : codeF P I n b F' s <;> rw [hf, hm] at h1 <;> first | exact h1.elim | exact h1 | skip
      obtain ⟨rfl, rfl, h2⟩ := h1
      simp only
      split
      · exact ⟨rfl, h2⟩
      · exact ⟨rfl, rfl, h2⟩
    | loop b =>
      simp only [codeZ] at hc
      have h1 := code_z (I := I) n b F F' s hc h
      simp only [codeF]
      cases hf : codeF P I n b F s <;> cases hm : codeF P I n b F' s <;> rw [hf, hm] at h1 <;> first | exact h1.elim | exact h1 | skip
      obtain ⟨rfl, h2⟩ := h1
      exact code_z n (.loop b) _ _ _ (by simpa only [codeZ] using hc) h2
    | region id ops draw =>
      simp only [codeZ] at hc
      simp only [codeF]
      cases draw with
      | false => exact ops_z ops.toList ops.toList F F' s hc h
      | true =>
        simp only
        cases planB ops.toList (plan ops.toList) with
        | false => trivial
        | true =>
          refine draw_z (fun o ho => ?_) _ F F' s h
          unfold opsZ at hc
          rw [List.all_eq_true] at hc
          simpa using hc o ho
    | _ => trivial
end
end Go.M
namespace Go.M
section
variable (Z : Nat → Bool) (N : Nat)
structure MOff (F F' : Fr) : Prop where
  one : F.size = N
  two : F'.size = N
  small : N ≤ 65534
  get : ∀ t, Z t = false → F.get t = F'.get t
def SimM : Out → Out → Prop
  | .normal F s, .normal F' s' => s' = s ∧ MOff Z N F F'
  | .exit id F s, .exit id' F' s' => id' = id ∧ s' = s ∧ MOff Z N F F'
  | .ret F s, .ret F' s' => s' = s ∧ MOff Z N F F'
  | .panic _ _ _, .panic _ _ _ => True
  | .stuck, .stuck => True
  | _, _ => False
variable {Z} {N} {P : Program} {call : FuncId → Array Value → St → CallOut}
theorem MOff.put {F F' : Fr} (h : MOff Z N F F') (d : Option Nat) (v : Value) : MOff Z N (F.put d v) (F'.put d v) := by
  have hsz : F.size = F'.size := h.one.trans h.two.symm
  have hsm : F.size ≤ 65534 := by rw [h.one]; exact h.small
  refine ⟨by rw [Fr.put_size]; exact h.one, by rw [Fr.put_size]; exact h.two, h.small, fun t ht => ?_⟩
  cases d with
  | none => exact h.get t ht
  | some d =>
    by_cases hd : d < F.size
    · rw [Fr.get_put' hsm hd, Fr.get_put' (by rw [← hsz]; exact hsm) (by rw [← hsz]; exact hd), h.get t ht]
    · have e1 : Nat.blt d F.size = false := by
        rw [Bool.eq_false_iff, Ne, Nat.blt_eq]; exact hd
      have e2 : Nat.blt d F'.size = false := by rw [← hsz]; exact e1
      simp only [Fr.put, e1, e2]
      exact h.get t ht
theorem MOff.eval {F F' : Fr} (h : MOff Z N F F') {x : Operand} (hx : okZ Z x = true) : F.eval x = F'.eval x := by
  cases x with
  | tmp t => exact h.get t (by simpa [okZ] using hx)
  | _ => rfl
theorem wanted_m {ops : List Oper} {F F' : Fr} {o : Oper} (h : MOff Z N F F') (hg : guardZ Z ops o = true) : wantedM ops F o = wantedM ops F' o := by
  unfold wantedM
  unfold guardZ at hg
  cases hgu : o.guard with
  | none => rfl
  | some g =>
    rw [hgu] at hg
    simp only at hg ⊢
    cases hq : lget ops g.1 with
    | none => rfl
    | some q =>
      rw [hq] at hg
      simp only at hg ⊢
      cases hd : q.dst with
      | none => rfl
      | some d =>
        rw [hd] at hg
        simp only at hg ⊢
        rw [h.get d (by simpa using hg)]
theorem op_m {F F' : Fr} {o : Oper} {s : St} (h : MOff Z N F F') (ho : o.op.operands.toList.all (okZ Z) = true) : SimM Z N (opM P call o F s) (opM P call o F' s) := by
  have e : stepM P F.eval o.op s = stepM P F'.eval o.op s := stepM_congr o.op fun x hx => h.eval (by rw [List.all_eq_true] at ho; exact ho x hx)
  unfold opM
  rw [e]
  cases stepM P F'.eval o.op s with
  | stuck => trivial
  | panic v s => trivial
  | ok n s =>
    cases n with
    | value v => exact ⟨rfl, h.put _ _⟩
    | skip => exact ⟨rfl, h.put _ _⟩
    | enter f args =>
      simp only
      cases call f args s with
      | ret v s => exact ⟨rfl, h.put _ _⟩
      | panic c s => trivial
      | stuck => trivial
    | _ => trivial
theorem ops_m (ops : List Oper) : ∀ (l : List Oper) (F F' : Fr) (s : St), (l.all fun o => o.op.operands.toList.all (okZ Z) && guardZ Z ops o) = true → MOff Z N F F' → SimM Z N (opsM P call ops l F s) (opsM P call ops l F' s)
  | [], F, F', s, _, h => ⟨rfl, h⟩
  | o :: l, F, F', s, hl, h => by
    simp only [List.all_cons, Bool.and_eq_true] at hl
    have hl2 : (l.all fun o => o.op.operands.toList.all (okZ Z) && guardZ Z ops o) = true := by simpa using hl.2
    simp only [opsM]
    rw [wanted_m h hl.1.2]
    cases wantedM ops F' o with
    | false => exact ops_m ops l _ _ s hl2 (h.put _ _)
    | true =>
      have h1 := op_m (P := P) (call := call) (s := s) h hl.1.1
      simp only
      cases hf : opM P call o F s <;> cases hm : opM P call o F' s <;> rw [hf, hm] at h1 <;> first | exact h1.elim | trivial | skip
      obtain ⟨rfl, h2⟩ := h1
      exact ops_m ops l _ _ _ hl2 h2
theorem block_m {F F' : Fr} {o : Oper} (h : MOff Z N F F') (ho : o.op.operands.toList.all (okZ Z) = true) : blockOf F o = blockOf F' o := by
  unfold blockOf
  cases hop : o.op with
  | load t x =>
    simp only
    rw [h.eval (by rw [List.all_eq_true] at ho; exact ho x (by rw [hop]; simp [Op.operands]))]
  | _ => rfl
theorem blocks_m {ops : List Oper} {F F' : Fr} (h : MOff Z N F F') (ho : ∀ o ∈ ops, o.op.operands.toList.all (okZ Z) = true) : ∀ l, blocksOf ops F l = blocksOf ops F' l
  | [] => rfl
  | i :: l => by
    simp only [blocksOf]
    cases hg : lget ops i with
    | none => exact blocks_m h ho l
    | some o =>
      simp only
      rw [block_m h (ho o (by rw [lget_eq] at hg; exact List.mem_of_getElem? hg)), blocks_m h ho l]
theorem drawOp_m {ops : List Oper} (ho : ∀ o ∈ ops, o.op.operands.toList.all (okZ Z) = true ∧ guardZ Z ops o = true) {d : Drawn} {o : Oper} (hmem : o ∈ ops) {F F' : Fr} {s : St} (h : MOff Z N F F') :
    SimM Z N (drawOp P call ops d o F s) (drawOp P call ops d o F' s) := by
  unfold drawOp
  rw [wanted_m h (ho o hmem).2]
  cases wantedM ops F' o with
  | false => exact ⟨rfl, h.put _ _⟩
  | true =>
    simp only
    cases d.how with
    | light =>
      simp only
      rw [block_m h (ho o hmem).1]
      have h1 := op_m (P := P) (call := call) (s := { next := s.next, bar := s.next, prot := [], heap := only s (blockOf F' o) }) h (ho o hmem).1
      cases hf : opM P call o F { next := s.next, bar := s.next, prot := [], heap := only s (blockOf F' o) } <;> cases hm : opM P call o F' { next := s.next, bar := s.next, prot := [], heap := only s (blockOf F' o) } <;> rw [hf, hm] at h1 <;> first | exact h1.elim | trivial | skip
      obtain ⟨rfl, h2⟩ := h1
      simp only
      split
      · exact ⟨rfl, h2⟩
      · trivial
    | whole =>
      simp only
      rw [blocks_m h (fun o hm => (ho o hm).1)]
      have h1 := op_m (P := P) (call := call) (s := { s with prot := blocksOf ops F' d.free ++ s.prot }) h (ho o hmem).1
      cases hf : opM P call o F { s with prot := blocksOf ops F' d.free ++ s.prot } <;> cases hm : opM P call o F' { s with prot := blocksOf ops F' d.free ++ s.prot } <;> rw [hf, hm] at h1 <;> first | exact h1.elim | trivial | skip
      obtain ⟨rfl, h2⟩ := h1
      exact ⟨rfl, h2⟩
    | fresh =>
      simp only
      have h1 := op_m (P := P) (call := call) (s := { s with bar := s.next }) h (ho o hmem).1
      cases hf : opM P call o F { s with bar := s.next } <;> cases hm : opM P call o F' { s with bar := s.next } <;> rw [hf, hm] at h1 <;> first | exact h1.elim | trivial | skip
      obtain ⟨rfl, h2⟩ := h1
      exact ⟨rfl, h2⟩
theorem draw_m {ops : List Oper} (ho : ∀ o ∈ ops, o.op.operands.toList.all (okZ Z) = true ∧ guardZ Z ops o = true) : ∀ (l : List Drawn) (F F' : Fr) (s : St), MOff Z N F F' → SimM Z N (drawM P call ops l F s) (drawM P call ops l F' s)
  | [], F, F', s, h => ⟨rfl, h⟩
  | d :: l, F, F', s, h => by
    simp only [drawM]
    cases hg : lget ops d.ix with
    | none => trivial
    | some o =>
      simp only
      have h1 := drawOp_m (P := P) (call := call) ho (d := d) (o := o) (by rw [lget_eq] at hg; exact List.mem_of_getElem? hg) (s := s) h
      cases hf : drawOp P call ops d o F s <;> cases hm : drawOp P call ops d o F' s <;> rw [hf, hm] at h1 <;> first | exact h1.elim | trivial | skip
      obtain ⟨rfl, h2⟩ := h1
      exact draw_m ho l _ _ _ h2
theorem code_m {I : Table} : ∀ (n : Nat) (c : Code) (F F' : Fr) (s : St), codeZ Z c = true → MOff Z N F F' → SimM Z N (codeM P I n c F s) (codeM P I n c F' s)
  | 0, _, _, _, _, _, _ => trivial
  | n + 1, c, F, F', s, hc, h => by
    cases c with
    | skip => exact ⟨rfl, h⟩
    | label _ => exact ⟨rfl, h⟩
    | exit id => exact ⟨rfl, rfl, h⟩
    | ret => exact ⟨rfl, h⟩
    | seq x y =>
      simp only [codeZ, Bool.and_eq_true] at hc
      have h1 := code_m (I := I) n x F F' s hc.1 h
      simp only [codeM]
      cases hf : codeM P I n x F s <;> cases hm : codeM P I n x F' s <;> rw [hf, hm] at h1 <;> first | exact h1.elim | exact h1 | skip
      obtain ⟨rfl, h2⟩ := h1
      exact code_m n y _ _ _ hc.2 h2
    | cond x y z =>
      simp only [codeZ, Bool.and_eq_true] at hc
      simp only [codeM]
      rw [h.eval hc.1.1]
      cases F'.eval x with
      | bool b => cases b with
        | true => exact code_m n y F F' s hc.1.2 h
        | false => exact code_m n z F F' s hc.2 h
      | _ => trivial
    | block id b =>
      simp only [codeZ] at hc
      have h1 := code_m (I := I) n b F F' s hc h
      simp only [codeM]
      cases hf : codeM P I n b F s <;> cases hm : codeM P I n b F' s <;> rw [hf, hm] at h1 <;> first | exact h1.elim | exact h1 | skip
      obtain ⟨rfl, rfl, h2⟩ := h1
      simp only
      split
      · exact ⟨rfl, h2⟩
      · exact ⟨rfl, rfl, h2⟩
    | loop b =>
      simp only [codeZ] at hc
      have h1 := code_m (I := I) n b F F' s hc h
      simp only [codeM]
      cases hf : codeM P I n b F s <;> cases hm : codeM P I n b F' s <;> rw [hf, hm] at h1 <;> first | exact h1.elim | exact h1 | skip
      obtain ⟨rfl, h2⟩ := h1
      exact code_m n (.loop b) _ _ _ (by simpa only [codeZ] using hc) h2
    | region id ops draw =>
      simp only [codeZ] at hc
      simp only [codeM]
      cases draw with
      | false => exact ops_m ops.toList ops.toList F F' s hc h
      | true =>
        simp only
        cases planB ops.toList (plan ops.toList) with
        | false => trivial
        | true =>
          refine draw_m (fun o ho => ?_) _ F F' s h
          unfold opsZ at hc
          rw [List.all_eq_true] at hc
          simpa using hc o ho
    | _ => trivial
end
end Go.M
