/- Slots that code does not read do not matter: on the machine itself. -/
import Derived.Test.YtdejleegamcioaaGreatF12
namespace Go.M
section
variable (Z : Nat → Bool) (N : Nat)
structure MOff (F F' : Fr) : Prop where
 one : F.size = N
 two : F'.size = N
 small : N ≤ 65534
 get : ∀ t, Z t = false → F.get t = F'.get t
def SimM : Out → Out → Prop
 | .normal F s, .normal F' s' => s' = s ∧ MOff Z N F F'
 | .exit id F s, .exit id' F' s' => id' = id ∧ s' = s ∧ MOff Z N F F'
 | .ret F s, .ret F' s' => s' = s ∧ MOff Z N F F'
 | .panic _ _ _, .panic _ _ _ => True
 | .stuck, .stuck => True
 | _, _ => False
variable {Z} {N} {P : Program} {call : FuncId → Array Value → St → CallOut}
theorem MOff.put {F F' : Fr} (h : MOff Z N F F') (d : Option Nat) (v : Value) : MOff Z N (F.put d v) (F'.put d v) := by
 have hsz : F.size = F'.size := h.one.trans h.two.symm
 have hsm : F.size ≤ 65534 := by rw [h.one]; exact h.small
 refine ⟨by rw [Fr.put_size]; exact h.one, by rw [Fr.put_size]; exact h.two, h.small, fun t ht => ?_⟩
 cases d with
 | none => exact h.get t ht
 | some d =>
  by_cases hd : d < F.size
  ·rw [Fr.get_put' hsm hd, Fr.get_put' (by rw [← hsz]; exact hsm) (by rw [← hsz]; exact hd), h.get t ht]
  ·have e1 : Nat.blt d F.size = false := by
    rw [Bool.eq_false_iff, Ne, Nat.blt_eq]; exact hd
   have e2 : Nat.blt d F'.size = false := by rw [← hsz]; exact e1
   simp only [Fr.put, e1, e2]
   exact h.get t ht
theorem MOff.eval {F F' : Fr} (h : MOff Z N F F') {x : Operand} (hx : okZ Z x = true) : F.eval x = F'.eval x := by
 cases x with
 | tmp t => exact h.get t (by simpa [okZ] using hx)
 | _ => rfl
theorem wanted_m {ops : List Oper} {F F' : Fr} {o : Oper} (h : MOff Z N F F') (hg : guardZ Z ops o = true) : xd ops F o = xd ops F' o := by
 unfold xd
 unfold guardZ at hg
 cases hgu : o.guard with
 | none => rfl
 | some g =>
  rw [hgu] at hg
  simp only at hg ⊢
  cases hq : yA ops g.1 with
  | none => rfl
  | some q =>
   rw [hq] at hg
   simp only at hg ⊢
   cases hd : q.dst with
   | none => rfl
   | some d =>
    rw [hd] at hg
    simp only at hg ⊢
    rw [h.get d (by simpa using hg)]
theorem op_m {F F' : Fr} {o : Oper} {s : St} (h : MOff Z N F F') (ho : o.op.operands.toList.all (okZ Z) = true) : SimM Z N (opM P call o F s) (opM P call o F' s) := by
 have e : zK P F.eval o.op s = zK P F'.eval o.op s := stepM_congr o.op fun x hx => h.eval (by rw [List.all_eq_true] at ho; exact ho x hx)
 unfold opM
 rw [e]
 cases zK P F'.eval o.op s with
 | stuck => trivial
 | panic v s => trivial
 | ok n s =>
  cases n with
  | value v => exact ⟨rfl, h.put _ _⟩
  | skip => exact ⟨rfl, h.put _ _⟩
  | enter f args =>
   simp only
   cases call f args s with
   | ret v s => exact ⟨rfl, h.put _ _⟩
   | panic c s => trivial
   | stuck => trivial
  | _ => trivial
theorem ops_m (ops : List Oper) : ∀ (l : List Oper) (F F' : Fr) (s : St), (l.all fun o => o.op.operands.toList.all (okZ Z) && guardZ Z ops o) = true → MOff Z N F F' → SimM Z N (opsM P call ops l F s) (opsM P call ops l F' s)
 | [], F, F', s, _, h => ⟨rfl, h⟩
 | o :: l, F, F', s, hl, h => by
  simp only [List.all_cons, Bool.and_eq_true] at hl
  have hl2 : (l.all fun o => o.op.operands.toList.all (okZ Z) && guardZ Z ops o) = true := by simpa using hl.2
  simp only [opsM]
  rw [wanted_m h hl.1.2]
  cases xd ops F' o with
  | false => exact ops_m ops l _ _ s hl2 (h.put _ _)
  | true =>
   have h1 := op_m (P := P) (call := call) (s := s) h hl.1.1
   simp only
   cases hf : opM P call o F s <;> cases hm : opM P call o F' s <;> rw [hf, hm] at h1 <;> first | exact h1.elim | trivial | skip
   obtain ⟨rfl, h2⟩ := h1
   exact ops_m ops l _ _ _ hl2 h2
theorem block_m {F F' : Fr} {o : Oper} (h : MOff Z N F F') (ho : o.op.operands.toList.all (okZ Z) = true) : xp F o = xp F' o := by
 unfold xp
 cases hop : o.op with
 | load t x =>
  simp only
  rw [h.eval (by rw [List.all_eq_true] at ho; exact ho x (by rw [hop]; simp [Op.operands]))]
 | _ => rfl
theorem blocks_m {ops : List Oper} {F F' : Fr} (h : MOff Z N F F') (ho : ∀ o ∈ ops, o.op.operands.toList.all (okZ Z) = true) : ∀ l, yK ops F l = yK ops F' l
 | [] => rfl
 | i :: l => by
  simp only [yK]
  cases hg : yA ops i with
  | none => exact blocks_m h ho l
  | some o =>
   simp only
   rw [block_m h (ho o (by rw [yY] at hg; exact List.mem_of_getElem? hg)), blocks_m h ho l]
theorem drawOp_m {ops : List Oper} (ho : ∀ o ∈ ops, o.op.operands.toList.all (okZ Z) = true ∧ guardZ Z ops o = true) {d : Drawn} {o : Oper} (hmem : o ∈ ops) {F F' : Fr} {s : St} (h : MOff Z N F F') :
  SimM Z N (yN P call ops d o F s) (yN P call ops d o F' s) := by
 unfold yN
 rw [wanted_m h (ho o hmem).2]
 cases xd ops F' o with
 | false => exact ⟨rfl, h.put _ _⟩
 | true =>
  simp only
  cases d.how with
  | light =>
   simp only
   rw [block_m h (ho o hmem).1]
   have h1 := op_m (P := P) (call := call) (s := { next := s.next, bar := s.next, prot := [], heap := only s (xp F' o) }) h (ho o hmem).1
   cases hf : opM P call o F { next := s.next, bar := s.next, prot := [], heap := only s (xp F' o) } <;> cases hm : opM P call o F' { next := s.next, bar := s.next, prot := [], heap := only s (xp F' o) } <;> rw [hf, hm] at h1 <;> first | exact h1.elim | trivial | skip
   obtain ⟨rfl, h2⟩ := h1
   simp only
   split
   ·exact ⟨rfl, h2⟩
   ·trivial
  | whole =>
   simp only
   rw [blocks_m h (fun o hm => (ho o hm).1)]
   have h1 := op_m (P := P) (call := call) (s := { s with prot := yK ops F' d.free ++ s.prot }) h (ho o hmem).1
   cases hf : opM P call o F { s with prot := yK ops F' d.free ++ s.prot } <;> cases hm : opM P call o F' { s with prot := yK ops F' d.free ++ s.prot } <;> rw [hf, hm] at h1 <;> first | exact h1.elim | trivial | skip
   obtain ⟨rfl, h2⟩ := h1
   exact ⟨rfl, h2⟩
  | fresh =>
   simp only
   have h1 := op_m (P := P) (call := call) (s := { s with bar := s.next }) h (ho o hmem).1
   cases hf : opM P call o F { s with bar := s.next } <;> cases hm : opM P call o F' { s with bar := s.next } <;> rw [hf, hm] at h1 <;> first | exact h1.elim | trivial | skip
   obtain ⟨rfl, h2⟩ := h1
   exact ⟨rfl, h2⟩
theorem draw_m {ops : List Oper} (ho : ∀ o ∈ ops, o.op.operands.toList.all (okZ Z) = true ∧ guardZ Z ops o = true) : ∀ (l : List Drawn) (F F' : Fr) (s : St), MOff Z N F F' → SimM Z N (qQ P call ops l F s) (qQ P call ops l F' s)
 | [], F, F', s, h => ⟨rfl, h⟩
 | d :: l, F, F', s, h => by
  simp only [qQ]
  cases hg : yA ops d.ix with
  | none => trivial
  | some o =>
   simp only
   have h1 := drawOp_m (P := P) (call := call) ho (d := d) (o := o) (by rw [yY] at hg; exact List.mem_of_getElem? hg) (s := s) h
   cases hf : yN P call ops d o F s <;> cases hm : yN P call ops d o F' s <;> rw [hf, hm] at h1 <;> first | exact h1.elim | trivial | skip
   obtain ⟨rfl, h2⟩ := h1
   exact draw_m ho l _ _ _ h2
theorem code_m {I : yb} : ∀ (n : Nat) (c : Code) (F F' : Fr) (s : St), codeZ Z c = true → MOff Z N F F' → SimM Z N (yh P I n c F s) (yh P I n c F' s)
 | 0, _, _, _, _, _, _ => trivial
 | n + 1, c, F, F', s, hc, h => by
  cases c with
  | skip => exact ⟨rfl, h⟩
  | label _ => exact ⟨rfl, h⟩
  | exit id => exact ⟨rfl, rfl, h⟩
  | ret => exact ⟨rfl, h⟩
  | seq x y =>
   simp only [codeZ, Bool.and_eq_true] at hc
   have h1 := code_m (I := I) n x F F' s hc.1 h
   simp only [yh]
   cases hf : yh P I n x F s <;> cases hm : yh P I n x F' s <;> rw [hf, hm] at h1 <;> first | exact h1.elim | exact h1 | skip
   obtain ⟨rfl, h2⟩ := h1
   exact code_m n y _ _ _ hc.2 h2
  | cond x y z =>
   simp only [codeZ, Bool.and_eq_true] at hc
   simp only [yh]
   rw [h.eval hc.1.1]
   cases F'.eval x with
   | bool b => cases b with
    | true => exact code_m n y F F' s hc.1.2 h
    | false => exact code_m n z F F' s hc.2 h
   | _ => trivial
  | block id b =>
   simp only [codeZ] at hc
   have h1 := code_m (I := I) n b F F' s hc h
   simp only [yh]
   cases hf : yh P I n b F s <;> cases hm : yh P I n b F' s <;> rw [hf, hm] at h1 <;> first | exact h1.elim | exact h1 | skip
   obtain ⟨rfl, rfl, h2⟩ := h1
   simp only
   split
   ·exact ⟨rfl, h2⟩
   ·exact ⟨rfl, rfl, h2⟩
  | loop b =>
   simp only [codeZ] at hc
   have h1 := code_m (I := I) n b F F' s hc h
   simp only [yh]
   cases hf : yh P I n b F s <;> cases hm : yh P I n b F' s <;> rw [hf, hm] at h1 <;> first | exact h1.elim | exact h1 | skip
   obtain ⟨rfl, h2⟩ := h1
   exact code_m n (.loop b) _ _ _ (by simpa only [codeZ] using hc) h2
  | region id ops draw =>
   simp only [codeZ] at hc
   simp only [yh]
   cases draw with
   | false => exact ops_m ops.toList ops.toList F F' s hc h
   | true =>
    simp only
    cases planB ops.toList (plan ops.toList) with
    | false => trivial
    | true =>
     refine draw_m (fun o ho => ?_) _ F F' s h
     unfold opsZ at hc
     rw [List.all_eq_true] at hc
     simpa using hc o ho
  | _ => trivial
end
end Go.M
