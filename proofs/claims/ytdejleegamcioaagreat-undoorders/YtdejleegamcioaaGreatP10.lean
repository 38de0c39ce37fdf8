/- The abstract machine with frames that are functions; what it computes, the machine computes. -/
/- What is computed with frames that are functions, the abstract machine computes. -/
/- What code comes to, whatever the fuel: rules for proofs about every argument. -/
import Derived.Test.YtdejleegamcioaaGreatP09
namespace Go.M
abbrev FF := Nat → Value
def upd (F : FF) (d : Option Nat) (v : Value) : FF :=
 match d with
 | some d => fun t => match Nat.beq t d with
  | true => v
  | false => F t
 | none => F
theorem upd_eq (F : FF) (d : Nat) (v : Value) (t : Nat) : upd F (some d) v t = if t = d then v else F t := by
 simp only [upd]
 cases h : Nat.beq t d with
 | true => rw [if_pos (Nat.eq_of_beq_eq_true h)]
 | false => rw [if_neg (fun e => by rw [e] at h; simp at h)]
def zn (F : FF) : Operand → Value
 | .tmp t => F t
 | .const v => v
 | .global g => .pointer (some ⟨g, 0, none⟩)
 | .func f => .func (.func f) #[] #[]
inductive FOut where
 | normal (F : FF) (s : St)
 | exit (id : Nat) (F : FF) (s : St)
 | ret (F : FF) (s : St)
 | stuck
def yS (ops : List Oper) (F : FF) (o : Oper) : Bool :=
 match o.guard with
 | none => true
 | some (j, want) => match yo ops j with
  | some q => match q.dst with
   | some d => match F d with
    | .bool b => b == want
    | _ => false
   | none => false
  | none => false
section
variable (P : Program) (call : FuncId → Array Value → St → CallOut)
def opF (o : Oper) (F : FF) (s : St) : FOut :=
 match zr P (zn F) o.op s with
 | .ok (.value v) s => .normal (upd F o.dst v) s
 | .ok .skip s => .normal (upd F o.dst undef) s
 | .ok (.enter f args) s =>
  match call f args s with
  | .ret v s => .normal (upd F o.dst v) s
  | _ => .stuck
 | _ => .stuck
def opsF (ops : List Oper) : List Oper → FF → St → FOut
 | [], F, s => .normal F s
 | o :: rest, F, s =>
  match yS ops F o with
  | true => match opF P call o F s with
   | .normal F s => opsF ops rest F s
   | _ => .stuck
  | false => opsF ops rest (upd F o.dst undef) s
def yZ (F : FF) (o : Oper) : Option Nat :=
 match o.op with
 | .load _ x => match zn F x with
  | .pointer (some p) => some p.block
  | _ => none
 | .alloc _ => match o.dst with
  | some t => match F t with
   | .pointer (some p) => some p.block
   | _ => none
  | none => none
 | _ => none
def yB (ops : List Oper) (F : FF) : List Nat → List Nat
 | [] => []
 | i :: l => match yo ops i with
  | some o => match yZ F o with
   | some b => b :: yB ops F l
   | none => yB ops F l
  | none => yB ops F l
def drawOpF (ops : List Oper) (d : Drawn) (o : Oper) (F : FF) (s : St) : FOut :=
 match yS ops F o with
 | true => match d.how with
  | .light => match opF P call o F { next := s.next, bar := s.next, prot := [], heap := only s (yZ F o) } with
   | .normal F s' => match Nat.beq s'.next s.next with
    | true => .normal F s
    | false => .stuck
   | _ => .stuck
  | .whole => match opF P call o F { s with prot := yB ops F d.free ++ s.prot } with
   | .normal F s' => .normal F { next := s'.next, bar := s.bar, prot := s.prot, heap := s'.heap }
   | _ => .stuck
  | .fresh => match opF P call o F { s with bar := s.next } with
   | .normal F s' => .normal F { next := s'.next, bar := s.bar, prot := s.prot, heap := s'.heap }
   | _ => .stuck
  | .new => match opF P call o F { next := s.next, bar := s.next, prot := [], heap := .nil } with
   | .normal F s' => match Nat.beq s'.next (s.next + 1) && s.room, yZ F o, s'.get s.next with
    | true, some b, some ob => match Nat.beq b s.next with
     | true => .normal F (s.new ob)
     | false => .stuck
    | _, _, _ => .stuck
   | _ => .stuck
 | false => .normal (upd F o.dst undef) s
def drawF (ops : List Oper) : List Drawn → FF → St → FOut
 | [], F, s => .normal F s
 | d :: rest, F, s => match yo ops d.ix with
  | some o => match drawOpF P call ops d o F s with
   | .normal F s => drawF ops rest F s
   | _ => .stuck
  | none => .stuck
end
def yJ (P : Program) (I : zJ) : Nat → Code → FF → St → FOut
 | 0, _, _, _ => .stuck
 | n + 1, c, F, s =>
  match c with
  | .skip | .label _ => .normal F s
  | .seq x y => match yJ P I n x F s with
   | .normal F s => yJ P I n y F s
   | r => r
  | .cond c x y => match zn F c with
   | .bool true => yJ P I n x F s
   | .bool false => yJ P I n y F s
   | _ => .stuck
  | .block id b => match yJ P I n b F s with
   | .exit id' F s => match Nat.beq id' id with
    | true => .normal F s
    | false => .exit id' F s
   | r => r
  | .loop b => match yJ P I n b F s with
   | .normal F s => yJ P I n (.loop b) F s
   | r => r
  | .exit id => .exit id F s
  | .ret => .ret F s
  | .region _ ops draw => match draw with
   | false => opsF P (yQ P I (zL P I n)) ops.toList ops.toList F s
   | true => match planB ops.toList (plan ops.toList) with
    | true => drawF P (yQ P I (zL P I n)) ops.toList (plan ops.toList) F s
    | false => .stuck
  | _ => .stuck
structure Agrees (N : Nat) (F : FF) (a : Fr) : Prop where
 size : a.size = N
 small : N ≤ 65534
 get : ∀ t, t < N → a.get t = F t
theorem Fr.get_put' {a : Fr} {d t : Nat} {v : Value} (hs : a.size ≤ 65534) (hd : d < a.size) : (a.put (some d) v).get t = if t = d then v else a.get t := by
 have hb : Nat.blt d a.size = true := blt_true hd
 have hp : d + 1 < 2 ^ fdepth := by simp [fdepth]; omega
 simp only [Fr.put, hb, Fr.get, Tr.get_put _ _ _ _ _ hp]
 by_cases e : t = d
 ·rw [if_pos e, if_pos e]
 ·rw [if_neg e, if_neg e]
theorem Fr.put_size {a : Fr} {d : Option Nat} {v : Value} : (a.put d v).size = a.size := by
 cases d with
 | none => rfl
 | some d => simp only [Fr.put]; split <;> rfl
theorem Agrees.put {N : Nat} {F : FF} {a : Fr} (h : Agrees N F a) (d : Option Nat) (v : Value) : Agrees N (upd F d v) (a.put d v) := by
 refine ⟨Fr.put_size.trans h.size, h.small, fun t ht => ?_⟩
 cases d with
 | none => exact h.get t ht
 | some d =>
  by_cases hd : d < a.size
  ·rw [Fr.get_put' (by rw [h.size]; exact h.small) hd]
   rw [upd_eq]
   split
   ·rfl
   ·exact h.get t ht
  ·have hb : Nat.blt d a.size = false := blt_false hd
   simp only [Fr.put, hb, upd_eq]
   rw [if_neg (by have := h.size; omega)]
   exact h.get t ht
def tmpB (N : Nat) : Operand → Bool
 | .tmp t => Nat.blt t N
 | _ => true
def guardN0 (N : Nat) (ops : List Oper) (o : Oper) : Bool :=
 match o.guard with
 | none => true
 | some (j, _) => match yo ops j with
  | some q => match q.dst with
   | some d => Nat.blt d N
   | none => true
  | none => true
def allocN (N : Nat) (o : Oper) : Bool :=
 match o.op with
 | .alloc _ => match o.dst with
  | some t => Nat.blt t N
  | none => true
 | _ => true
def guardN (N : Nat) (ops : List Oper) (o : Oper) : Bool := guardN0 N ops o && allocN N o
def opsN (N : Nat) (ops : List Oper) : Bool := ops.all fun o => o.op.operands.toList.all (tmpB N) && guardN N ops o
def codeN (N : Nat) : Code → Bool
 | .region _ ops _ => opsN N ops.toList
 | .seq a b => codeN N a && codeN N b
 | .cond c a b => tmpB N c && codeN N a && codeN N b
 | .block _ b => codeN N b
 | .loop b => codeN N b
 | _ => true
theorem Agrees.eval {N : Nat} {F : FF} {a : Fr} (h : Agrees N F a) {x : Operand} (hx : tmpB N x = true) : a.eval x = zn F x := by
 cases x with
 | tmp t => exact h.get t (Nat.le_of_ble_eq_true hx)
 | _ => rfl
end Go.M
namespace Go.M
section
variable {P : Program} {ρ ρ' : Operand → Value} {s : St}
theorem mapL_congr {l : List Operand} (h : ∀ x ∈ l, ρ x = ρ' x) : xx ρ l = xx ρ' l := by
 induction l with
 | nil => rfl
 | cons x l ih => simp only [xx]; rw [h x (by simp), ih fun y hy => h y (by simp [hy])]
theorem fillL_congr {place : Nat → Option (Nat × Nat)} : ∀ {l : List (Nat × Operand)} {c : List Value}, (∀ p ∈ l, ρ p.2 = ρ' p.2) → xL place ρ l c = xL place ρ' l c
 | [], _, _ => rfl
 | (i, x) :: l, c, h => by
  have e : ∀ c, xL place ρ l c = xL place ρ' l c := fun c => fillL_congr fun p hp => h p (List.mem_cons_of_mem _ hp)
  have hx : ρ x = ρ' x := h (i, x) (by simp)
  simp only [xL, e, hx]
theorem optMap_congr {o : Option Operand} (h : ∀ x, o = some x → ρ x = ρ' x) : o.map ρ = o.map ρ' := by
 cases o with
 | none => rfl
 | some x => simp [h x rfl]
theorem stepM_congr (o : Op) (h : ∀ x ∈ o.operands.toList, ρ x = ρ' x) : zr P ρ o s = zr P ρ' o s := by
 cases o with
 | move x => simp only [zr]; rw [h x (by simp [Op.operands])]
 | assign x => simp only [zr]; rw [h x (by simp [Op.operands])]
 | pick c a b => simp only [zr]; rw [h c (by simp [Op.operands]), h a (by simp [Op.operands]), h b (by simp [Op.operands])]
 | load t a => simp only [zr]; rw [h a (by simp [Op.operands])]
 | store t a v => simp only [zr]; rw [h a (by simp [Op.operands]), h v (by simp [Op.operands])]
 | box e x => simp only [zr]; rw [h x (by simp [Op.operands])]
 | alloc e => rfl
 | fieldAddr t x f => simp only [zr]; rw [h x (by simp [Op.operands])]
 | indexAddr t x i => simp only [zr]; rw [h x (by simp [Op.operands]), h i (by simp [Op.operands])]
 | binOp op t x y yt => simp only [zr]; rw [h x (by simp [Op.operands]), h y (by simp [Op.operands])]
 | unOp op t x => simp only [zr]; rw [h x (by simp [Op.operands])]
 | extract x i => simp only [zr]; rw [h x (by simp [Op.operands])]
 | nilCheck x => simp only [zr]; rw [h x (by simp [Op.operands])]
 | convert src dst x => simp only [zr]; rw [h x (by simp [Op.operands])]
 | makeInterface t x => simp only [zr]; rw [h x (by simp [Op.operands])]
 | makeFunc fn first captured =>
  simp only [zr]
  rw [mapL_congr (l := first.toList) fun x hx => h x (by simp [Op.operands]; exact .inl (by simpa using hx)), mapL_congr (l := captured.toList) fun x hx => h x (by simp [Op.operands]; exact .inr (by simpa using hx))]
 | makeMap t r => cases r <;> rfl
 | slice t x lo hi mx =>
  simp only [zr]
  rw [h x (by simp [Op.operands]), optMap_congr (o := lo) fun x hx => h x (by simp [Op.operands, hx]), optMap_congr (o := hi) fun x hx => h x (by simp [Op.operands, hx]), optMap_congr (o := mx) fun x hx => h x (by simp [Op.operands, hx])]
 | field t x f => simp only [zr]; rw [h x (by simp [Op.operands])]
 | index t x i => simp only [zr]; rw [h x (by simp [Op.operands]), h i (by simp [Op.operands])]
 | panic x => simp only [zr]; rw [h x (by simp [Op.operands])]
 | call c =>
  obtain ⟨callee, args, argTypes⟩ := c
  cases callee with
  | value f =>
   simp only [zr]
   rw [h f (by simp [Op.operands, Call.operands]), mapL_congr (l := args.toList) fun x hx => h x (by simp [Op.operands, Call.operands]; exact .inr (by simpa using hx))]
  | builtin b =>
   simp only [zr]
   rw [mapL_congr (l := args.toList) fun x hx => h x (by simp [Op.operands, Call.operands]; simpa using hx)]
  | invoke r m => rfl
 | build t parts =>
  have hp : ∀ p ∈ parts.toList, ρ p.2 = ρ' p.2 := fun p hp => h p.2 (by simp [Op.operands]; exact ⟨p.1, by simpa using hp⟩)
  simp only [zr, buildM]
  have e : ∀ place c, xL place ρ parts.toList c = xL place ρ' parts.toList c := fun place c => fillL_congr hp
  simp only [e]
 | buildSlice t len parts =>
  have hp : ∀ p ∈ parts.toList, ρ p.2 = ρ' p.2 := fun p hp => h p.2 (by simp [Op.operands]; exact ⟨p.1, by simpa using hp⟩)
  simp only [zr, xq]
  have e : ∀ place c, xL place ρ parts.toList c = xL place ρ' parts.toList c := fun place c => fillL_congr hp
  simp only [e]
 | makeSlice t l c => simp only [zr]; rw [h l (by simp [Op.operands]), h c (by simp [Op.operands])]
 | lookup t x i ok => simp only [zr]; rw [h x (by simp [Op.operands]), h i (by simp [Op.operands])]
 | mapUpdate t m k x => simp only [zr]; rw [h m (by simp [Op.operands]), h k (by simp [Op.operands]), h x (by simp [Op.operands])]
 | insert t m k x => simp only [zr]; rw [h m (by simp [Op.operands]), h k (by simp [Op.operands]), h x (by simp [Op.operands])]
 | _ => rfl
end
def SimOut (N : Nat) : FOut → Out → Prop
 | .normal F s, .normal a s' => s' = s ∧ Agrees N F a
 | .exit id F s, .exit id' a s' => id' = id ∧ s' = s ∧ Agrees N F a
 | .ret F s, .ret a s' => s' = s ∧ Agrees N F a
 | .stuck, _ => True
 | _, _ => False
section
variable {P : Program} {call : FuncId → Array Value → St → CallOut} {N : Nat}
theorem wanted_sim {ops : List Oper} {F : FF} {a : Fr} {o : Oper} (h : Agrees N F a) (hg : guardN N ops o = true) : yM ops a o = yS ops F o := by
 unfold yM yS
 unfold guardN at hg
 have hg := (Bool.and_eq_true_iff.mp hg).1
 unfold guardN0 at hg
 cases hgu : o.guard with
 | none => rfl
 | some g =>
  rw [hgu] at hg
  simp only at hg ⊢
  cases hq : yo ops g.1 with
  | none => rfl
  | some q =>
   rw [hq] at hg
   simp only at hg ⊢
   cases hd : q.dst with
   | none => rfl
   | some d =>
    rw [hd] at hg
    simp only at hg ⊢
    rw [h.get d (Nat.le_of_ble_eq_true hg)]
    rfl
theorem op_sim {F : FF} {a : Fr} {o : Oper} {s : St} (h : Agrees N F a) (ho : o.op.operands.toList.all (tmpB N) = true) : SimOut N (opF P call o F s) (opM P call o a s) := by
 have e : zr P a.eval o.op s = zr P (zn F) o.op s := stepM_congr o.op fun x hx => h.eval (by rw [List.all_eq_true] at ho; exact ho x hx)
 unfold opF opM
 rw [e]
 cases zr P (zn F) o.op s with
 | stuck => trivial
 | panic v s => trivial
 | ok n s =>
  cases n with
  | value v => exact ⟨rfl, h.put _ _⟩
  | skip => exact ⟨rfl, h.put _ _⟩
  | enter f args =>
   simp only
   cases call f args s with
   | ret v s => exact ⟨rfl, h.put _ _⟩
   | panic c s => trivial
   | stuck => trivial
  | _ => trivial
theorem ops_sim (ops : List Oper) : ∀ (l : List Oper) (F : FF) (a : Fr) (s : St), (l.all fun o => o.op.operands.toList.all (tmpB N) && guardN N ops o) = true → Agrees N F a → SimOut N (opsF P call ops l F s) (opsM P call ops l a s)
 | [], F, a, s, _, h => ⟨rfl, h⟩
 | o :: l, F, a, s, hl, h => by
  simp only [List.all_cons, Bool.and_eq_true] at hl
  have hl2 : (l.all fun o => o.op.operands.toList.all (tmpB N) && guardN N ops o) = true := by simpa using hl.2
  simp only [opsF, opsM]
  rw [wanted_sim h hl.1.2]
  cases yS ops F o with
  | false => exact ops_sim ops l _ _ s hl2 (h.put _ _)
  | true =>
   have h1 := op_sim (P := P) (call := call) (s := s) h hl.1.1
   simp only
   cases hf : opF P call o F s with
   | normal F₁ s₁ =>
    rw [hf] at h1
    cases hm : opM P call o a s with
    | normal a₁ s₂ =>
     rw [hm] at h1
     obtain ⟨rfl, h2⟩ := h1
     exact ops_sim ops l F₁ a₁ _ hl2 h2
    | _ => rw [hm] at h1; exact h1.elim
   | _ => trivial
theorem block_sim {F : FF} {a : Fr} {o : Oper} (h : Agrees N F a) (ho : o.op.operands.toList.all (tmpB N) = true) (ha : allocN N o = true) : yD a o = yZ F o := by
 unfold yD yZ
 cases hop : o.op with
 | load t x =>
  simp only
  rw [h.eval (by rw [List.all_eq_true] at ho; exact ho x (by rw [hop]; simp [Op.operands]))]
  rfl
 | alloc t =>
  simp only
  unfold allocN at ha
  rw [hop] at ha
  cases hd : o.dst with
  | none => rfl
  | some u =>
   rw [hd] at ha
   simp only at ha ⊢
   rw [h.get u (Nat.blt_eq.mp ha)]
   rfl
 | _ => rfl
theorem blocks_sim {ops : List Oper} {F : FF} {a : Fr} (h : Agrees N F a) (ho : ∀ o ∈ ops, o.op.operands.toList.all (tmpB N) = true ∧ allocN N o = true) : ∀ l, yl ops a l = yB ops F l
 | [] => rfl
 | i :: l => by
  simp only [yl, yB]
  cases hg : yo ops i with
  | none => exact blocks_sim h ho l
  | some o =>
   simp only
   rw [block_sim h (ho o (by rw [yx] at hg; exact List.mem_of_getElem? hg)).1 (ho o (by rw [yx] at hg; exact List.mem_of_getElem? hg)).2, blocks_sim h ho l]
   rfl
theorem drawOp_sim {ops : List Oper} (ho : ∀ o ∈ ops, o.op.operands.toList.all (tmpB N) = true ∧ guardN N ops o = true) {d : Drawn} {o : Oper} (hmem : o ∈ ops) {F : FF} {a : Fr} {s : St} (h : Agrees N F a) :
  SimOut N (drawOpF P call ops d o F s) (yr P call ops d o a s) := by
 unfold drawOpF yr
 rw [wanted_sim h (ho o hmem).2]
 cases yS ops F o with
 | false => exact ⟨rfl, h.put _ _⟩
 | true =>
  simp only
  cases d.how with
  | light =>
   simp only
   rw [block_sim h (ho o hmem).1 (Bool.and_eq_true_iff.mp (ho o hmem).2).2]
   have h1 := op_sim (P := P) (call := call) (s := { next := s.next, bar := s.next, prot := [], heap := only s (yZ F o) }) h (ho o hmem).1
   cases hf : opF P call o F { next := s.next, bar := s.next, prot := [], heap := only s (yZ F o) } with
   | normal F₁ s₁ =>
    rw [hf] at h1
    cases hm : opM P call o a { next := s.next, bar := s.next, prot := [], heap := only s (yZ F o) } with
    | normal a₁ s₂ =>
     rw [hm] at h1
     obtain ⟨rfl, h2⟩ := h1
     simp only
     cases Nat.beq s₂.next s.next with
     | true => exact ⟨rfl, h2⟩
     | false => trivial
    | _ => rw [hm] at h1; exact h1.elim
   | _ => trivial
  | whole =>
   simp only
   rw [blocks_sim h (fun o hm => ⟨(ho o hm).1, (Bool.and_eq_true_iff.mp (ho o hm).2).2⟩)]
   have h1 := op_sim (P := P) (call := call) (s := { s with prot := yB ops F d.free ++ s.prot }) h (ho o hmem).1
   cases hf : opF P call o F { s with prot := yB ops F d.free ++ s.prot } with
   | normal F₁ s₁ =>
    rw [hf] at h1
    cases hm : opM P call o a { s with prot := yB ops F d.free ++ s.prot } with
    | normal a₁ s₂ =>
     rw [hm] at h1
     obtain ⟨rfl, h2⟩ := h1
     exact ⟨rfl, h2⟩
    | _ => rw [hm] at h1; exact h1.elim
   | _ => trivial
  | fresh =>
   simp only
   have h1 := op_sim (P := P) (call := call) (s := { s with bar := s.next }) h (ho o hmem).1
   cases hf : opF P call o F { s with bar := s.next } with
   | normal F₁ s₁ =>
    rw [hf] at h1
    cases hm : opM P call o a { s with bar := s.next } with
    | normal a₁ s₂ =>
     rw [hm] at h1
     obtain ⟨rfl, h2⟩ := h1
     exact ⟨rfl, h2⟩
    | _ => rw [hm] at h1; exact h1.elim
   | _ => trivial
  | new =>
   simp only
   have h1 := op_sim (P := P) (call := call) (s := { next := s.next, bar := s.next, prot := [], heap := .nil }) h (ho o hmem).1
   cases hf : opF P call o F { next := s.next, bar := s.next, prot := [], heap := .nil } with
   | normal F₁ s₁ =>
    rw [hf] at h1
    cases hm : opM P call o a { next := s.next, bar := s.next, prot := [], heap := .nil } with
    | normal a₁ s₂ =>
     rw [hm] at h1
     obtain ⟨rfl, h2⟩ := h1
     simp only
     rw [block_sim h2 (ho o hmem).1 (Bool.and_eq_true_iff.mp (ho o hmem).2).2]
     cases Nat.beq s₂.next (s.next + 1) && s.room with
     | false => trivial
     | true =>
      cases yZ F₁ o with
      | none => trivial
      | some b =>
       cases s₂.get s.next with
       | none => trivial
       | some ob =>
        simp only
        cases Nat.beq b s.next with
        | true => exact ⟨rfl, h2⟩
        | false => trivial
    | _ => rw [hm] at h1; exact h1.elim
   | _ => trivial
theorem draw_sim {ops : List Oper} (ho : ∀ o ∈ ops, o.op.operands.toList.all (tmpB N) = true ∧ guardN N ops o = true) : ∀ (l : List Drawn) (F : FF) (a : Fr) (s : St), Agrees N F a → SimOut N (drawF P call ops l F s) (qv P call ops l a s)
 | [], F, a, s, h => ⟨rfl, h⟩
 | d :: l, F, a, s, h => by
  simp only [drawF, qv]
  cases hg : yo ops d.ix with
  | none => trivial
  | some o =>
   simp only
   have h1 := drawOp_sim (P := P) (call := call) ho (d := d) (o := o) (by rw [yx] at hg; exact List.mem_of_getElem? hg) (s := s) h
   cases hf : drawOpF P call ops d o F s with
   | normal F₁ s₁ =>
    rw [hf] at h1
    cases hm : yr P call ops d o a s with
    | normal a₁ s₂ =>
     rw [hm] at h1
     obtain ⟨rfl, h2⟩ := h1
     exact draw_sim ho l F₁ a₁ _ h2
    | _ => rw [hm] at h1; exact h1.elim
   | _ => trivial
theorem xC {I : zJ} : ∀ (n : Nat) (c : Code) (F : FF) (a : Fr) (s : St), codeN N c = true → Agrees N F a → SimOut N (yJ P I n c F s) (zL P I n c a s)
 | 0, _, _, _, _, _, _ => trivial
 | n + 1, c, F, a, s, hc, h => by
  cases c with
  | skip => exact ⟨rfl, h⟩
  | label _ => exact ⟨rfl, h⟩
  | exit id => exact ⟨rfl, rfl, h⟩
  | ret => exact ⟨rfl, h⟩
  | seq x y =>
   simp only [codeN, Bool.and_eq_true] at hc
   have h1 := xC (I := I) n x F a s hc.1 h
   simp only [yJ, zL]
   cases hf : yJ P I n x F s with
   | normal F₁ s₁ =>
    rw [hf] at h1
    cases hm : zL P I n x a s with
    | normal a₁ s₂ =>
     rw [hm] at h1
     obtain ⟨rfl, h2⟩ := h1
     exact xC n y F₁ a₁ _ hc.2 h2
    | _ => rw [hm] at h1; exact h1.elim
   | exit id F₁ s₁ =>
    rw [hf] at h1
    cases hm : zL P I n x a s with
    | exit id' a₁ s₂ => rw [hm] at h1; exact h1
    | _ => rw [hm] at h1; exact h1.elim
   | ret F₁ s₁ =>
    rw [hf] at h1
    cases hm : zL P I n x a s with
    | ret a₁ s₂ => rw [hm] at h1; exact h1
    | _ => rw [hm] at h1; exact h1.elim
   | stuck => trivial
  | cond x y z =>
   simp only [codeN, Bool.and_eq_true] at hc
   simp only [yJ, zL]
   rw [h.eval hc.1.1]
   cases zn F x with
   | bool b => cases b with
    | true => exact xC n y F a s hc.1.2 h
    | false => exact xC n z F a s hc.2 h
   | _ => trivial
  | block id b =>
   simp only [codeN] at hc
   have h1 := xC (I := I) n b F a s hc h
   simp only [yJ, zL]
   cases hf : yJ P I n b F s with
   | normal F₁ s₁ =>
    rw [hf] at h1
    cases hm : zL P I n b a s with
    | normal a₁ s₂ => rw [hm] at h1; exact h1
    | _ => rw [hm] at h1; exact h1.elim
   | exit id₁ F₁ s₁ =>
    rw [hf] at h1
    cases hm : zL P I n b a s with
    | exit id' a₁ s₂ =>
     rw [hm] at h1
     obtain ⟨rfl, rfl, h2⟩ := h1
     simp only
     cases Nat.beq id' id with
     | true => exact ⟨rfl, h2⟩
     | false => exact ⟨rfl, rfl, h2⟩
    | _ => rw [hm] at h1; exact h1.elim
   | ret F₁ s₁ =>
    rw [hf] at h1
    cases hm : zL P I n b a s with
    | ret a₁ s₂ => rw [hm] at h1; exact h1
    | _ => rw [hm] at h1; exact h1.elim
   | stuck => trivial
  | loop b =>
   simp only [codeN] at hc
   have h1 := xC (I := I) n b F a s hc h
   simp only [yJ, zL]
   cases hf : yJ P I n b F s with
   | normal F₁ s₁ =>
    rw [hf] at h1
    cases hm : zL P I n b a s with
    | normal a₁ s₂ =>
     rw [hm] at h1
     obtain ⟨rfl, h2⟩ := h1
     exact xC n (.loop b) F₁ a₁ _ (by simpa only [codeN] using hc) h2
    | _ => rw [hm] at h1; exact h1.elim
   | exit id F₁ s₁ =>
    rw [hf] at h1
    cases hm : zL P I n b a s with
    | exit id' a₁ s₂ => rw [hm] at h1; exact h1
    | _ => rw [hm] at h1; exact h1.elim
   | ret F₁ s₁ =>
    rw [hf] at h1
    cases hm : zL P I n b a s with
    | ret a₁ s₂ => rw [hm] at h1; exact h1
    | _ => rw [hm] at h1; exact h1.elim
   | stuck => trivial
  | region id ops draw =>
   simp only [codeN] at hc
   simp only [yJ, zL]
   cases draw with
   | false => exact ops_sim ops.toList ops.toList F a s hc h
   | true =>
    simp only
    cases planB ops.toList (plan ops.toList) with
    | false => trivial
    | true =>
     refine draw_sim (fun o ho => ?_) _ F a s h
     unfold opsN at hc
     rw [List.all_eq_true] at hc
     simpa using hc o ho
  | _ => trivial
end
end Go.M
namespace Go.M
section
variable (P : Program) (I : zJ)
def yE (f : FuncId) (args : Array Value) (s : St) (v : Value) (s' : St) : Prop := ∃ n, ∀ m, n ≤ m → callM P I m f args s = .ret v s'
def OpW (o : Oper) (F : FF) (s : St) (Q : FF → St → Prop) : Prop :=
 ∃ F' s', Q F' s' ∧ ∃ n, ∀ m, n ≤ m → opF P (callM P I m) o F s = .normal F' s'
def OpsW (ops l : List Oper) (F : FF) (s : St) (Q : FF → St → Prop) : Prop :=
 ∃ F' s', Q F' s' ∧ ∃ n, ∀ m, n ≤ m → opsF P (callM P I m) ops l F s = .normal F' s'
def xe (ops : List Oper) (l : List Drawn) (F : FF) (s : St) (Q : FF → St → Prop) : Prop :=
 ∃ F' s', Q F' s' ∧ ∃ n, ∀ m, n ≤ m → drawF P (callM P I m) ops l F s = .normal F' s'
def y3 (c : Code) (F : FF) (s : St) (Q : FOut → Prop) : Prop :=
 ∃ o, Q o ∧ ∃ n, ∀ m, n ≤ m → yJ P I m c F s = o
end
section
variable {P : Program} {I : zJ}
theorem zb {ops : List Oper} {F : FF} {s : St} {Q : FF → St → Prop} (h : Q F s) : OpsW P I ops [] F s Q := ⟨F, s, h, 0, fun _ _ => rfl⟩
theorem za {ops : List Oper} {o : Oper} {rest : List Oper} {F : FF} {s : St} {Q : FF → St → Prop} (hw : yS ops F o = true)
  (h : OpW P I o F s fun F s => OpsW P I ops rest F s Q) : OpsW P I ops (o :: rest) F s Q := by
 obtain ⟨F₁, s₁, ⟨F₂, s₂, hq, n₂, h2⟩, n₁, h1⟩ := h
 refine ⟨F₂, s₂, hq, n₁ + n₂, fun m hm => ?_⟩
 simp only [opsF, hw, h1 m (by omega)]
 exact h2 m (by omega)
theorem zg {ops : List Oper} {o : Oper} {rest : List Oper} {F : FF} {s : St} {Q : FF → St → Prop} (hw : yS ops F o = false)
  (h : OpsW P I ops rest (upd F o.dst undef) s Q) : OpsW P I ops (o :: rest) F s Q := by
 obtain ⟨F₂, s₂, hq, n₂, h2⟩ := h
 refine ⟨F₂, s₂, hq, n₂, fun m hm => ?_⟩
 simp only [opsF, hw]
 exact h2 m (by omega)
theorem z2 {ops : List Oper} {F : FF} {s : St} {Q : FF → St → Prop} (h : Q F s) : xe P I ops [] F s Q := ⟨F, s, h, 0, fun _ _ => rfl⟩
theorem ze {ops : List Oper} {ix anc : Nat} {free : List Nat} {o : Oper} {rest : List Drawn} {F : FF} {s : St} {Q : FF → St → Prop} (hg : yo ops ix = some o) (hw : yS ops F o = true)
  (h : OpW P I o F { next := s.next, bar := s.next, prot := [], heap := only s (yZ F o) } fun F' s' => s'.next = s.next ∧ xe P I ops rest F' s Q) :
  xe P I ops (⟨ix, anc, .light, free⟩ :: rest) F s Q := by
 obtain ⟨F₁, s₁, ⟨hn, F₂, s₂, hq, n₂, h2⟩, n₁, h1⟩ := h
 refine ⟨F₂, s₂, hq, n₁ + n₂, fun m hm => ?_⟩
 have hb : Nat.beq s₁.next s.next = true := by rw [hn]; exact Nat.beq_refl _
 simp only [drawF, hg, drawOpF, hw, h1 m (by omega), hb]
 exact h2 m (by omega)
theorem zU {ops : List Oper} {ix anc : Nat} {free : List Nat} {o : Oper} {rest : List Drawn} {F : FF} {s : St} {Q : FF → St → Prop} (hg : yo ops ix = some o) (hw : yS ops F o = true)
  (h : OpW P I o F { s with prot := yB ops F free ++ s.prot } fun F' s' => xe P I ops rest F' { next := s'.next, bar := s.bar, prot := s.prot, heap := s'.heap } Q) :
  xe P I ops (⟨ix, anc, .whole, free⟩ :: rest) F s Q := by
 obtain ⟨F₁, s₁, ⟨F₂, s₂, hq, n₂, h2⟩, n₁, h1⟩ := h
 refine ⟨F₂, s₂, hq, n₁ + n₂, fun m hm => ?_⟩
 simp only [drawF, hg, drawOpF, hw, h1 m (by omega)]
 exact h2 m (by omega)
theorem draw_fresh {ops : List Oper} {ix anc : Nat} {free : List Nat} {o : Oper} {rest : List Drawn} {F : FF} {s : St} {Q : FF → St → Prop} (hg : yo ops ix = some o) (hw : yS ops F o = true)
  (h : OpW P I o F { s with bar := s.next } fun F' s' => xe P I ops rest F' { next := s'.next, bar := s.bar, prot := s.prot, heap := s'.heap } Q) :
  xe P I ops (⟨ix, anc, .fresh, free⟩ :: rest) F s Q := by
 obtain ⟨F₁, s₁, ⟨F₂, s₂, hq, n₂, h2⟩, n₁, h1⟩ := h
 refine ⟨F₂, s₂, hq, n₁ + n₂, fun m hm => ?_⟩
 simp only [drawF, hg, drawOpF, hw, h1 m (by omega)]
 exact h2 m (by omega)
theorem draw_new {ops : List Oper} {ix anc : Nat} {free : List Nat} {t : Tmp} {e : TypeId} {ty : TypeId} {pos : String} {af : Array Edge} {g : Option (Nat × Bool)} {ob : MObj} {rest : List Drawn} {F : FF} {s : St} {Q : FF → St → Prop} (hg : yo ops ix = some ⟨some t, .alloc e, ty, pos, af, g⟩) (hw : yS ops F ⟨some t, .alloc e, ty, pos, af, g⟩ = true) (hroom : s.room = true)
  (hv : zr P (zn F) (.alloc e) { next := s.next, bar := s.next, prot := [], heap := .nil } = .ok (.value (.pointer (some ⟨s.next, 0, none⟩))) (({ next := s.next, bar := s.next, prot := [], heap := .nil } : St).new ob))
  (h : xe P I ops rest (upd F (some t) (.pointer (some ⟨s.next, 0, none⟩))) (s.new ob) Q) :
  xe P I ops (⟨ix, anc, .new, free⟩ :: rest) F s Q := by
 obtain ⟨F₂, s₂, hq, n₂, h2⟩ := h
 refine ⟨F₂, s₂, hq, n₂, fun m hm => ?_⟩
 have hb : yZ (upd F (some t) (.pointer (some ⟨s.next, 0, none⟩))) ⟨some t, .alloc e, ty, pos, af, g⟩ = some s.next := by
  simp [yZ, upd]
 have hn : (({ next := s.next, bar := s.next, prot := [], heap := .nil } : St).new ob).next = s.next + 1 := rfl
 have hr := room_lt hroom
 have hgo : (({ next := s.next, bar := s.next, prot := [], heap := .nil } : St).new ob).get s.next = some ob := by
  rw [St.get_new (by show s.next + 1 < _; omega)]
  exact if_pos rfl
 simp only [drawF, hg, drawOpF, hw, opF, hv, hb, hn, hgo, hroom, Nat.beq_refl, Bool.and_self]
 exact h2 m hm
def seqQ (P : Program) (I : zJ) (y : Code) (Q : FOut → Prop) : FOut → Prop
 | .normal F s => y3 P I y F s Q
 | o => Q o
def blockQ (id : Nat) (Q : FOut → Prop) : FOut → Prop
 | .exit i F s => match Nat.beq i id with
  | true => Q (.normal F s)
  | false => Q (.exit i F s)
 | o => Q o
theorem zA {F : FF} {s : St} {Q : FOut → Prop} (h : Q (.normal F s)) : y3 P I .skip F s Q := by
 refine ⟨_, h, 1, fun m hm => ?_⟩
 obtain ⟨m, rfl⟩ : ∃ k, m = k + 1 := ⟨m - 1, by omega⟩
 rfl
theorem yn {id : Nat} {F : FF} {s : St} {Q : FOut → Prop} (h : Q (.exit id F s)) : y3 P I (.exit id) F s Q := by
 refine ⟨_, h, 1, fun m hm => ?_⟩
 obtain ⟨m, rfl⟩ : ∃ k, m = k + 1 := ⟨m - 1, by omega⟩
 rfl
theorem zF {F : FF} {s : St} {Q : FOut → Prop} (h : Q (.ret F s)) : y3 P I .ret F s Q := by
 refine ⟨_, h, 1, fun m hm => ?_⟩
 obtain ⟨m, rfl⟩ : ∃ k, m = k + 1 := ⟨m - 1, by omega⟩
 rfl
theorem zq {x y : Code} {F : FF} {s : St} {Q : FOut → Prop} (h : y3 P I x F s (seqQ P I y Q)) : y3 P I (.seq x y) F s Q := by
 obtain ⟨o, hq, n, hn⟩ := h
 cases o with
 | normal F₁ s₁ =>
  obtain ⟨o₂, hq2, n₂, hn2⟩ := hq
  refine ⟨o₂, hq2, n + n₂ + 1, fun m hm => ?_⟩
  obtain ⟨m, rfl⟩ : ∃ k, m = k + 1 := ⟨m - 1, by omega⟩
  simp only [yJ, hn m (by omega)]
  exact hn2 m (by omega)
 | exit i F₁ s₁ =>
  refine ⟨_, hq, n + 1, fun m hm => ?_⟩
  obtain ⟨m, rfl⟩ : ∃ k, m = k + 1 := ⟨m - 1, by omega⟩
  simp only [yJ, hn m (by omega)]
 | ret F₁ s₁ =>
  refine ⟨_, hq, n + 1, fun m hm => ?_⟩
  obtain ⟨m, rfl⟩ : ∃ k, m = k + 1 := ⟨m - 1, by omega⟩
  simp only [yJ, hn m (by omega)]
 | stuck =>
  refine ⟨_, hq, n + 1, fun m hm => ?_⟩
  obtain ⟨m, rfl⟩ : ∃ k, m = k + 1 := ⟨m - 1, by omega⟩
  simp only [yJ, hn m (by omega)]
theorem zE {c : Operand} {x y : Code} {F : FF} {s : St} {Q : FOut → Prop} (hc : zn F c = .bool true) (h : y3 P I x F s Q) : y3 P I (.cond c x y) F s Q := by
 obtain ⟨o, hq, n, hn⟩ := h
 refine ⟨o, hq, n + 1, fun m hm => ?_⟩
 obtain ⟨m, rfl⟩ : ∃ k, m = k + 1 := ⟨m - 1, by omega⟩
 simp only [yJ, hc]
 exact hn m (by omega)
theorem zx {c : Operand} {x y : Code} {F : FF} {s : St} {Q : FOut → Prop} (hc : zn F c = .bool false) (h : y3 P I y F s Q) : y3 P I (.cond c x y) F s Q := by
 obtain ⟨o, hq, n, hn⟩ := h
 refine ⟨o, hq, n + 1, fun m hm => ?_⟩
 obtain ⟨m, rfl⟩ : ∃ k, m = k + 1 := ⟨m - 1, by omega⟩
 simp only [yJ, hc]
 exact hn m (by omega)
theorem zI {id : Nat} {b : Code} {F : FF} {s : St} {Q : FOut → Prop} (h : y3 P I b F s (blockQ id Q)) : y3 P I (.block id b) F s Q := by
 obtain ⟨o, hq, n, hn⟩ := h
 cases o with
 | exit i F₁ s₁ =>
  cases hb : Nat.beq i id with
  | true =>
   simp only [blockQ, hb] at hq
   refine ⟨_, hq, n + 1, fun m hm => ?_⟩
   obtain ⟨m, rfl⟩ : ∃ k, m = k + 1 := ⟨m - 1, by omega⟩
   simp only [yJ, hn m (by omega), hb]
  | false =>
   simp only [blockQ, hb] at hq
   refine ⟨_, hq, n + 1, fun m hm => ?_⟩
   obtain ⟨m, rfl⟩ : ∃ k, m = k + 1 := ⟨m - 1, by omega⟩
   simp only [yJ, hn m (by omega), hb]
 | normal F₁ s₁ =>
  refine ⟨_, hq, n + 1, fun m hm => ?_⟩
  obtain ⟨m, rfl⟩ : ∃ k, m = k + 1 := ⟨m - 1, by omega⟩
  simp only [yJ, hn m (by omega)]
 | ret F₁ s₁ =>
  refine ⟨_, hq, n + 1, fun m hm => ?_⟩
  obtain ⟨m, rfl⟩ : ∃ k, m = k + 1 := ⟨m - 1, by omega⟩
  simp only [yJ, hn m (by omega)]
 | stuck =>
  refine ⟨_, hq, n + 1, fun m hm => ?_⟩
  obtain ⟨m, rfl⟩ : ∃ k, m = k + 1 := ⟨m - 1, by omega⟩
  simp only [yJ, hn m (by omega)]
def loopQ (Inv : Nat → FF → St → Prop) (k : Nat) (Q : FOut → Prop) : FOut → Prop
 | .normal F s => ∃ k', k' < k ∧ Inv k' F s
 | o => Q o
theorem yP {b : Code} {Q : FOut → Prop} (Inv : Nat → FF → St → Prop) (step : ∀ k F s, Inv k F s → y3 P I b F s (loopQ Inv k Q)) :
  ∀ (k : Nat) (F : FF) (s : St), Inv k F s → y3 P I (.loop b) F s Q := by
 intro k
 induction k using Nat.strongRecOn with
 | _ k ih =>
  intro F s hi
  obtain ⟨o, hq, n, hn⟩ := step k F s hi
  cases o with
  | normal F₁ s₁ =>
   obtain ⟨k', hk, hi'⟩ := hq
   obtain ⟨o₂, hq2, n₂, hn2⟩ := ih k' hk F₁ s₁ hi'
   refine ⟨o₂, hq2, n + n₂ + 1, fun m hm => ?_⟩
   obtain ⟨m, rfl⟩ : ∃ k, m = k + 1 := ⟨m - 1, by omega⟩
   simp only [yJ, hn m (by omega)]
   exact hn2 m (by omega)
  | exit i F₁ s₁ =>
   refine ⟨_, hq, n + 1, fun m hm => ?_⟩
   obtain ⟨m, rfl⟩ : ∃ k, m = k + 1 := ⟨m - 1, by omega⟩
   simp only [yJ, hn m (by omega)]
  | ret F₁ s₁ =>
   refine ⟨_, hq, n + 1, fun m hm => ?_⟩
   obtain ⟨m, rfl⟩ : ∃ k, m = k + 1 := ⟨m - 1, by omega⟩
   simp only [yJ, hn m (by omega)]
  | stuck =>
   refine ⟨_, hq, n + 1, fun m hm => ?_⟩
   obtain ⟨m, rfl⟩ : ∃ k, m = k + 1 := ⟨m - 1, by omega⟩
   simp only [yJ, hn m (by omega)]
theorem zv {id : Nat} {ops : Array Oper} {F : FF} {s : St} {Q : FOut → Prop} (h : OpsW P I ops.toList ops.toList F s fun F s => Q (.normal F s)) : y3 P I (.region id ops false) F s Q := by
 obtain ⟨F₁, s₁, hq, n, hn⟩ := h
 refine ⟨_, hq, n + 1, fun m hm => ?_⟩
 obtain ⟨m, rfl⟩ : ∃ k, m = k + 1 := ⟨m - 1, by omega⟩
 simp only [yJ]
 exact hn m (by omega)
theorem cw_draw {id : Nat} {ops : Array Oper} {F : FF} {s : St} {Q : FOut → Prop} (l : List Drawn) (hb : planB ops.toList (plan ops.toList) = true) (hl : plan ops.toList = l)
  (h : xe P I ops.toList l F s fun F s => Q (.normal F s)) : y3 P I (.region id ops true) F s Q := by
 obtain ⟨F₁, s₁, hq, n, hn⟩ := h
 refine ⟨_, hq, n + 1, fun m hm => ?_⟩
 obtain ⟨m, rfl⟩ : ∃ k, m = k + 1 := ⟨m - 1, by omega⟩
 simp only [yJ, hb]
 rw [hl]
 exact hn m (by omega)
theorem zc {id : Nat} {ops : Array Oper} {y : Code} {F : FF} {s : St} {Q : FOut → Prop} (h : OpsW P I ops.toList ops.toList F s fun F s => y3 P I y F s Q) : y3 P I (.seq (.region id ops false) y) F s Q :=
 zq (zv h)
theorem yC {id : Nat} {ops : Array Oper} {y : Code} {F : FF} {s : St} {Q : FOut → Prop} (l : List Drawn) (hb : planB ops.toList (plan ops.toList) = true) (hl : plan ops.toList = l)
  (h : xe P I ops.toList l F s fun F s => y3 P I y F s Q) : y3 P I (.seq (.region id ops true) y) F s Q :=
 zq (cw_draw l hb hl h)
def Slots (F : FF) : List (Nat × Value) → Prop
 | [] => True
 | (d, v) :: l => F d = v ∧ Slots F l
def lay (G : FF) : List (Nat × Value) → FF
 | [] => G
 | (d, v) :: l => upd (lay G l) (some d) v
theorem lay_self {F : FF} : ∀ {l : List (Nat × Value)}, Slots F l → lay F l = F
 | [], _ => rfl
 | (d, v) :: l, h => by
  funext t
  simp only [lay, upd_eq, lay_self h.2]
  split
  ·next e => rw [e]; exact h.1.symm
  ·rfl
theorem yd {F : FF} {l : List (Nat × Value)} (h : Slots F l) : F = lay F l := (lay_self h).symm
theorem cw_frame {c : Code} {F : FF} {s : St} {Q : FOut → Prop} (l : List (Nat × Value)) (h : Slots F l) (k : ∀ G, y3 P I c (lay G l) s Q) : y3 P I c F s Q := by
 have := k F
 rwa [lay_self h] at this
def fillF : List Value → Nat → FF → FF
 | [], _, F => F
 | v :: l, n, F => fillF l (n + 1) (upd F (some n) v)
def frameOf (args : Array Value) : FF := fillF args.toList 0 fun _ => undef
theorem agrees_fill : ∀ (l : List Value) (n N : Nat) (F : FF) (t : Tr Value), n + l.length ≤ N → Agrees N F ⟨N, t⟩ → Agrees N (fillF l n F) ⟨N, fillT l n t⟩
 | [], _, _, _, _, _, h => h
 | v :: l, n, N, F, t, hn, h => by
  simp only [List.length_cons] at hn
  simp only [fillF, fillT]
  refine agrees_fill l (n + 1) N _ _ (by omega) ?_
  have := h.put (some n) v
  have hb : Nat.blt n N = true := blt_true (by omega)
  simpa only [Fr.put, hb] using this
theorem agrees_make {args : Array Value} {N : Nat} (h1 : args.toList.length ≤ N) (h2 : N ≤ 65534) : Agrees N (frameOf args) (Fr.make args N) := by
 refine agrees_fill _ 0 N _ _ (by omega) ⟨rfl, h2, fun t _ => ?_⟩
 simp [Fr.get, Tr.get]
def xS (P : Program) (F : FF) (s : St) : List ResultVar → Option (List Value)
 | [] => some []
 | .tmp t :: l => match xS P F s l with
  | some r => some (F t :: r)
  | none => none
 | .cell t ty :: l => match loadV P ty (F t) s, xS P F s l with
  | some v, some r => some (v :: r)
  | _, _ => none
def resultB (N : Nat) : ResultVar → Bool
 | .tmp t => Nat.blt t N
 | .cell t _ => Nat.blt t N
theorem qt {N : Nat} {F : FF} {a : Fr} {s : St} (h : Agrees N F a) : ∀ l : List ResultVar, l.all (resultB N) = true → y6 P a s l = xS P F s l
 | [], _ => rfl
 | .tmp t :: l, hl => by
  simp only [List.all_cons, Bool.and_eq_true, resultB] at hl
  simp only [y6, xS]
  rw [qt h l (by simpa using hl.2), h.get t (Nat.le_of_ble_eq_true hl.1)]
  rfl
 | .cell t ty :: l, hl => by
  simp only [List.all_cons, Bool.and_eq_true, resultB] at hl
  simp only [y6, xS]
  rw [qt h l (by simpa using hl.2), h.get t (Nat.le_of_ble_eq_true hl.1)]
  rfl
def endQ (P : Program) (rs : List ResultVar) (Post : Value → St → Prop) (F : FF) (s : St) : Prop :=
 match xS P F s rs with
 | some [v] => Post v s
 | some l => Post (.tuple ⟨l⟩) s
 | none => False
def retQ (P : Program) (rs : List ResultVar) (Post : Value → St → Prop) : FOut → Prop
 | .normal F s => endQ P rs Post F s
 | .ret F s => endQ P rs Post F s
 | _ => False
def yw (fn : Func) (c : Code) (n : Nat) : Bool :=
 Nat.ble n fn.ntmps && Nat.ble fn.ntmps 65534 && xM c && codeN fn.ntmps c && fn.results.toList.all (resultB fn.ntmps)
theorem z6 {t : Nat} {F : FF} {s : St} {Post : Value → St → Prop} (h : Post (F t) s) : endQ P [.tmp t] Post F s := h
theorem zt {rs : List ResultVar} {F : FF} {s : St} {Post : Value → St → Prop} (h : endQ P rs Post F s) : retQ P rs Post (.ret F s) := h
theorem nrm_end {rs : List ResultVar} {F : FF} {s : St} {Post : Value → St → Prop} (h : endQ P rs Post F s) : retQ P rs Post (.normal F s) := h
theorem zi {y : Code} {Q : FOut → Prop} {F : FF} {s : St} (h : y3 P I y F s Q) : seqQ P I y Q (.normal F s) := h
theorem zV {y : Code} {Q : FOut → Prop} {F : FF} {s : St} (h : Q (.ret F s)) : seqQ P I y Q (.ret F s) := h
theorem zX {y : Code} {Q : FOut → Prop} {i : Nat} {F : FF} {s : St} (h : Q (.exit i F s)) : seqQ P I y Q (.exit i F s) := h
theorem zP {id : Nat} {Q : FOut → Prop} {F : FF} {s : St} (h : Q (.normal F s)) : blockQ id Q (.normal F s) := h
theorem yz {id : Nat} {Q : FOut → Prop} {F : FF} {s : St} (h : Q (.ret F s)) : blockQ id Q (.ret F s) := h
theorem ye {id : Nat} {Q : FOut → Prop} {F : FF} {s : St} (h : Q (.normal F s)) : blockQ id Q (.exit id F s) := by
 simp only [blockQ, Nat.beq_refl]; exact h
theorem blk_exit {id i : Nat} {Q : FOut → Prop} {F : FF} {s : St} (hi : Nat.beq i id = false) (h : Q (.exit i F s)) : blockQ id Q (.exit i F s) := by
 simp only [blockQ, hi]; exact h
theorem zN {Inv : Nat → FF → St → Prop} {k : Nat} {Q : FOut → Prop} {F : FF} {s : St} (h : ∃ k', k' < k ∧ Inv k' F s) : loopQ Inv k Q (.normal F s) := h
theorem qC {Inv : Nat → FF → St → Prop} {k : Nat} {Q : FOut → Prop} {F : FF} {s : St} (h : Q (.ret F s)) : loopQ Inv k Q (.ret F s) := h
theorem yh {Inv : Nat → FF → St → Prop} {k i : Nat} {Q : FOut → Prop} {F : FF} {s : St} (h : Q (.exit i F s)) : loopQ Inv k Q (.exit i F s) := h
theorem zY {f : FuncId} {args : Array Value} {s : St} {fn : Func} {c : Code} {Post : Value → St → Prop} (n : Nat) (hI : I f = none) (hf : P.funcs[f]? = some fn) (hb : fn.body = some c) (hc : yw fn c n = true)
  (hn : args.toList.length = n) (h : y3 P I c (frameOf args) s (retQ P fn.results.toList Post)) : ∃ v s', yE P I f args s v s' ∧ Post v s' := by
 simp only [yw, Bool.and_eq_true] at hc
 obtain ⟨⟨⟨⟨h1, h2⟩, h3⟩, h4⟩, h5⟩ := hc
 obtain ⟨o, hq, k, hk⟩ := h
 have hag : Agrees fn.ntmps (frameOf args) (Fr.make args fn.ntmps) := agrees_make (by rw [hn]; exact Nat.le_of_ble_eq_true h1) (Nat.le_of_ble_eq_true h2)
 have hgate : (Nat.ble (yY args.toList 0) fn.ntmps && Nat.ble fn.ntmps 65534 && xM c) = true := by
  rw [y9, hn, Nat.add_zero, h1, h2, h3]; rfl
 have hfin : ∀ F s', endQ P fn.results.toList Post F s' → ∃ v, Post v s' ∧ ∀ a, Agrees fn.ntmps F a → finish P fn a s' = .ret v s' := by
  intro F s' he
  unfold endQ at he
  split at he
  ·next v hv => exact ⟨v, he, fun a ha => by unfold finish; rw [qt ha _ h5, hv]⟩
  ·next l hl hv =>
   refine ⟨_, he, fun a ha => ?_⟩
   unfold finish
   rw [qt ha _ h5, hv]
   cases l with
   | nil => rfl
   | cons x l => cases l with
    | nil => exact (hl x rfl).elim
    | cons y l => rfl
  ·exact he.elim
 have hsim := fun m => xC (P := P) (I := I) m c (frameOf args) (Fr.make args fn.ntmps) s h4 hag
 cases o with
 | normal F s' =>
  obtain ⟨v, hv2, hv⟩ := hfin F s' hq
  refine ⟨v, s', ⟨k, fun m hmk => ?_⟩, hv2⟩
  have h0 := hsim m
  rw [hk m hmk] at h0
  simp only [callM, yQ, hI, hf, hb, bodyM, hgate]
  cases hm2 : zL P I m c (Fr.make args fn.ntmps) s with
  | normal a₃ s₃ =>
   rw [hm2] at h0
   obtain ⟨rfl, ha3⟩ := h0
   exact hv a₃ ha3
  | _ => rw [hm2] at h0; exact h0.elim
 | ret F s' =>
  obtain ⟨v, hv2, hv⟩ := hfin F s' hq
  refine ⟨v, s', ⟨k, fun m hmk => ?_⟩, hv2⟩
  have h0 := hsim m
  rw [hk m hmk] at h0
  simp only [callM, yQ, hI, hf, hb, bodyM, hgate]
  cases hm2 : zL P I m c (Fr.make args fn.ntmps) s with
  | ret a₃ s₃ =>
   rw [hm2] at h0
   obtain ⟨rfl, ha3⟩ := h0
   exact hv a₃ ha3
  | _ => rw [hm2] at h0; exact h0.elim
 | exit i F s' => exact hq.elim
 | stuck => exact hq.elim
end
end Go.M
