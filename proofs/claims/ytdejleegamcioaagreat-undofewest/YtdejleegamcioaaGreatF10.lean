/- What code comes to, whatever the fuel: rules for proofs about every argument. -/
import Derived.Test.YtdejleegamcioaaGreatF09
namespace Go.M
section
variable (P : Program) (I : yb)
def yI (f : FuncId) (args : Array Value) (s : St) (v : Value) (s' : St) : Prop := ∃ n, ∀ m, n ≤ m → callM P I m f args s = .ret v s'
def OpW (o : Oper) (F : FF) (s : St) (Q : FF → St → Prop) : Prop :=
 ∃ F' s', Q F' s' ∧ ∃ n, ∀ m, n ≤ m → opF P (callM P I m) o F s = .normal F' s'
def OpsW (ops l : List Oper) (F : FF) (s : St) (Q : FF → St → Prop) : Prop :=
 ∃ F' s', Q F' s' ∧ ∃ n, ∀ m, n ≤ m → opsF P (callM P I m) ops l F s = .normal F' s'
def xk (ops : List Oper) (l : List Drawn) (F : FF) (s : St) (Q : FF → St → Prop) : Prop :=
 ∃ F' s', Q F' s' ∧ ∃ n, ∀ m, n ≤ m → drawF P (callM P I m) ops l F s = .normal F' s'
def xD (c : Code) (F : FF) (s : St) (Q : FOut → Prop) : Prop :=
 ∃ o, Q o ∧ ∃ n, ∀ m, n ≤ m → y2 P I m c F s = o
end
section
variable {P : Program} {I : yb}
theorem OpW.mono {o : Oper} {F : FF} {s : St} {Q Q' : FF → St → Prop} (h : OpW P I o F s Q) (hq : ∀ F s, Q F s → Q' F s) : OpW P I o F s Q' := by
 obtain ⟨F', s', h1, h2⟩ := h
 exact ⟨F', s', hq _ _ h1, h2⟩
theorem zb {ops : List Oper} {F : FF} {s : St} {Q : FF → St → Prop} (h : Q F s) : OpsW P I ops [] F s Q := ⟨F, s, h, 0, fun _ _ => rfl⟩
theorem za {ops : List Oper} {o : Oper} {rest : List Oper} {F : FF} {s : St} {Q : FF → St → Prop} (hw : y5 ops F o = true)
  (h : OpW P I o F s fun F s => OpsW P I ops rest F s Q) : OpsW P I ops (o :: rest) F s Q := by
 obtain ⟨F₁, s₁, ⟨F₂, s₂, hq, n₂, h2⟩, n₁, h1⟩ := h
 refine ⟨F₂, s₂, hq, n₁ + n₂, fun m hm => ?_⟩
 simp only [opsF, hw, h1 m (by omega)]
 exact h2 m (by omega)
theorem zc {ops : List Oper} {o : Oper} {rest : List Oper} {F : FF} {s : St} {Q : FF → St → Prop} (hw : y5 ops F o = false)
  (h : OpsW P I ops rest (upd F o.dst undef) s Q) : OpsW P I ops (o :: rest) F s Q := by
 obtain ⟨F₂, s₂, hq, n₂, h2⟩ := h
 refine ⟨F₂, s₂, hq, n₂, fun m hm => ?_⟩
 simp only [opsF, hw]
 exact h2 m (by omega)
theorem zV {ops : List Oper} {F : FF} {s : St} {Q : FF → St → Prop} (h : Q F s) : xk P I ops [] F s Q := ⟨F, s, h, 0, fun _ _ => rfl⟩
theorem zA {ops : List Oper} {d : Drawn} {o : Oper} {rest : List Drawn} {F : FF} {s : St} {Q : FF → St → Prop} (hg : yA ops d.ix = some o) (hw : y5 ops F o = false)
  (h : xk P I ops rest (upd F o.dst undef) s Q) : xk P I ops (d :: rest) F s Q := by
 obtain ⟨F₂, s₂, hq, n₂, h2⟩ := h
 refine ⟨F₂, s₂, hq, n₂, fun m hm => ?_⟩
 simp only [drawF, hg, drawOpF, hw]
 exact h2 m (by omega)
theorem zd {ops : List Oper} {ix anc : Nat} {free : List Nat} {o : Oper} {rest : List Drawn} {F : FF} {s : St} {Q : FF → St → Prop} (hg : yA ops ix = some o) (hw : y5 ops F o = true)
  (h : OpW P I o F { next := s.next, bar := s.next, prot := [], heap := only s (x5 F o) } fun F' s' => s'.next = s.next ∧ xk P I ops rest F' s Q) :
  xk P I ops (⟨ix, anc, .light, free⟩ :: rest) F s Q := by
 obtain ⟨F₁, s₁, ⟨hn, F₂, s₂, hq, n₂, h2⟩, n₁, h1⟩ := h
 refine ⟨F₂, s₂, hq, n₁ + n₂, fun m hm => ?_⟩
 have hb : Nat.beq s₁.next s.next = true := by rw [hn]; exact Nat.beq_refl _
 simp only [drawF, hg, drawOpF, hw, h1 m (by omega), hb]
 exact h2 m (by omega)
theorem yn {ops : List Oper} {ix anc : Nat} {free : List Nat} {o : Oper} {rest : List Drawn} {F : FF} {s : St} {Q : FF → St → Prop} (hg : yA ops ix = some o) (hw : y5 ops F o = true)
  (h : OpW P I o F { s with prot := yT ops F free ++ s.prot } fun F' s' => xk P I ops rest F' { next := s'.next, bar := s.bar, prot := s.prot, heap := s'.heap } Q) :
  xk P I ops (⟨ix, anc, .whole, free⟩ :: rest) F s Q := by
 obtain ⟨F₁, s₁, ⟨F₂, s₂, hq, n₂, h2⟩, n₁, h1⟩ := h
 refine ⟨F₂, s₂, hq, n₁ + n₂, fun m hm => ?_⟩
 simp only [drawF, hg, drawOpF, hw, h1 m (by omega)]
 exact h2 m (by omega)
theorem xb {ops : List Oper} {ix anc : Nat} {free : List Nat} {o : Oper} {rest : List Drawn} {F : FF} {s : St} {Q : FF → St → Prop} (hg : yA ops ix = some o) (hw : y5 ops F o = true)
  (h : OpW P I o F { s with bar := s.next } fun F' s' => xk P I ops rest F' { next := s'.next, bar := s.bar, prot := s.prot, heap := s'.heap } Q) :
  xk P I ops (⟨ix, anc, .fresh, free⟩ :: rest) F s Q := by
 obtain ⟨F₁, s₁, ⟨F₂, s₂, hq, n₂, h2⟩, n₁, h1⟩ := h
 refine ⟨F₂, s₂, hq, n₁ + n₂, fun m hm => ?_⟩
 simp only [drawF, hg, drawOpF, hw, h1 m (by omega)]
 exact h2 m (by omega)
def seqQ (P : Program) (I : yb) (y : Code) (Q : FOut → Prop) : FOut → Prop
 | .normal F s => xD P I y F s Q
 | o => Q o
def blockQ (id : Nat) (Q : FOut → Prop) : FOut → Prop
 | .exit i F s => match Nat.beq i id with
  | true => Q (.normal F s)
  | false => Q (.exit i F s)
 | o => Q o
theorem zD {F : FF} {s : St} {Q : FOut → Prop} (h : Q (.normal F s)) : xD P I .skip F s Q := by
 refine ⟨_, h, 1, fun m hm => ?_⟩
 obtain ⟨m, rfl⟩ : ∃ k, m = k + 1 := ⟨m - 1, by omega⟩
 rfl
theorem yi {id : Nat} {F : FF} {s : St} {Q : FOut → Prop} (h : Q (.exit id F s)) : xD P I (.exit id) F s Q := by
 refine ⟨_, h, 1, fun m hm => ?_⟩
 obtain ⟨m, rfl⟩ : ∃ k, m = k + 1 := ⟨m - 1, by omega⟩
 rfl
theorem zu {F : FF} {s : St} {Q : FOut → Prop} (h : Q (.ret F s)) : xD P I .ret F s Q := by
 refine ⟨_, h, 1, fun m hm => ?_⟩
 obtain ⟨m, rfl⟩ : ∃ k, m = k + 1 := ⟨m - 1, by omega⟩
 rfl
theorem zx {x y : Code} {F : FF} {s : St} {Q : FOut → Prop} (h : xD P I x F s (seqQ P I y Q)) : xD P I (.seq x y) F s Q := by
 obtain ⟨o, hq, n, hn⟩ := h
 cases o with
 | normal F₁ s₁ =>
  obtain ⟨o₂, hq2, n₂, hn2⟩ := hq
  refine ⟨o₂, hq2, n + n₂ + 1, fun m hm => ?_⟩
  obtain ⟨m, rfl⟩ : ∃ k, m = k + 1 := ⟨m - 1, by omega⟩
  simp only [y2, hn m (by omega)]
  exact hn2 m (by omega)
 | exit i F₁ s₁ =>
  refine ⟨_, hq, n + 1, fun m hm => ?_⟩
  obtain ⟨m, rfl⟩ : ∃ k, m = k + 1 := ⟨m - 1, by omega⟩
  simp only [y2, hn m (by omega)]
 | ret F₁ s₁ =>
  refine ⟨_, hq, n + 1, fun m hm => ?_⟩
  obtain ⟨m, rfl⟩ : ∃ k, m = k + 1 := ⟨m - 1, by omega⟩
  simp only [y2, hn m (by omega)]
 | stuck =>
  refine ⟨_, hq, n + 1, fun m hm => ?_⟩
  obtain ⟨m, rfl⟩ : ∃ k, m = k + 1 := ⟨m - 1, by omega⟩
  simp only [y2, hn m (by omega)]
theorem zq {c : Operand} {x y : Code} {F : FF} {s : St} {Q : FOut → Prop} (hc : zH F c = .bool true) (h : xD P I x F s Q) : xD P I (.cond c x y) F s Q := by
 obtain ⟨o, hq, n, hn⟩ := h
 refine ⟨o, hq, n + 1, fun m hm => ?_⟩
 obtain ⟨m, rfl⟩ : ∃ k, m = k + 1 := ⟨m - 1, by omega⟩
 simp only [y2, hc]
 exact hn m (by omega)
theorem zv {c : Operand} {x y : Code} {F : FF} {s : St} {Q : FOut → Prop} (hc : zH F c = .bool false) (h : xD P I y F s Q) : xD P I (.cond c x y) F s Q := by
 obtain ⟨o, hq, n, hn⟩ := h
 refine ⟨o, hq, n + 1, fun m hm => ?_⟩
 obtain ⟨m, rfl⟩ : ∃ k, m = k + 1 := ⟨m - 1, by omega⟩
 simp only [y2, hc]
 exact hn m (by omega)
theorem zL {id : Nat} {b : Code} {F : FF} {s : St} {Q : FOut → Prop} (h : xD P I b F s (blockQ id Q)) : xD P I (.block id b) F s Q := by
 obtain ⟨o, hq, n, hn⟩ := h
 cases o with
 | exit i F₁ s₁ =>
  cases hb : Nat.beq i id with
  | true =>
   simp only [blockQ, hb] at hq
   refine ⟨_, hq, n + 1, fun m hm => ?_⟩
   obtain ⟨m, rfl⟩ : ∃ k, m = k + 1 := ⟨m - 1, by omega⟩
   simp only [y2, hn m (by omega), hb]
  | false =>
   simp only [blockQ, hb] at hq
   refine ⟨_, hq, n + 1, fun m hm => ?_⟩
   obtain ⟨m, rfl⟩ : ∃ k, m = k + 1 := ⟨m - 1, by omega⟩
   simp only [y2, hn m (by omega), hb]
 | normal F₁ s₁ =>
  refine ⟨_, hq, n + 1, fun m hm => ?_⟩
  obtain ⟨m, rfl⟩ : ∃ k, m = k + 1 := ⟨m - 1, by omega⟩
  simp only [y2, hn m (by omega)]
 | ret F₁ s₁ =>
  refine ⟨_, hq, n + 1, fun m hm => ?_⟩
  obtain ⟨m, rfl⟩ : ∃ k, m = k + 1 := ⟨m - 1, by omega⟩
  simp only [y2, hn m (by omega)]
 | stuck =>
  refine ⟨_, hq, n + 1, fun m hm => ?_⟩
  obtain ⟨m, rfl⟩ : ∃ k, m = k + 1 := ⟨m - 1, by omega⟩
  simp only [y2, hn m (by omega)]
def loopQ (Inv : Nat → FF → St → Prop) (k : Nat) (Q : FOut → Prop) : FOut → Prop
 | .normal F s => ∃ k', k' < k ∧ Inv k' F s
 | o => Q o
theorem yB {b : Code} {Q : FOut → Prop} (Inv : Nat → FF → St → Prop) (step : ∀ k F s, Inv k F s → xD P I b F s (loopQ Inv k Q)) :
  ∀ (k : Nat) (F : FF) (s : St), Inv k F s → xD P I (.loop b) F s Q := by
 intro k
 induction k using Nat.strongRecOn with
 | _ k ih =>
  intro F s hi
  obtain ⟨o, hq, n, hn⟩ := step k F s hi
  cases o with
  | normal F₁ s₁ =>
   obtain ⟨k', hk, hi'⟩ := hq
   obtain ⟨o₂, hq2, n₂, hn2⟩ := ih k' hk F₁ s₁ hi'
   refine ⟨o₂, hq2, n + n₂ + 1, fun m hm => ?_⟩
   obtain ⟨m, rfl⟩ : ∃ k, m = k + 1 := ⟨m - 1, by omega⟩
   simp only [y2, hn m (by omega)]
   exact hn2 m (by omega)
  | exit i F₁ s₁ =>
   refine ⟨_, hq, n + 1, fun m hm => ?_⟩
   obtain ⟨m, rfl⟩ : ∃ k, m = k + 1 := ⟨m - 1, by omega⟩
   simp only [y2, hn m (by omega)]
  | ret F₁ s₁ =>
   refine ⟨_, hq, n + 1, fun m hm => ?_⟩
   obtain ⟨m, rfl⟩ : ∃ k, m = k + 1 := ⟨m - 1, by omega⟩
   simp only [y2, hn m (by omega)]
  | stuck =>
   refine ⟨_, hq, n + 1, fun m hm => ?_⟩
   obtain ⟨m, rfl⟩ : ∃ k, m = k + 1 := ⟨m - 1, by omega⟩
   simp only [y2, hn m (by omega)]
theorem zF {id : Nat} {ops : Array Oper} {F : FF} {s : St} {Q : FOut → Prop} (h : OpsW P I ops.toList ops.toList F s fun F s => Q (.normal F s)) : xD P I (.region id ops false) F s Q := by
 obtain ⟨F₁, s₁, hq, n, hn⟩ := h
 refine ⟨_, hq, n + 1, fun m hm => ?_⟩
 obtain ⟨m, rfl⟩ : ∃ k, m = k + 1 := ⟨m - 1, by omega⟩
 simp only [y2]
 exact hn m (by omega)
theorem cw_draw {id : Nat} {ops : Array Oper} {F : FF} {s : St} {Q : FOut → Prop} (l : List Drawn) (hb : planB ops.toList (plan ops.toList) = true) (hl : plan ops.toList = l)
  (h : xk P I ops.toList l F s fun F s => Q (.normal F s)) : xD P I (.region id ops true) F s Q := by
 obtain ⟨F₁, s₁, hq, n, hn⟩ := h
 refine ⟨_, hq, n + 1, fun m hm => ?_⟩
 obtain ⟨m, rfl⟩ : ∃ k, m = k + 1 := ⟨m - 1, by omega⟩
 simp only [y2, hb]
 rw [hl]
 exact hn m (by omega)
theorem ze {id : Nat} {ops : Array Oper} {y : Code} {F : FF} {s : St} {Q : FOut → Prop} (h : OpsW P I ops.toList ops.toList F s fun F s => xD P I y F s Q) : xD P I (.seq (.region id ops false) y) F s Q :=
 zx (zF h)
theorem yy {id : Nat} {ops : Array Oper} {y : Code} {F : FF} {s : St} {Q : FOut → Prop} (l : List Drawn) (hb : planB ops.toList (plan ops.toList) = true) (hl : plan ops.toList = l)
  (h : xk P I ops.toList l F s fun F s => xD P I y F s Q) : xD P I (.seq (.region id ops true) y) F s Q :=
 zx (cw_draw l hb hl h)
def Slots (F : FF) : List (Nat × Value) → Prop
 | [] => True
 | (d, v) :: l => F d = v ∧ Slots F l
def lay (G : FF) : List (Nat × Value) → FF
 | [] => G
 | (d, v) :: l => upd (lay G l) (some d) v
theorem lay_self {F : FF} : ∀ {l : List (Nat × Value)}, Slots F l → lay F l = F
 | [], _ => rfl
 | (d, v) :: l, h => by
  funext t
  simp only [lay, upd_eq, lay_self h.2]
  split
  ·next e => rw [e]; exact h.1.symm
  ·rfl
theorem yf {F : FF} {l : List (Nat × Value)} (h : Slots F l) : F = lay F l := (lay_self h).symm
def fillF : List Value → Nat → FF → FF
 | [], _, F => F
 | v :: l, n, F => fillF l (n + 1) (upd F (some n) v)
def frameOf (args : Array Value) : FF := fillF args.toList 0 fun _ => undef
theorem agrees_fill : ∀ (l : List Value) (n N : Nat) (F : FF) (t : Tr Value), n + l.length ≤ N → Agrees N F ⟨N, t⟩ → Agrees N (fillF l n F) ⟨N, fillT l n t⟩
 | [], _, _, _, _, _, h => h
 | v :: l, n, N, F, t, hn, h => by
  simp only [List.length_cons] at hn
  simp only [fillF, fillT]
  refine agrees_fill l (n + 1) N _ _ (by omega) ?_
  have := h.put (some n) v
  have hb : Nat.blt n N = true := blt_true (by omega)
  simpa only [Fr.put, hb] using this
theorem agrees_make {args : Array Value} {N : Nat} (h1 : args.toList.length ≤ N) (h2 : N ≤ 65534) : Agrees N (frameOf args) (Fr.make args N) := by
 refine agrees_fill _ 0 N _ _ (by omega) ⟨rfl, h2, fun t _ => ?_⟩
 simp [Fr.get, Tr.get]
def qy (P : Program) (F : FF) (s : St) : List ResultVar → Option (List Value)
 | [] => some []
 | .tmp t :: l => match qy P F s l with
  | some r => some (F t :: r)
  | none => none
 | .cell t ty :: l => match loadV P ty (F t) s, qy P F s l with
  | some v, some r => some (v :: r)
  | _, _ => none
def resultB (N : Nat) : ResultVar → Bool
 | .tmp t => Nat.blt t N
 | .cell t _ => Nat.blt t N
theorem qN {N : Nat} {F : FF} {a : Fr} {s : St} (h : Agrees N F a) : ∀ l : List ResultVar, l.all (resultB N) = true → xu P a s l = qy P F s l
 | [], _ => rfl
 | .tmp t :: l, hl => by
  simp only [List.all_cons, Bool.and_eq_true, resultB] at hl
  simp only [xu, qy]
  rw [qN h l (by simpa using hl.2), h.get t (Nat.le_of_ble_eq_true hl.1)]
  rfl
 | .cell t ty :: l, hl => by
  simp only [List.all_cons, Bool.and_eq_true, resultB] at hl
  simp only [xu, qy]
  rw [qN h l (by simpa using hl.2), h.get t (Nat.le_of_ble_eq_true hl.1)]
  rfl
def endQ (P : Program) (rs : List ResultVar) (Post : Value → St → Prop) (F : FF) (s : St) : Prop :=
 match qy P F s rs with
 | some [v] => Post v s
 | some l => Post (.tuple ⟨l⟩) s
 | none => False
def retQ (P : Program) (rs : List ResultVar) (Post : Value → St → Prop) : FOut → Prop
 | .normal F s => endQ P rs Post F s
 | .ret F s => endQ P rs Post F s
 | _ => False
def yw (fn : Func) (c : Code) (n : Nat) : Bool :=
 Nat.ble n fn.ntmps && Nat.ble fn.ntmps 65534 && qd c && codeN fn.ntmps c && fn.results.toList.all (resultB fn.ntmps)
theorem zQ {t : Nat} {F : FF} {s : St} {Post : Value → St → Prop} (h : Post (F t) s) : endQ P [.tmp t] Post F s := h
theorem zp {rs : List ResultVar} {F : FF} {s : St} {Post : Value → St → Prop} (h : endQ P rs Post F s) : retQ P rs Post (.ret F s) := h
theorem nrm_end {rs : List ResultVar} {F : FF} {s : St} {Post : Value → St → Prop} (h : endQ P rs Post F s) : retQ P rs Post (.normal F s) := h
theorem zj {y : Code} {Q : FOut → Prop} {F : FF} {s : St} (h : xD P I y F s Q) : seqQ P I y Q (.normal F s) := h
theorem zn {y : Code} {Q : FOut → Prop} {F : FF} {s : St} (h : Q (.ret F s)) : seqQ P I y Q (.ret F s) := h
theorem zU {y : Code} {Q : FOut → Prop} {i : Nat} {F : FF} {s : St} (h : Q (.exit i F s)) : seqQ P I y Q (.exit i F s) := h
theorem zP {id : Nat} {Q : FOut → Prop} {F : FF} {s : St} (h : Q (.normal F s)) : blockQ id Q (.normal F s) := h
theorem zt {id : Nat} {Q : FOut → Prop} {F : FF} {s : St} (h : Q (.ret F s)) : blockQ id Q (.ret F s) := h
theorem z8 {id : Nat} {Q : FOut → Prop} {F : FF} {s : St} (h : Q (.normal F s)) : blockQ id Q (.exit id F s) := by
 simp only [blockQ, Nat.beq_refl]; exact h
theorem zO {Inv : Nat → FF → St → Prop} {k : Nat} {Q : FOut → Prop} {F : FF} {s : St} (h : ∃ k', k' < k ∧ Inv k' F s) : loopQ Inv k Q (.normal F s) := h
theorem zJ {Inv : Nat → FF → St → Prop} {k : Nat} {Q : FOut → Prop} {F : FF} {s : St} (h : Q (.ret F s)) : loopQ Inv k Q (.ret F s) := h
theorem ye {Inv : Nat → FF → St → Prop} {k i : Nat} {Q : FOut → Prop} {F : FF} {s : St} (h : Q (.exit i F s)) : loopQ Inv k Q (.exit i F s) := h
theorem yc {f : FuncId} {args : Array Value} {s : St} {fn : Func} {c : Code} {Post : Value → St → Prop} (n : Nat) (hI : I f = none) (hf : P.funcs[f]? = some fn) (hb : fn.body = some c) (hc : yw fn c n = true)
  (hn : args.toList.length = n) (h : xD P I c (frameOf args) s (retQ P fn.results.toList Post)) : ∃ v s', yI P I f args s v s' ∧ Post v s' := by
 simp only [yw, Bool.and_eq_true] at hc
 obtain ⟨⟨⟨⟨h1, h2⟩, h3⟩, h4⟩, h5⟩ := hc
 obtain ⟨o, hq, k, hk⟩ := h
 have hag : Agrees fn.ntmps (frameOf args) (Fr.make args fn.ntmps) := agrees_make (by rw [hn]; exact Nat.le_of_ble_eq_true h1) (Nat.le_of_ble_eq_true h2)
 have hgate : (Nat.ble (xg args.toList 0) fn.ntmps && Nat.ble fn.ntmps 65534 && qd c) = true := by
  rw [xw, hn, Nat.add_zero, h1, h2, h3]; rfl
 have hfin : ∀ F s', endQ P fn.results.toList Post F s' → ∃ v, Post v s' ∧ ∀ a, Agrees fn.ntmps F a → finish P fn a s' = .ret v s' := by
  intro F s' he
  unfold endQ at he
  split at he
  ·next v hv => exact ⟨v, he, fun a ha => by unfold finish; rw [qN ha _ h5, hv]⟩
  ·next l hl hv =>
   refine ⟨_, he, fun a ha => ?_⟩
   unfold finish
   rw [qN ha _ h5, hv]
   cases l with
   | nil => rfl
   | cons x l => cases l with
    | nil => exact (hl x rfl).elim
    | cons y l => rfl
  ·exact he.elim
 have hsim := fun m => x3 (P := P) (I := I) m c (frameOf args) (Fr.make args fn.ntmps) s h4 hag
 cases o with
 | normal F s' =>
  obtain ⟨v, hv2, hv⟩ := hfin F s' hq
  refine ⟨v, s', ⟨k, fun m hmk => ?_⟩, hv2⟩
  have h0 := hsim m
  rw [hk m hmk] at h0
  simp only [callM, xi, hI, hf, hb, bodyM, hgate]
  cases hm2 : yh P I m c (Fr.make args fn.ntmps) s with
  | normal a₃ s₃ =>
   rw [hm2] at h0
   obtain ⟨rfl, ha3⟩ := h0
   exact hv a₃ ha3
  | _ => rw [hm2] at h0; exact h0.elim
 | ret F s' =>
  obtain ⟨v, hv2, hv⟩ := hfin F s' hq
  refine ⟨v, s', ⟨k, fun m hmk => ?_⟩, hv2⟩
  have h0 := hsim m
  rw [hk m hmk] at h0
  simp only [callM, xi, hI, hf, hb, bodyM, hgate]
  cases hm2 : yh P I m c (Fr.make args fn.ntmps) s with
  | ret a₃ s₃ =>
   rw [hm2] at h0
   obtain ⟨rfl, ha3⟩ := h0
   exact hv a₃ ha3
  | _ => rw [hm2] at h0; exact h0.elim
 | exit i F s' => exact hq.elim
 | stuck => exact hq.elim
end
end Go.M
