/- Slots that code does not read do not matter: on the machine itself. -/
/- undo.Least as a function of this machine: it stands for the program's. -/
/- The reference's least cleaning, in plain words. -/
/- The reference of cleanings: sets in lists, what a set needs. -/
/- The reference of cleanings: its errors, and numbers in levels. -/
/- The reference of cleanings: the sets that come about. -/
/- The reference of cleanings: the least numbers. -/
/- The reference of cleanings: the least one. -/
/- The reference of cleanings: what Least returns. -/
/- undo.Least for arguments that are not proper. -/
/- undo.Least, for proper arguments: what it returns. -/
import Derived.Test.YtdejleegamcioaaGreatP21
import Derived.Test.YtdejleegamcioaaGreatP22
import Derived.Test.YtdejleegamcioaaGreatP19
namespace Go.M
section
variable (Z : Nat → Bool) (N : Nat)
structure MOff (F F' : Fr) : Prop where
 one : F.size = N
 two : F'.size = N
 small : N ≤ 65534
 get : ∀ t, Z t = false → F.get t = F'.get t
def SimM : Out → Out → Prop
 | .normal F s, .normal F' s' => s' = s ∧ MOff Z N F F'
 | .exit id F s, .exit id' F' s' => id' = id ∧ s' = s ∧ MOff Z N F F'
 | .ret F s, .ret F' s' => s' = s ∧ MOff Z N F F'
 | .panic _ _ _, .panic _ _ _ => True
 | .stuck, .stuck => True
 | _, _ => False
variable {Z} {N} {P : Program} {call : FuncId → Array Value → St → CallOut}
theorem MOff.put {F F' : Fr} (h : MOff Z N F F') (d : Option Nat) (v : Value) : MOff Z N (F.put d v) (F'.put d v) := by
 have hsz : F.size = F'.size := h.one.trans h.two.symm
 have hsm : F.size ≤ 65534 := by rw [h.one]; exact h.small
 refine ⟨by rw [Fr.put_size]; exact h.one, by rw [Fr.put_size]; exact h.two, h.small, fun t ht => ?_⟩
 cases d with
 | none => exact h.get t ht
 | some d =>
  by_cases hd : d < F.size
  ·rw [Fr.get_put' hsm hd, Fr.get_put' (by rw [← hsz]; exact hsm) (by rw [← hsz]; exact hd), h.get t ht]
  ·have e1 : Nat.blt d F.size = false := by
    rw [Bool.eq_false_iff, Ne, Nat.blt_eq]; exact hd
   have e2 : Nat.blt d F'.size = false := by rw [← hsz]; exact e1
   simp only [Fr.put, e1, e2]
   exact h.get t ht
theorem MOff.eval {F F' : Fr} (h : MOff Z N F F') {x : Operand} (hx : okZ Z x = true) : F.eval x = F'.eval x := by
 cases x with
 | tmp t => exact h.get t (by simpa [okZ] using hx)
 | _ => rfl
theorem wanted_m {ops : List Oper} {F F' : Fr} {o : Oper} (h : MOff Z N F F') (hg : guardZ Z ops o = true) : yM ops F o = yM ops F' o := by
 unfold yM
 unfold guardZ at hg
 have hg := (Bool.and_eq_true_iff.mp hg).1
 unfold guardZ0 at hg
 cases hgu : o.guard with
 | none => rfl
 | some g =>
  rw [hgu] at hg
  simp only at hg ⊢
  cases hq : yo ops g.1 with
  | none => rfl
  | some q =>
   rw [hq] at hg
   simp only at hg ⊢
   cases hd : q.dst with
   | none => rfl
   | some d =>
    rw [hd] at hg
    simp only at hg ⊢
    rw [h.get d (by simpa using hg)]
theorem op_m {F F' : Fr} {o : Oper} {s : St} (h : MOff Z N F F') (ho : o.op.operands.toList.all (okZ Z) = true) : SimM Z N (opM P call o F s) (opM P call o F' s) := by
 have e : zr P F.eval o.op s = zr P F'.eval o.op s := stepM_congr o.op fun x hx => h.eval (by rw [List.all_eq_true] at ho; exact ho x hx)
 unfold opM
 rw [e]
 cases zr P F'.eval o.op s with
 | stuck => trivial
 | panic v s => trivial
 | ok n s =>
  cases n with
  | value v => exact ⟨rfl, h.put _ _⟩
  | skip => exact ⟨rfl, h.put _ _⟩
  | enter f args =>
   simp only
   cases call f args s with
   | ret v s => exact ⟨rfl, h.put _ _⟩
   | panic c s => trivial
   | stuck => trivial
  | _ => trivial
theorem ops_m (ops : List Oper) : ∀ (l : List Oper) (F F' : Fr) (s : St), (l.all fun o => o.op.operands.toList.all (okZ Z) && guardZ Z ops o) = true → MOff Z N F F' → SimM Z N (opsM P call ops l F s) (opsM P call ops l F' s)
 | [], F, F', s, _, h => ⟨rfl, h⟩
 | o :: l, F, F', s, hl, h => by
  simp only [List.all_cons, Bool.and_eq_true] at hl
  have hl2 : (l.all fun o => o.op.operands.toList.all (okZ Z) && guardZ Z ops o) = true := by simpa using hl.2
  simp only [opsM]
  rw [wanted_m h hl.1.2]
  cases yM ops F' o with
  | false => exact ops_m ops l _ _ s hl2 (h.put _ _)
  | true =>
   have h1 := op_m (P := P) (call := call) (s := s) h hl.1.1
   simp only
   cases hf : opM P call o F s <;> cases hm : opM P call o F' s <;> rw [hf, hm] at h1 <;> first | exact h1.elim | trivial | skip
   obtain ⟨rfl, h2⟩ := h1
   exact ops_m ops l _ _ _ hl2 h2
theorem block_m {F F' : Fr} {o : Oper} (h : MOff Z N F F') (ho : o.op.operands.toList.all (okZ Z) = true) (ha : allocZ Z o = true) : yD F o = yD F' o := by
 unfold yD
 cases hop : o.op with
 | load t x =>
  simp only
  rw [h.eval (by rw [List.all_eq_true] at ho; exact ho x (by rw [hop]; simp [Op.operands]))]
 | alloc t =>
  simp only
  unfold allocZ at ha
  rw [hop] at ha
  cases hd : o.dst with
  | none => rfl
  | some u =>
   rw [hd] at ha
   simp only at ha ⊢
   rw [h.get u (by simpa using ha)]
 | _ => rfl
theorem blocks_m {ops : List Oper} {F F' : Fr} (h : MOff Z N F F') (ho : ∀ o ∈ ops, o.op.operands.toList.all (okZ Z) = true ∧ allocZ Z o = true) : ∀ l, yl ops F l = yl ops F' l
 | [] => rfl
 | i :: l => by
  simp only [yl]
  cases hg : yo ops i with
  | none => exact blocks_m h ho l
  | some o =>
   simp only
   rw [block_m h (ho o (by rw [yx] at hg; exact List.mem_of_getElem? hg)).1 (ho o (by rw [yx] at hg; exact List.mem_of_getElem? hg)).2, blocks_m h ho l]
theorem drawOp_m {ops : List Oper} (ho : ∀ o ∈ ops, o.op.operands.toList.all (okZ Z) = true ∧ guardZ Z ops o = true) {d : Drawn} {o : Oper} (hmem : o ∈ ops) {F F' : Fr} {s : St} (h : MOff Z N F F') :
  SimM Z N (yr P call ops d o F s) (yr P call ops d o F' s) := by
 unfold yr
 rw [wanted_m h (ho o hmem).2]
 cases yM ops F' o with
 | false => exact ⟨rfl, h.put _ _⟩
 | true =>
  simp only
  cases d.how with
  | light =>
   simp only
   rw [block_m h (ho o hmem).1 (Bool.and_eq_true_iff.mp (ho o hmem).2).2]
   have h1 := op_m (P := P) (call := call) (s := { next := s.next, bar := s.next, prot := [], heap := only s (yD F' o) }) h (ho o hmem).1
   cases hf : opM P call o F { next := s.next, bar := s.next, prot := [], heap := only s (yD F' o) } <;> cases hm : opM P call o F' { next := s.next, bar := s.next, prot := [], heap := only s (yD F' o) } <;> rw [hf, hm] at h1 <;> first | exact h1.elim | trivial | skip
   obtain ⟨rfl, h2⟩ := h1
   simp only
   split
   ·exact ⟨rfl, h2⟩
   ·trivial
  | whole =>
   simp only
   rw [blocks_m h (fun o hm => ⟨(ho o hm).1, (Bool.and_eq_true_iff.mp (ho o hm).2).2⟩)]
   have h1 := op_m (P := P) (call := call) (s := { s with prot := yl ops F' d.free ++ s.prot }) h (ho o hmem).1
   cases hf : opM P call o F { s with prot := yl ops F' d.free ++ s.prot } <;> cases hm : opM P call o F' { s with prot := yl ops F' d.free ++ s.prot } <;> rw [hf, hm] at h1 <;> first | exact h1.elim | trivial | skip
   obtain ⟨rfl, h2⟩ := h1
   exact ⟨rfl, h2⟩
  | fresh =>
   simp only
   have h1 := op_m (P := P) (call := call) (s := { s with bar := s.next }) h (ho o hmem).1
   cases hf : opM P call o F { s with bar := s.next } <;> cases hm : opM P call o F' { s with bar := s.next } <;> rw [hf, hm] at h1 <;> first | exact h1.elim | trivial | skip
   obtain ⟨rfl, h2⟩ := h1
   exact ⟨rfl, h2⟩
  | new =>
   simp only
   have h1 := op_m (P := P) (call := call) (s := { next := s.next, bar := s.next, prot := [], heap := .nil }) h (ho o hmem).1
   cases hf : opM P call o F { next := s.next, bar := s.next, prot := [], heap := .nil } <;> cases hm : opM P call o F' { next := s.next, bar := s.next, prot := [], heap := .nil } <;> rw [hf, hm] at h1 <;> first | exact h1.elim | trivial | skip
   obtain ⟨rfl, h2⟩ := h1
   simp only
   rw [block_m h2 (ho o hmem).1 (Bool.and_eq_true_iff.mp (ho o hmem).2).2]
   split
   ·split
    ·exact ⟨rfl, h2⟩
    ·trivial
   ·trivial
theorem draw_m {ops : List Oper} (ho : ∀ o ∈ ops, o.op.operands.toList.all (okZ Z) = true ∧ guardZ Z ops o = true) : ∀ (l : List Drawn) (F F' : Fr) (s : St), MOff Z N F F' → SimM Z N (qv P call ops l F s) (qv P call ops l F' s)
 | [], F, F', s, h => ⟨rfl, h⟩
 | d :: l, F, F', s, h => by
  simp only [qv]
  cases hg : yo ops d.ix with
  | none => trivial
  | some o =>
   simp only
   have h1 := drawOp_m (P := P) (call := call) ho (d := d) (o := o) (by rw [yx] at hg; exact List.mem_of_getElem? hg) (s := s) h
   cases hf : yr P call ops d o F s <;> cases hm : yr P call ops d o F' s <;> rw [hf, hm] at h1 <;> first | exact h1.elim | trivial | skip
   obtain ⟨rfl, h2⟩ := h1
   exact draw_m ho l _ _ _ h2
theorem code_m {I : zJ} : ∀ (n : Nat) (c : Code) (F F' : Fr) (s : St), codeZ Z c = true → MOff Z N F F' → SimM Z N (zL P I n c F s) (zL P I n c F' s)
 | 0, _, _, _, _, _, _ => trivial
 | n + 1, c, F, F', s, hc, h => by
  cases c with
  | skip => exact ⟨rfl, h⟩
  | label _ => exact ⟨rfl, h⟩
  | exit id => exact ⟨rfl, rfl, h⟩
  | ret => exact ⟨rfl, h⟩
  | seq x y =>
   simp only [codeZ, Bool.and_eq_true] at hc
   have h1 := code_m (I := I) n x F F' s hc.1 h
   simp only [zL]
   cases hf : zL P I n x F s <;> cases hm : zL P I n x F' s <;> rw [hf, hm] at h1 <;> first | exact h1.elim | exact h1 | skip
   obtain ⟨rfl, h2⟩ := h1
   exact code_m n y _ _ _ hc.2 h2
  | cond x y z =>
   simp only [codeZ, Bool.and_eq_true] at hc
   simp only [zL]
   rw [h.eval hc.1.1]
   cases F'.eval x with
   | bool b => cases b with
    | true => exact code_m n y F F' s hc.1.2 h
    | false => exact code_m n z F F' s hc.2 h
   | _ => trivial
  | block id b =>
   simp only [codeZ] at hc
   have h1 := code_m (I := I) n b F F' s hc h
   simp only [zL]
   cases hf : zL P I n b F s <;> cases hm : zL P I n b F' s <;> rw [hf, hm] at h1 <;> first | exact h1.elim | exact h1 | skip
   obtain ⟨rfl, rfl, h2⟩ := h1
   simp only
   split
   ·exact ⟨rfl, h2⟩
   ·exact ⟨rfl, rfl, h2⟩
  | loop b =>
   simp only [codeZ] at hc
   have h1 := code_m (I := I) n b F F' s hc h
   simp only [zL]
   cases hf : zL P I n b F s <;> cases hm : zL P I n b F' s <;> rw [hf, hm] at h1 <;> first | exact h1.elim | exact h1 | skip
   obtain ⟨rfl, h2⟩ := h1
   exact code_m n (.loop b) _ _ _ (by simpa only [codeZ] using hc) h2
  | region id ops draw =>
   simp only [codeZ] at hc
   simp only [zL]
   cases draw with
   | false => exact ops_m ops.toList ops.toList F F' s hc h
   | true =>
    simp only
    cases planB ops.toList (plan ops.toList) with
    | false => trivial
    | true =>
     refine draw_m (fun o ho => ?_) _ F F' s h
     unfold opsZ at hc
     rw [List.all_eq_true] at hc
     simpa using hc o ho
  | _ => trivial
end
end Go.M
namespace Go.Proofs.YtdejleegamcioaaGreat
open Go Go.M
def longB : Nat → Code → Bool
 | 0, _ => true
 | n + 1, .seq _ y => longB n y
 | _ + 1, _ => false
section
variable {P : Program} {I : zJ}
theorem split_sound (hmix : P.follows .mixedOrders = true) (hI : TableS P I) {Q : Exit → Act → World → Prop} : ∀ (k : Nat) (c : Code) (n : Nat) (a : Fr) (a' : Act) (s : St) (β : Go.M.Ren) (w : World), longB (k + 1) c = true → xM (takeS (k + 1) c) = true → Rel P β s w → FRel P β a a' →
  zL P I n (takeS (k + 1) c) a s ≠ .stuck → (zL P I n (takeS (k + 1) c) a s).free β s → (∀ e a₂ w₂, OutP P β s w (zL P I n (takeS (k + 1) c) a s) e a₂ w₂ → Exit.then ((dropS (k + 1) c).wp P Q) Q e a₂ w₂) → c.wp P Q a' w := by
 intro k
 induction k with
 | zero =>
  intro c n a a' s β w hl hb h hf hne hfree hQ
  cases c with
  | seq x y => exact wp_seq (wp_mono (code_sound hmix hI n x a a' s β w hb h hf hne hfree) hQ)
  | _ => cases hl
 | succ k ih =>
  intro c n a a' s β w hl hb h hf hne hfree hQ
  cases c with
  | seq x y =>
   have hl2 : longB (k + 1) y = true := hl
   have hb2 : (xM x && xM (takeS (k + 1) y)) = true := hb
   rw [Bool.and_eq_true] at hb2
   have hdrop : dropS (k + 1 + 1) (.seq x y) = dropS (k + 1) y := rfl
   rw [hdrop] at hQ
   have htake : takeS (k + 1 + 1) (.seq x y) = .seq x (takeS (k + 1) y) := rfl
   rw [htake] at hne hfree hQ
   cases n with
   | zero => exact (hne rfl).elim
   | succ n =>
    have hn := qs hI n
    unfold zL at hne hfree hQ
    simp only at hne hfree hQ
    refine wp_seq ?_
    have hw := fun h1 h2 => code_sound hmix hI n x a a' s β w hb2.1 h hf h1 h2
    cases hr : zL P I n x a s with
    | stuck => rw [hr] at hne; exact (hne rfl).elim
    | normal a₁ s₁ =>
     rw [hr] at hne hfree hw hQ
     simp only at hne hfree hQ
     have hfr : Free β s s₁ := Out.free_of (hn _ a₁ s₁) hfree hne
     refine wp_mono (hw (by simp) hfr) fun e a₂ w₂ ho => ?_
     obtain ⟨rfl, β', hx, hf2⟩ := ho
     exact ih y n a₁ a₂ s₁ β' w₂ hl2 hb2.2 hx.rel hf2 hne (hx.outFree hfree) fun e a₃ w₃ ho => hQ e a₃ w₃ (ho.trans hx hfree)
    | exit id a₁ s₁ =>
     rw [hr] at hfree hw hQ
     refine wp_mono (hw (by simp) hfree) fun e a₂ w₂ ho => ?_
     have h1 := hQ e a₂ w₂ ho
     have := ho.1
     subst this
     exact h1
    | ret a₁ s₁ =>
     rw [hr] at hfree hw hQ
     refine wp_mono (hw (by simp) hfree) fun e a₂ w₂ ho => ?_
     have h1 := hQ e a₂ w₂ ho
     have := ho.1
     subst this
     exact h1
    | panic ch a₁ s₁ =>
     rw [hr] at hfree hw hQ
     refine wp_mono (hw (by simp) hfree) fun e a₂ w₂ ho => ?_
     have h1 := hQ e a₂ w₂ ho
     obtain ⟨c', β', rfl, hrest⟩ := ho
     exact h1
  | _ => cases hl
end
theorem long8 : longB 8 y4 = true := by kernel_rfl
theorem preB : xM yO = true := by kernel_rfl
theorem tailB : xM leastTail = true := by kernel_rfl
def Zt (t : Nat) : Bool := Zs t || Nat.ble 78 t
theorem tailZt : codeZ Zt leastTail = true := by kernel_rfl
theorem body12 : Tryz.f12.body = some y4 := by kernel_rfl
theorem preZ : codeZ (fun _ => false) yO = true := by kernel_rfl
theorem finish_state {a : Fr} {s s' : St} {v : Value} (h : finish Tryz.prog Tryz.f12 a s = .ret v s') : s' = s := by
 unfold finish at h
 (repeat' split at h) <;> cases h <;> rfl
theorem finish_off {a a2 : Fr} {s : St} (h : MOff Zt 78 a a2) : finish Tryz.prog Tryz.f12 a2 s = finish Tryz.prog Tryz.f12 a s := by
 have key : ∀ l : List ResultVar, (l.all fun | .tmp t => !Zt t | .cell b _ => !Zt b) = true → y6 Tryz.prog a2 s l = y6 Tryz.prog a s l := by
  intro l
  induction l with
  | nil => intro _; rfl
  | cons x l ih =>
   intro hl
   simp only [List.all_cons, Bool.and_eq_true] at hl
   cases x with
   | tmp t =>
    have := h.get t (by simpa using hl.1)
    simp only [y6, ih hl.2, this]
   | cell b t =>
    have := h.get b (by simpa using hl.1)
    simp only [y6, ih hl.2, this]
 unfold finish
 rw [key _ (by kernel_rfl)]
set_option maxHeartbeats 1000000 in
theorem least_sound {n : Nat} {args args' : Array Value} {s s' : St} {β : Go.M.Ren} {w : World} {v : Value} (hrel : Rel Tryz.prog β s w) (ha : LRel Tryz.prog β args.toList args'.toList) (hr : qD n args s = .ret v s') (hfree : Free β s s') :
  Calls Tryz.prog 12 args' w (CallP Tryz.prog β s w (.ret v s')) := by
 unfold qD at hr
 have h4 : args.toList.length = 4 := by
  cases hb : Nat.beq (yY args.toList 0) 4 with
  | false => rw [hb] at hr; cases hr
  | true => have := Nat.eq_of_beq_eq_true hb; rw [y9] at this; omega
 have hb : Nat.beq (yY args.toList 0) 4 = true := by rw [y9, h4]; rfl
 rw [hb] at hr
 simp only at hr
 have hfr := FRel.make (n := 78) ha (by omega) (by decide)
 refine calls_of_wp Tryz.func12 body12 ?_
 have hend : ∀ (β3 : Go.M.Ren) (a4 : Fr) (a3' : Act) (w3 : World) (s3 : St), Ext Tryz.prog β s w β3 s3 w3 → FRel Tryz.prog β3 a4 a3' → finish Tryz.prog Tryz.f12 a4 s3 = .ret v s' →
   a3'.defers = [] ∧ ∃ v', (results Tryz.f12 a3'.tmps).run Tryz.prog w3 = .ok v' w3 ∧ CallP Tryz.prog β s w (.ret v s') (.returned v') w3 := by
  intro β3 a4 a3' w3 s3 hx hf hfin
  obtain ⟨rfl, v', g1, g2⟩ := finish_sound hx.rel hf hfin
  exact ⟨hf.defers, v', g1, β3, v', rfl, hx, g2⟩
 have htail : ∀ (a₁ a : Fr) (a'' : Act) (s2 s3 : St) (a3 : Fr) (β2 : Go.M.Ren) (w2 : World), Ext Tryz.prog β s w β2 s2 w2 → FRel Tryz.prog β2 a a'' → a₁.size = 78 → a.size = 78 → (∀ t, t < 78 → Zs t = false → a.get t = a₁.get t) →
   (zL Tryz.prog ym n leastTail a₁ s2 = .ret a3 s3 ∨ zL Tryz.prog ym n leastTail a₁ s2 = .normal a3 s3) → finish Tryz.prog Tryz.f12 a3 s3 = .ret v s' →
   leastTail.wp Tryz.prog (bodyPost Tryz.prog Tryz.f12 (CallP Tryz.prog β s w (.ret v s'))) a'' w2 := by
  intro a₁ a a'' s2 s3 a3 β2 w2 hx hf h1 h2 hsame hrun hfin
  have hss := finish_state hfin
  subst hss
  have hoff : MOff Zt 78 a₁ a := ⟨h1, h2, by decide, fun t ht => by
   unfold Zt at ht
   rw [Bool.or_eq_false_iff] at ht
   have h3 : t < 78 := by
    have := ht.2
    rw [Bool.eq_false_iff, Ne, Nat.ble_eq] at this
    omega
   exact (hsame t h3 ht.1).symm⟩
  have hm := code_m (P := Tryz.prog) (I := ym) n leastTail a₁ a s2 tailZt hoff
  have hw := code_sound hmixT (xr (P := Tryz.prog)) n leastTail a a'' s2 β2 w2 tailB hx.rel hf
  rcases hrun with hrun | hrun
  ·rw [hrun] at hm
   cases hc : zL Tryz.prog ym n leastTail a s2 with
   | ret a4 s4 =>
    rw [hc] at hm
    obtain ⟨rfl, h5⟩ := hm
    have hc2 : zL Tryz.prog (fun _ => none) n leastTail a s2 = .ret a4 s4 := hc
    rw [hc2] at hw
    refine wp_mono (hw (by simp) (hx.freeOf hfree)) fun e a5 w5 ho => ?_
    obtain ⟨rfl, β5, hx5, hf5⟩ := ho
    exact hend β5 a4 a5 w5 s4 (hx.trans hx5 hfree) hf5 (by rw [finish_off h5]; exact hfin)
   | _ => rw [hc] at hm; exact hm.elim
  ·rw [hrun] at hm
   cases hc : zL Tryz.prog ym n leastTail a s2 with
   | normal a4 s4 =>
    rw [hc] at hm
    obtain ⟨rfl, h5⟩ := hm
    have hc2 : zL Tryz.prog (fun _ => none) n leastTail a s2 = .normal a4 s4 := hc
    rw [hc2] at hw
    refine wp_mono (hw (by simp) (hx.freeOf hfree)) fun e a5 w5 ho => ?_
    obtain ⟨rfl, β5, hx5, hf5⟩ := ho
    exact hend β5 a4 a5 w5 s4 (hx.trans hx5 hfree) hf5 (by rw [finish_off h5]; exact hfin)
   | _ => rw [hc] at hm; exact hm.elim
 have hnx := qs (P := Tryz.prog) (I := ym) xr n
 cases hp : zL Tryz.prog ym n yO (Fr.make args 78) s with
 | ret a1 s1 =>
  rw [hp] at hr
  simp only at hr
  have hss := finish_state hr
  subst hss
  have hp2 : zL Tryz.prog (fun _ => none) n (takeS (7 + 1) y4) (Fr.make args 78) s = .ret a1 s' := hp
  refine split_sound hmixT (xr (P := Tryz.prog)) 7 y4 n (Fr.make args 78) _ s β w long8 preB hrel hfr (by rw [hp2]; simp) (by rw [hp2]; exact hfree) fun e a₂ w₂ ho => ?_
  rw [hp2] at ho
  obtain ⟨rfl, β1, hx1, hf1⟩ := ho
  exact hend β1 a1 a₂ w₂ s' hx1 hf1 hr
 | normal a1 s1 =>
  rw [hp] at hr
  simp only at hr
  have hself : MOff (fun _ => false) 78 (Fr.make args 78) (Fr.make args 78) := ⟨rfl, rfl, by decide, fun _ _ => rfl⟩
  have hsz1 := code_m (P := Tryz.prog) (I := ym) n yO _ _ s preZ hself
  rw [hp] at hsz1
  have hsz1 := hsz1.2.one
  cases hsg : segS (a1.get 13) (a1.get 16) s1 with
  | none => rw [hsg] at hr; cases hr
  | some s2 =>
   rw [hsg] at hr
   simp only at hr
   have hfin : ∃ a3 s3, (zL Tryz.prog ym n leastTail a1 s2 = .ret a3 s3 ∨ zL Tryz.prog ym n leastTail a1 s2 = .normal a3 s3) ∧ finish Tryz.prog Tryz.f12 a3 s3 = .ret v s' := by
    split at hr
    ·next a3 s3 h => exact ⟨a3, s3, .inl h, hr⟩
    ·next a3 s3 h => exact ⟨a3, s3, .inr h, hr⟩
    ·cases hr
   obtain ⟨a3, s3, hrun, hfin⟩ := hfin
   have hs3 : s' = s3 := finish_state hfin
   have hn2 : s2.next ≤ s'.next := by
    have := hnx leastTail a1 s2
    rw [hs3]
    rcases hrun with h | h <;> rw [h] at this <;> exact this
   have hn1 : s1.next ≤ s2.next := by
    obtain ⟨_, _, _, _, _, es, _, _, _, _, _, _, _, _, _, _, _, _, _, hs2⟩ := segS_spec hsg
    rw [hs2]
    show s1.next ≤ s1.next + 2 * es.size + 1
    omega
   have hp2 : zL Tryz.prog (fun _ => none) n (takeS (7 + 1) y4) (Fr.make args 78) s = .normal a1 s1 := hp
   refine split_sound hmixT (xr (P := Tryz.prog)) 7 y4 n (Fr.make args 78) _ s β w long8 preB hrel hfr (by rw [hp2]; simp) (by rw [hp2]; exact hfree.sub (by omega)) fun e a₂ w₂ ho => ?_
   rw [hp2] at ho
   obtain ⟨rfl, β1, hx1, hf1⟩ := ho
   refine seg_sound hx1.rel hf1 hsz1 hsg (hx1.freeOf (hfree.sub hn2)) fun β2 a a'' w2 hx2 hf2 hsz2 hsame => ?_
   exact htail a1 a a'' s2 s3 a3 β2 w2 (hx1.trans hx2 (hfree.sub hn2)) hf2 hsz1 hsz2 hsame hrun hfin
 | exit id a1 s1 => rw [hp] at hr; cases hr
 | panic c a1 s1 => rw [hp] at hr; cases hr
 | stuck => rw [hp] at hr; cases hr
end Go.Proofs.YtdejleegamcioaaGreat
namespace Go.Proofs.YtdejleegamcioaaGreat
open Go Go.M
abbrev Inc (l : List Int) : Prop := l.Pairwise (· < ·)
theorem insI_le {x : Int} : ∀ {l : List Int}, l.Pairwise (· ≤ ·) → (insI x l).Pairwise (· ≤ ·)
 | [], _ => by simp [insI]
 | y :: l, h => by
  rw [insI]
  rw [List.pairwise_cons] at h
  cases hb : ile x y with
  | true =>
   have hxy : x ≤ y := by simpa [ile_eq] using hb
   simp only
   rw [List.pairwise_cons, List.pairwise_cons]
   refine ⟨fun z hz => ?_, h.1, h.2⟩
   rcases List.mem_cons.mp hz with e | hz
   ·omega
   ·have := h.1 z hz; omega
  | false =>
   have hxy : ¬ x ≤ y := by simpa [ile_eq] using hb
   simp only
   rw [List.pairwise_cons]
   refine ⟨fun z hz => ?_, insI_le h.2⟩
   rcases List.mem_cons.mp ((insI_perm x l).mem_iff.mp hz) with e | hz
   ·omega
   ·exact h.1 z hz
theorem isort_le : ∀ (l : List Int), (yp l).Pairwise (· ≤ ·)
 | [] => .nil
 | x :: l => insI_le (isort_le l)
theorem isort_inc {l : List Int} (h : l.Nodup) : Inc (yp l) := by
 have h1 := isort_le l
 have h2 : (yp l).Nodup := (yX l).nodup_iff.mpr h
 exact (List.Pairwise.and h1 h2).imp fun ⟨a, b⟩ => by omega
section
variable (js : List (Int × Int)) (bad : Int) (may : List Sp)
def Clo (l : List Sp) (out : List Int) : Prop := ∀ m ∈ l, m.w ∈ out → y7 m.w bad 0 js = true → m.p ∈ out ∧ zB m.w m.p ∈ out
variable {js bad may}
theorem Clo.all {out : List Int} {w : Int} (h : Clo js bad may out) (hw : w ∈ out) {x : Int} (hx : Rch js bad may w x) : x ∈ out := by
 induction hx with
 | self => exact hw
 | part _ hn hm hw ih => subst hw; exact (h _ hm ih hn).1
 | rest _ hn hm hw ih => subst hw; exact (h _ hm ih hn).2
theorem Good.closed {E : List Ent} (h : Good js bad may E) : Clo js bad may (ys E) := fun m hm hk hn => by
 obtain ⟨e, he, hek⟩ := List.mem_map.mp hk
 have := h.clo e he (by rw [hek]; exact hn) m hm hek.symm
 rw [hek] at this
 exact this
def stepN (v : Int → Int) (S : Int) (n : Int) (m : Sp) : Int :=
 if m.w ≠ S then n else if v m.p < 65536 ∧ v (zB S m.p) < 65536 then min n (1 + v m.p + v (zB S m.p)) else n
theorem stepN_eq {v : Int → Int} {S : Int} {acc : Int × Sp} {m : Sp} : (xg v S acc m).1 = stepN v S acc.1 m := by
 unfold xg stepN
 by_cases h : m.w = S
 ·have hne : ¬ m.w ≠ S := fun k => k h
  rw [if_neg hne, if_neg hne]
  by_cases h1 : v m.p < 65536 ∧ v (zB S m.p) < 65536
  ·rw [if_pos h1]
   by_cases h2 : 1 + v m.p + v (zB S m.p) < acc.1
   ·rw [if_pos ⟨h1.1, h1.2, h2⟩]; simp only; omega
   ·rw [if_neg (fun h => h2 h.2.2)]; omega
  ·rw [if_neg h1, if_neg (fun h => h1 ⟨h.1, h.2.1⟩)]
 ·rw [if_pos h, if_pos h]
theorem foldN_eq {v : Int → Int} {S : Int} : ∀ {l : List Sp} {acc : Int × Sp}, (l.foldl (xg v S) acc).1 = l.foldl (stepN v S) acc.1
 | [], _ => rfl
 | m :: l, acc => by rw [List.foldl_cons, List.foldl_cons, foldN_eq, stepN_eq]
theorem bb_num (hm : xh may) {S : Int} (h0 : 0 < S) : (bb js bad may S).1 = if y7 S bad 0 js = true then may.foldl (stepN (fun x => (bb js bad may x).1) S) 65536 else 0 := by
 rw [bb_eq hm h0]
 split
 ·exact foldN_eq
 ·rfl
end
section
variable (js : List (Int × Int)) (bad : Int) (may : List Sp) (w : Int)
structure LOut where
 x : List Sp
 n : Int
 ks : List Int
 ns : List Int
 e : Int
def LIs (o : LOut) : Prop :=
 (x0 w js bad may ≠ 0 ∧ o = ⟨[], 0, [], [], x0 w js bad may⟩) ∨
 (x0 w js bad may = 0 ∧ (bb js bad may w).1 = 65536 ∧ o = ⟨[], 0, [], [], 6⟩) ∨
 (x0 w js bad may = 0 ∧ (bb js bad may w).1 < 65536 ∧ Inc o.ks ∧ (∀ k, k ∈ o.ks ↔ Rch js bad may w k) ∧ o.ns = o.ks.map (fun q => (bb js bad may q).1) ∧ o.x = tk js bad may (w.toNat + 1) w ∧ o.n = (bb js bad may w).1 ∧ o.e = 0)
variable {js bad may w}
theorem err_zero (h : x0 w js bad may = 0) : may.length ≤ 4096 ∧ js.length ≤ 16 ∧ 0 < w ∧ w < 65536 ∧ 0 ≤ bad ∧ bad < 2 ^ js.length ∧ (∀ x ∈ may, y0 x.w x.p = true) ∧ xI js = true := by
 unfold x0 at h
 split at h
 ·omega
 ·split at h
  ·omega
  ·split at h
   ·omega
   ·next h3 =>
    split at h
    ·next h4 =>
     refine ⟨by omega, by omega, by omega, by omega, by omega, by omega, fun x hx => ?_, h4⟩
     cases hs : y0 x.w x.p with
     | true => rfl
     | false => exact absurd (List.any_eq_true.mpr ⟨x, hx, by rw [hs]; rfl⟩) h3
    ·omega
theorem joinsB_all : ∀ {js : List (Int × Int)}, xI js = true → ∀ j ∈ js, joinB j ∧ j.1 ≠ j.2
 | [], _ => fun j hj => by simp at hj
 | j :: r, h => by
  rw [xI, Bool.and_eq_true] at h
  intro x hx
  rcases List.mem_cons.mp hx with e | hx
  ·subst e
   have h1 := h.1
   simp only [Bool.not_eq_true', Bool.or_eq_false_iff, decide_eq_false_iff_not] at h1
   unfold joinB
   omega
  ·exact joinsB_all h.2 x hx
end
end Go.Proofs.YtdejleegamcioaaGreat
namespace Go.Proofs.YtdejleegamcioaaGreat
open Go Go.M
theorem fb36 : yw Tryz.f36 (Tryz.f36.body.getD .skip) 1 = true := by kernel_rfl
set_option maxHeartbeats 4000000 in
set_option maxRecDepth 10000 in
theorem rest_ok {I : zJ} (hI : Plain I) {s : St} (hf : Fine s) (hroom : s.next + 1 ≤ zh) {x : Sp} : ∃ v s', yE Tryz.prog I 36 #[.agg ⟨x.cells⟩] s v s' ∧ (v = .int .i64 (zB x.w x.p) ∧ HL [] s s' [] 1) := by
 have H := hf.hl
 refine zY 1 (hI 36 (by decide) (by decide) (by decide) (by decide)) Tryz.func36 rfl fb36 rfl ?_
 refine zc (za rfl (xc H rfl (by omega) (fun b1 s1 H => ?_)))
 refine za rfl (zk (zb (zc (za rfl (zf xW rfl (za rfl (zj y1 rfl H.own0 rfl (za rfl (zf xv rfl (za rfl (zj y1 rfl H.own0 rfl (za rfl (op_andNot rfl rfl (za rfl (zm rfl (zb (zF (zt ?_))))))))))))))))))
 refine z6 ?_
 exact ⟨rfl, H.drop0⟩
end Go.Proofs.YtdejleegamcioaaGreat
namespace Go.Proofs.YtdejleegamcioaaGreat
open Go Go.M
end Go.Proofs.YtdejleegamcioaaGreat
namespace Go.Proofs.YtdejleegamcioaaGreat
open Go Go.M
theorem fc36 : yk Tryz.prog 36 = true := by kernel_rfl
end Go.Proofs.YtdejleegamcioaaGreat
namespace Go.Proofs.YtdejleegamcioaaGreat
open Go Go.M
theorem _root_.Go.M.HL.back {W : List Nat} {s0 s s' : St} {L L0 : Hp'} {n n0 : Nat} (H0 : HL W s0 s L0 n0) (H : HL W s0 s' L n) : HL W s0 { next := s'.next, bar := s.bar, prot := s.prot, heap := s'.heap } L n := by
 have h1 : s'.bar = s.bar := H.bar.trans H0.bar.symm
 have h2 : s'.prot = s.prot := H.prot.trans H0.prot.symm
 cases s'
 simp only at h1 h2
 subst h1
 subst h2
 exact H
section
variable (js : List (Int × Int)) (bad : Int) (may : List Sp) (S : Int)
variable {js bad may S}
end
end Go.Proofs.YtdejleegamcioaaGreat
namespace Go.Proofs.YtdejleegamcioaaGreat
open Go Go.M
end Go.Proofs.YtdejleegamcioaaGreat
namespace Go.M
section
variable {P : Program} {I : zJ} {F : FF} {s : St} {Q : FF → St → Prop} {d : Option Tmp} {ty : TypeId} {pos : String} {af : Array Edge} {g : Option (Nat × Bool)} {W : List Nat} {s0 : St} {L : Hp'} {n : Nat}
end
end Go.M
namespace Go.Proofs.YtdejleegamcioaaGreat
open Go Go.M
theorem Fine.fresh {s : St} (h : Fine s) : Fine { s with bar := s.next } := ⟨Nat.le_refl _, h.wfp⟩
end Go.Proofs.YtdejleegamcioaaGreat
namespace Go.Proofs.YtdejleegamcioaaGreat
open Go Go.M
def LPost (js : List (Int × Int)) (bad : Int) (may : List Sp) (w : Int) (s : St) (N : Nat) (v' : Value) (s' : St) : Prop := ∃ (o : LOut) (D : Hp') (sx p1 p2 : Slc), LIs js bad may w o ∧ v' = .tuple ⟨[sx.v, .int .i64 o.n, .agg ⟨[p1.v, p2.v]⟩, .int .i64 o.e]⟩ ∧ HL [] s s' D N ∧ SlG D 62 10 sx.v (o.x.map Sp.cells) ∧ SlG D 23 1 p1.v (o.ks.map dc) ∧ SlG D 3 1 p2.v (o.ns.map dc)
theorem LPost.fail {js : List (Int × Int)} {bad : Int} {may : List Sp} {w : Int} {s s' : St} {N : Nat} (h : x0 w js bad may ≠ 0) (H : HL [] s s' [] N) : LPost js bad may w s N (.tuple ⟨[.slice none 0 0, .int .i64 0, .agg ⟨[.slice none 0 0, .slice none 0 0]⟩, .int .i64 (x0 w js bad may)]⟩) s' :=
 ⟨⟨[], 0, [], [], x0 w js bad may⟩, [], ⟨none, 0, 0⟩, ⟨none, 0, 0⟩, ⟨none, 0, 0⟩, .inl ⟨h, rfl⟩, rfl, H, .nil 0 rfl rfl, .nil 0 rfl rfl, .nil 0 rfl rfl⟩
theorem LPost.none {js : List (Int × Int)} {bad : Int} {may : List Sp} {w : Int} {s s' : St} {N : Nat} (h : x0 w js bad may = 0) (h2 : (bb js bad may w).1 = 65536) (H : HL [] s s' [] N) : LPost js bad may w s N (.tuple ⟨[.slice none 0 0, .int .i64 0, .agg ⟨[.slice none 0 0, .slice none 0 0]⟩, .int .i64 6]⟩) s' :=
 ⟨⟨[], 0, [], [], 6⟩, [], ⟨Option.none, 0, 0⟩, ⟨Option.none, 0, 0⟩, ⟨Option.none, 0, 0⟩, .inr (.inl ⟨h, h2, rfl⟩), rfl, H, .nil 0 rfl rfl, .nil 0 rfl rfl, .nil 0 rfl rfl⟩
end Go.Proofs.YtdejleegamcioaaGreat
namespace Go.Proofs.YtdejleegamcioaaGreat
open Go Go.M
def PreE (e : Int) (s : St) (N : Nat) : FOut → Prop
 | .ret F s' => ∃ (b10 : Nat), F 8 = .slice none 0 0 ∧ F 9 = .int .i64 0 ∧ F 10 = ptr b10 ∧ F 11 = .int .i64 e ∧ HL [] s s' [(b10, .cells [.slice none 0 0, .slice none 0 0] 36)] N
 | _ => False
set_option maxHeartbeats 4000000 in
set_option maxRecDepth 10000 in
theorem pre_err {I : zJ} (hI : Plain I) {s : St} (hf : Fine s) {w bad : Int} {vj vm : Value} {js : List (Int × Int)} {may : List Sp} (hJ : Sl s 30 2 vj (js.map jc)) (hM : Sl s 62 10 vm (may.map Sp.cells)) (herr : x0 w js bad may ≠ 0) (hroom : s.next + 10020 ≤ zh) :
  y3 Tryz.prog I yO (frameOf #[.int .i64 w, vj, .int .i64 bad, vm]) s (PreE (x0 w js bad may) s 10020) := by
 have H := hf.hl
 obtain ⟨ja, jn, jcp, rfl, hjn⟩ := hJ.isSlice
 obtain ⟨ma, mn, mcp, rfl, hmn⟩ := hM.isSlice
 refine zc (za rfl (op_boxS H rfl (by omega) (fun b5 s1 H => ?_)))
 refine za rfl (op_boxI H rfl (by omega) (fun b6 s2 H => ?_))
 refine za rfl (op_boxS H rfl (by omega) (fun b7 s3 H => ?_))
 refine za rfl (zk (za rfl (zk (za rfl (zC H zf36 (by omega) (fun b10 s4 H => ?_))))))
 refine za rfl (zk (zb (zq (zc (za rfl (zd rfl (za rfl (zj sh24 rfl H.own3 rfl (za rfl (zj y1 rfl H.own2 rfl (za rfl (zj sh25 rfl H.own1 rfl (za rfl (zo rfl fc40 rfl ?_))))))))))))))
 obtain ⟨_, s9, hr, rfl, Hc⟩ := valid_args_ok (w := w) (bad := bad) hI H.fine (hJ.kept H) (hM.kept H) (by have := H.most; omega)
 refine ⟨_, _, hr, ?_⟩
 clear hr
 have H := H.call0 Hc
 clear Hc
 refine za rfl (zm rfl (zb (zc (za rfl (zd rfl (za rfl (op_neq rfl rfl (fun h => ?_) (fun h => False.elim (by exact h herr)))))))))
 refine zb (zE rfl (zc (za rfl (yN (c := [.slice _ _ _, .slice _ _ _]) bf36 rfl (za rfl (zd rfl (za rfl (zk (za rfl (zk (za rfl (zD (vs := [.slice _ _ _, .slice _ _ _]) H sz36 rfl rfl rfl rfl rfl (by omega) (fun s5 H => ?_)))))))))))))
 refine za rfl (zm rfl (zb (zF (zV (⟨b10, rfl, rfl, rfl, rfl, ?_⟩)))))
 exact (H.sub (L' := [(b10, .cells [.slice none 0 0, .slice none 0 0] 36)]) (.cons_cons _ (List.nil_sublist _))).up (by omega)
end Go.Proofs.YtdejleegamcioaaGreat
namespace Go.Proofs.YtdejleegamcioaaGreat
open Go Go.M
theorem finish_of {F : FF} {a : Fr} {s : St} {Post : Value → St → Prop} (ha : Agrees 78 F a) (h : endQ Tryz.prog Tryz.f12.results.toList Post F s) : ∃ v, finish Tryz.prog Tryz.f12 a s = .ret v s ∧ Post v s ∧ ∀ a2, Agrees 78 F a2 → finish Tryz.prog Tryz.f12 a2 s = .ret v s := by
 have key : ∃ v, Post v s ∧ ∀ a2, Agrees 78 F a2 → finish Tryz.prog Tryz.f12 a2 s = .ret v s := by
  unfold endQ at h
  split at h
  ·next v hv => exact ⟨v, h, fun a ha => by unfold finish; rw [qt ha _ resN, hv]⟩
  ·next l hl hv =>
   refine ⟨_, h, fun a ha => ?_⟩
   unfold finish
   rw [qt ha _ resN, hv]
   cases l with
   | nil => rfl
   | cons x l => cases l with
    | nil => exact (hl x rfl).elim
    | cons y l => rfl
  ·exact h.elim
 obtain ⟨v, h1, h2⟩ := key
 exact ⟨v, h2 a ha, h1, h2⟩
theorem least_pre {args : Array Value} (h4 : args.toList.length = 4) (s : St) (n : Nat) : SimOut 78 (yJ Tryz.prog ym n yO (frameOf args) s) (zL Tryz.prog ym n yO (Fr.make args 78) s) :=
 xC n yO _ _ s preN (agrees_make (by omega) (by decide))
theorem room_help {a b c d k o : Nat} (h1 : a + 20000000000 ≤ d) (h2 : b ≤ 1200000000) (h3 : c ≤ 65535) (hk : k ≤ 400000) (ho : o ≤ 1) : a + (b + 2 * c + o + 2 * c + k) ≤ d := by omega
theorem room_help2 {b c k o : Nat} (h2 : b ≤ 1200000000) (h3 : c ≤ 65535) (hk : k ≤ 400000) (ho : o ≤ 1) : b + 2 * c + o + 2 * c + k ≤ 20000000000 := by omega
def LeastG (I : zJ) : Prop := ∀ (s : St) (w bad : Int) (vj vm : Value) (js : List (Int × Int)) (may : List Sp), Fine s → Sl s 30 2 vj (js.map jc) → Sl s 62 10 vm (may.map Sp.cells) → (∀ x ∈ may, x.p < 9223372036854775808) → may.length ≤ 15 → s.next + 20000000000 ≤ zh →
 ∃ v' s', yE Tryz.prog I 12 #[.int .i64 w, vj, .int .i64 bad, vm] s v' s' ∧ LPost js bad may w s 20000000000 v' s'
set_option maxHeartbeats 4000000 in
set_option maxRecDepth 10000 in
theorem leastE {I : zJ} (hI : I 12 = some leastI) {s : St} {w bad : Int} {vj vm : Value} {js : List (Int × Int)} {may : List Sp} (hf : Fine s) (hJ : Sl s 30 2 vj (js.map jc)) (hM : Sl s 62 10 vm (may.map Sp.cells)) (herr : x0 w js bad may ≠ 0) (hroom : s.next + 20000000000 ≤ zh) :
  ∃ v' s', yE Tryz.prog I 12 #[.int .i64 w, vj, .int .i64 bad, vm] s v' s' ∧ LPost js bad may w s 20000000000 v' s' := by
 obtain ⟨o, hq, n1, hn1⟩ := pre_err plain_none hf hJ hM herr (by omega)
 have hsim := least_pre (args := #[.int .i64 w, vj, .int .i64 bad, vm]) rfl s
 have hret : ∀ v s', Ever #[.int .i64 w, vj, .int .i64 bad, vm] s v s' → yE Tryz.prog I 12 #[.int .i64 w, vj, .int .i64 bad, vm] s v s' := fun v s' h => ⟨0, fun m _ => by
  simp only [callM, yQ, hI]
  exact leastI_eq h⟩
 cases o with
 | exit i F s' => exact hq.elim
 | stuck => exact hq.elim
 | normal F s' => exact hq.elim
 | ret F s' =>
  obtain ⟨b10, e8, e9, e10, e11, H⟩ := hq
  have he : endQ Tryz.prog Tryz.f12.results.toList (fun v s2 => v = .tuple ⟨[.slice none 0 0, .int .i64 0, .agg ⟨[.slice none 0 0, .slice none 0 0]⟩, .int .i64 (x0 w js bad may)]⟩ ∧ s2 = s') F s' :=
   end_ttct e8 e9 sh36 e10 H.own0 rfl e11 ⟨rfl, rfl⟩
  refine ⟨_, s', hret _ s' ⟨n1, fun n hn => ?_⟩, LPost.fail herr (H.drop0.up (by omega))⟩
  have h0 := hsim n
  rw [hn1 n hn] at h0
  cases hm2 : zL Tryz.prog ym n yO (Fr.make #[.int .i64 w, vj, .int .i64 bad, vm] 78) s with
  | ret a s2 =>
   rw [hm2] at h0
   obtain ⟨rfl, ha⟩ := h0
   obtain ⟨v, hv, ⟨rfl, _⟩, _⟩ := finish_of ha he
   simp only [qD, hm2]
   exact hv
  | _ => rw [hm2] at h0; exact h0.elim
set_option maxHeartbeats 4000000 in
set_option maxRecDepth 10000 in
theorem leastG {I : zJ} (hI : I 12 = some leastI) : LeastG I := by
 intro s w bad vj vm js may hf hJ hM hin hml hroom
 by_cases herr : x0 w js bad may = 0
 case neg => exact leastE hI hf hJ hM herr hroom
 obtain ⟨_, hjl, hw0, hw1, hb0, hb1, hsp, hjb⟩ := err_zero herr
 have hm : xh may := fun x hx => ⟨hsp x hx, hin x hx⟩
 have hj := joinsB_all hjb
 have htb := tb_small hm hml (w.toNat + 1) w
 have hrg := xD (js := js) (bad := bad) (may := may) w
 obtain ⟨o, hq, n1, hn1⟩ := pre_ok plain_none hf hJ hM hj hjl hm hml hw0 hw1 hb0 hb1 (by omega)
 have hsim := least_pre (args := #[.int .i64 w, vj, .int .i64 bad, vm]) rfl s
 have hret : ∀ v s', Ever #[.int .i64 w, vj, .int .i64 bad, vm] s v s' → yE Tryz.prog I 12 #[.int .i64 w, vj, .int .i64 bad, vm] s v s' := fun v s' h => ⟨0, fun m _ => by
  simp only [callM, yQ, hI]
  exact leastI_eq h⟩
 cases o with
 | exit i F s' => exact hq.elim
 | stuck => exact hq.elim
 | ret F s' =>
  obtain ⟨h1, b10, e8, e9, e10, e11, H⟩ := hq
  have he : endQ Tryz.prog Tryz.f12.results.toList (fun v s2 => v = .tuple ⟨[.slice none 0 0, .int .i64 0, .agg ⟨[.slice none 0 0, .slice none 0 0]⟩, .int .i64 6]⟩ ∧ s2 = s') F s' :=
   end_ttct e8 e9 sh36 e10 H.own0 rfl e11 ⟨rfl, rfl⟩
  refine ⟨_, s', hret _ s' ⟨n1, fun n hn => ?_⟩, LPost.none herr h1 (H.drop0.up (by omega))⟩
  have h0 := hsim n
  rw [hn1 n hn] at h0
  cases hm2 : zL Tryz.prog ym n yO (Fr.make #[.int .i64 w, vj, .int .i64 bad, vm] 78) s with
  | ret a s2 =>
   rw [hm2] at h0
   obtain ⟨rfl, ha⟩ := h0
   obtain ⟨v, hv, ⟨rfl, _⟩, _⟩ := finish_of ha he
   simp only [qD, hm2]
   exact hv
  | _ => rw [hm2] at h0; exact h0.elim
 | normal F s1 =>
  obtain ⟨h1, G, b10, bK, b16, r, E, rfl, hg, hk, hEl, hRc, H⟩ := hq
  have hE : 0 < E.length := by
   cases E with
   | nil => simp [ys] at hk
   | cons a b => simp
  obtain ⟨N, hN⟩ : ∃ N, N = 10020 + tb may (w.toNat + 1) w := ⟨_, rfl⟩
  rw [← hN] at H
  have hNb : N ≤ 1200000000 := by omega
  clear hN htb
  obtain ⟨s2, bS, hseg, H2⟩ := seg_ok H hE (by omega) (by omega)
  have hlen : (yp (ys E)).length = E.length := by rw [(yX _).length_eq]; simp [ys]
  have hk7 : (yp (ys E)).length ≤ 10000000 := by rw [hlen]; omega
  have hroom2 : s.next + (N + 2 * E.length + 1 + 2 * (yp (ys E)).length + 400000) ≤ zh := by
   rw [hlen]
   exact room_help hroom hNb hEl (Nat.le_refl _) (Nat.le_refl _)
  obtain ⟨o2, hq2, n2, hn2⟩ := tail_ok (I := ym) (G := G) (ks := yp (ys E)) (n0 := N + 2 * E.length + 1) (cS := 2 * E.length + 1) plain_none hm hw0 hw1 h1 hg hk (fun x hx => (yX _).mem_iff.mp hx) hk7 (by omega) H2 hroom2
  have hpre : ∀ n, n1 + n2 ≤ n → ∃ a, zL Tryz.prog ym n yO (Fr.make #[.int .i64 w, vj, .int .i64 bad, vm] 78) s = .normal a s1 ∧ Agrees 78 (lay G [(0, .int .i64 w), (10, ptr b10), (13, ptr bK), (15, .int .i64 (bb js bad may w).1), (16, ptr b16)]) a ∧ segS (a.get 13) (a.get 16) s1 = some s2 := by
   intro n hn
   have h0 := hsim n
   rw [hn1 n (by omega)] at h0
   cases hm2 : zL Tryz.prog ym n yO (Fr.make #[.int .i64 w, vj, .int .i64 bad, vm] 78) s with
   | normal a s3 =>
    rw [hm2] at h0
    obtain ⟨rfl, ha⟩ := h0
    refine ⟨a, rfl, ha, ?_⟩
    rw [ha.get 13 (by decide), ha.get 16 (by decide)]
    exact hseg
   | _ => rw [hm2] at h0; exact h0.elim
  have hend : ∀ (F3 : FF) (s' : St), (∀ n, n2 ≤ n → yJ Tryz.prog ym n leastTail (lay G [(0, .int .i64 w), (10, ptr b10), (13, ptr bK), (15, .int .i64 (bb js bad may w).1), (16, ptr b16)]) s2 = .ret F3 s') ∨ (∀ n, n2 ≤ n → yJ Tryz.prog ym n leastTail (lay G [(0, .int .i64 w), (10, ptr b10), (13, ptr bK), (15, .int .i64 (bb js bad may w).1), (16, ptr b16)]) s2 = .normal F3 s') →
    endQ Tryz.prog Tryz.f12.results.toList (fun v' s' => ∃ (D : Hp') (sx p1 p2 : Slc), v' = .tuple ⟨[sx.v, .int .i64 (bb js bad may w).1, .agg ⟨[p1.v, p2.v]⟩, .int .i64 0]⟩ ∧ HL [] s s' D (N + 2 * E.length + 1 + 2 * (yp (ys E)).length + 400000) ∧ SlG D 62 10 sx.v ((tk js bad may (w.toNat + 1) w).map Sp.cells) ∧ SlG D 23 1 p1.v ((yp (ys E)).map dc) ∧ SlG D 3 1 p2.v (((yp (ys E)).map fun q => (bb js bad may q).1).map dc)) F3 s' →
    ∃ v' s', yE Tryz.prog I 12 #[.int .i64 w, vj, .int .i64 bad, vm] s v' s' ∧ LPost js bad may w s 20000000000 v' s' := by
   intro F3 s' hrun he
   -- the frame at one great fuel
   obtain ⟨a, hpa, hag, hsg⟩ := hpre (n1 + n2) (Nat.le_refl _)
   have htail : ∀ n, n2 ≤ n → ∀ a, Agrees 78 (lay G [(0, .int .i64 w), (10, ptr b10), (13, ptr bK), (15, .int .i64 (bb js bad may w).1), (16, ptr b16)]) a → ∃ a3, Agrees 78 F3 a3 ∧ (zL Tryz.prog ym n leastTail a s2 = .ret a3 s' ∨ zL Tryz.prog ym n leastTail a s2 = .normal a3 s') := by
    intro n hn a ha
    have h0 := xC (P := Tryz.prog) (I := ym) n leastTail _ a s2 tailN ha
    rcases hrun with hrun | hrun
    ·rw [hrun n hn] at h0
     cases hm3 : zL Tryz.prog ym n leastTail a s2 with
     | ret a3 s3 =>
      rw [hm3] at h0
      obtain ⟨rfl, ha3⟩ := h0
      exact ⟨a3, ha3, .inl rfl⟩
     | _ => rw [hm3] at h0; exact h0.elim
    ·rw [hrun n hn] at h0
     cases hm3 : zL Tryz.prog ym n leastTail a s2 with
     | normal a3 s3 =>
      rw [hm3] at h0
      obtain ⟨rfl, ha3⟩ := h0
      exact ⟨a3, ha3, .inr rfl⟩
     | _ => rw [hm3] at h0; exact h0.elim
   obtain ⟨a3, ha3, _⟩ := htail (n1 + n2) (by omega) a hag
   obtain ⟨v, _, ⟨D, sx, p1, p2, hv, HD, hG, hG1, hG2⟩, hall⟩ := finish_of ha3 he
   refine ⟨v, s', hret v s' ⟨n1 + n2, fun n hn => ?_⟩, ⟨⟨tk js bad may (w.toNat + 1) w, (bb js bad may w).1, yp (ys E), (yp (ys E)).map fun q => (bb js bad may q).1, 0⟩, D, sx, p1, p2, .inr (.inr ⟨herr, h1, isort_inc hg.nodup, fun k => ⟨fun hk2 => hRc k ((yX _).mem_iff.mp hk2), fun hk2 => (yX _).mem_iff.mpr (hg.closed.all hk hk2)⟩, rfl, rfl, rfl, rfl⟩), hv, HD.up (by rw [hlen]; exact room_help2 hNb hEl (Nat.le_refl _) (Nat.le_refl _)), hG, hG1, hG2⟩⟩
   obtain ⟨a4, hp4, hag4, hsg4⟩ := hpre n hn
   obtain ⟨a5, ha5, h5⟩ := htail n (by omega) a4 hag4
   rcases h5 with h5 | h5
   ·simp only [qD, hp4, hsg4, h5]
    exact hall a5 ha5
   ·simp only [qD, hp4, hsg4, h5]
    exact hall a5 ha5
  cases o2 with
  | exit i F s' => exact hq2.elim
  | stuck => exact hq2.elim
  | normal F3 s' => exact hend F3 s' (.inr hn2) hq2
  | ret F3 s' => exact hend F3 s' (.inl hn2) hq2
end Go.Proofs.YtdejleegamcioaaGreat
