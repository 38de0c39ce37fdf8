/- The state as a list of blocks beside what was there; rules for single operations. -/
import Derived.Test.YtdejleegamcioaaGreatP10
namespace Go.M
abbrev Hp' := List (Nat × MObj)
def zh : Nat := 281474976710655
structure HL (W : List Nat) (s0 s : St) (L : Hp') (n : Nat) : Prop where
 bar : s.bar = s0.bar
 prot : s.prot = s0.prot
 wfb : s0.bar ≤ s0.next
 wfp : ∀ p, p ∈ s0.prot → p < s0.next
 le : s0.next ≤ s.next
 most : s.next ≤ s0.next + n
 own : ∀ p, p ∈ L → s.get p.1 = some p.2 ∧ p.1 < s.next ∧ s.may p.1 = true ∧ (s0.next ≤ p.1 ∨ p.1 ∈ W)
 dist : L.Pairwise fun p q => p.1 ≠ q.1
 kept : ∀ b, b < s0.next → b ∉ W → s.get b = s0.get b
structure Fine (s : St) : Prop where
 wfb : s.bar ≤ s.next
 wfp : ∀ p, p ∈ s.prot → p < s.next
theorem Fine.hl {s : St} (h : Fine s) : HL [] s s [] 0 :=
 ⟨rfl, rfl, h.wfb, h.wfp, Nat.le_refl _, Nat.le_refl _, fun _ h => (by cases h), .nil, fun _ _ _ => rfl⟩
theorem may_of {s : St} {b : Nat} (h1 : s.bar ≤ b) (h2 : b ∉ s.prot) : s.may b = true := by
 simp only [St.may, Bool.and_eq_true, Bool.not_eq_true']
 refine ⟨Nat.ble_eq_true_of_le h1, ?_⟩
 rw [Bool.eq_false_iff]
 intro h
 rw [List.any_eq_true] at h
 obtain ⟨x, hx, he⟩ := h
 have := Nat.eq_of_beq_eq_true he
 subst this
 exact h2 hx
section
variable {W : List Nat} {s0 s : St} {L : Hp'} {n : Nat}
theorem HL.fine (H : HL W s0 s L n) : Fine s := ⟨by have := H.bar; have := H.wfb; have := H.le; omega, fun p hp => by rw [H.prot] at hp; have := H.wfp p hp; have := H.le; omega⟩
theorem HL.up (H : HL W s0 s L n) {n' : Nat} (h : n ≤ n') : HL W s0 s L n' := { H with most := by have := H.most; omega }
theorem HL.sub (H : HL W s0 s L n) {L' : Hp'} (h : L'.Sublist L) : HL W s0 s L' n :=
 { H with own := fun p hp => H.own p (h.subset hp), dist := H.dist.sublist h }
theorem HL.may_next (H : HL W s0 s L n) : s.may s.next = true := by
 refine may_of (by have := H.bar; have := H.wfb; have := H.le; omega) fun h => ?_
 rw [H.prot] at h
 have := H.wfp _ h
 have := H.le
 omega
theorem HL.new (H : HL W s0 s L n) (o : MObj) (hr : s0.next + n < zh) : HL W s0 (s.new o) ((s.next, o) :: L) (n + 1) := by
 have hm := H.most
 have hle := H.le
 unfold zh at hr
 have hg := fun b' => St.get_new (s := s) (by omega) o b'
 refine ⟨H.bar, H.prot, H.wfb, H.wfp, by simp only [St.new_next]; omega, by simp only [St.new_next]; omega, fun p hp => ?_, ?_, fun b hb hw => ?_⟩
 ·rcases List.mem_cons.mp hp with rfl | hp
  ·refine ⟨by rw [hg]; simp, by simp only [St.new_next]; omega, ?_, .inl hle⟩
   exact H.may_next
  ·obtain ⟨h1, h2, h3, h4⟩ := H.own p hp
   refine ⟨by rw [hg, if_neg (by omega)]; exact h1, by simp only [St.new_next]; omega, h3, h4⟩
 ·exact List.Pairwise.cons (fun q hq => by have := (H.own q hq).2.1; simp only; omega) H.dist
 ·rw [hg, if_neg (by omega)]; exact H.kept b hb hw
theorem HL.room (H : HL W s0 s L n) (hr : s0.next + n < zh) : s.room = true := by
 have hm := H.most
 unfold zh at hr
 simp only [St.room, Nat.blt_eq]
 omega
theorem HL.putAt (A : Hp') {B : Hp'} {b : Nat} {o : MObj} (H : HL W s0 s (A ++ (b, o) :: B) n) (o' : MObj) (hr : s0.next + n ≤ zh) : HL W s0 (s.put b (some o')) (A ++ (b, o') :: B) n := by
 have hm := H.most
 unfold zh at hr
 obtain ⟨hb1, hb2, hb3, hb4⟩ := H.own (b, o) (by simp)
 have hg := fun b' => St.get_put (s := s) (b := b) (by simp only at hb2; omega) (some o') b'
 have hd := H.dist
 rw [List.pairwise_append, List.pairwise_cons] at hd
 obtain ⟨d1, ⟨d2, d3⟩, d4⟩ := hd
 refine ⟨H.bar, H.prot, H.wfb, H.wfp, H.le, H.most, fun p hp => ?_, ?_, fun b' hb hw => ?_⟩
 ·rcases List.mem_append.mp hp with hp | hp
  ·obtain ⟨h1, h2, h3, h4⟩ := H.own p (by simp [hp])
   have hne : p.1 ≠ b := d4 p hp (b, o) (by simp)
   exact ⟨by rw [hg, if_neg hne]; exact h1, h2, h3, h4⟩
  ·rcases List.mem_cons.mp hp with rfl | hp
   ·exact ⟨by rw [hg]; simp, hb2, hb3, hb4⟩
   ·obtain ⟨h1, h2, h3, h4⟩ := H.own p (by simp [hp])
    have hne : p.1 ≠ b := fun e => d2 p hp e.symm
    exact ⟨by rw [hg, if_neg hne]; exact h1, h2, h3, h4⟩
 ·rw [List.pairwise_append, List.pairwise_cons]
  refine ⟨d1, ⟨fun q hq => d2 q hq, d3⟩, fun a ha c hc => ?_⟩
  rcases List.mem_cons.mp hc with rfl | hc
  ·exact d4 a ha (b, o) (by simp)
  ·exact d4 a ha c (by simp [hc])
 ·rw [hg]
  split
  ·next e =>
   subst e
   rcases hb4 with h | h
   ·simp only at h; omega
   ·exact (hw h).elim
  ·exact H.kept b' hb hw
theorem HL.killAt (A : Hp') {B : Hp'} {b : Nat} {o : MObj} (H : HL W s0 s (A ++ (b, o) :: B) n) (hr : s0.next + n ≤ zh) : HL W s0 (s.put b none) (A ++ B) n := by
 have hm := H.most
 unfold zh at hr
 obtain ⟨hb1, hb2, hb3, hb4⟩ := H.own (b, o) (by simp)
 have hg := fun b' => St.get_put (s := s) (b := b) (by simp only at hb2; omega) none b'
 have hd := H.dist
 rw [List.pairwise_append, List.pairwise_cons] at hd
 obtain ⟨d1, ⟨d2, d3⟩, d4⟩ := hd
 refine ⟨H.bar, H.prot, H.wfb, H.wfp, H.le, H.most, fun p hp => ?_, ?_, fun b' hb hw => ?_⟩
 ·rcases List.mem_append.mp hp with hp | hp
  ·obtain ⟨h1, h2, h3, h4⟩ := H.own p (by simp [hp])
   have hne : p.1 ≠ b := d4 p hp (b, o) (by simp)
   exact ⟨by rw [hg, if_neg hne]; exact h1, h2, h3, h4⟩
  ·obtain ⟨h1, h2, h3, h4⟩ := H.own p (by simp [hp])
   have hne : p.1 ≠ b := fun e => d2 p hp e.symm
   exact ⟨by rw [hg, if_neg hne]; exact h1, h2, h3, h4⟩
 ·rw [List.pairwise_append]
  exact ⟨d1, d3, fun a ha c hc => d4 a ha c (by simp [hc])⟩
 ·rw [hg]
  split
  ·next e =>
   subst e
   rcases hb4 with h | h
   ·simp only at h; omega
   ·exact (hw h).elim
  ·exact H.kept b' hb hw
theorem HL.call (H : HL W s0 s L n) {s' : St} {L' : Hp'} {k : Nat} (H' : HL [] s s' L' k) : HL W s0 s' (L' ++ L) (n + k) := by
 have hm := H.most
 have hm' := H'.most
 have hle := H.le
 have hle' := H'.le
 refine ⟨H'.bar.trans H.bar, H'.prot.trans H.prot, H.wfb, H.wfp, by omega, by omega, fun p hp => ?_, ?_, fun b hb hw => ?_⟩
 ·rcases List.mem_append.mp hp with hp | hp
  ·obtain ⟨h1, h2, h3, h4⟩ := H'.own p hp
   refine ⟨h1, h2, h3, .inl ?_⟩
   rcases h4 with h | h
   ·omega
   ·cases h
  ·obtain ⟨h1, h2, h3, h4⟩ := H.own p hp
   refine ⟨by rw [H'.kept _ h2 (by simp)]; exact h1, by omega, ?_, h4⟩
   rw [St.may_eq H'.bar H'.prot]; exact h3
 ·rw [List.pairwise_append]
  refine ⟨H'.dist, H.dist, fun a ha c hc => ?_⟩
  have h1 := (H'.own a ha).2.2.2
  have h2 := (H.own c hc).2.1
  rcases h1 with h | h
  ·omega
  ·cases h
 ·rw [H'.kept b (by omega) (by simp)]; exact H.kept b hb hw
theorem HL.call0 (H : HL W s0 s L n) {s' : St} {k : Nat} (H' : HL [] s s' [] k) : HL W s0 s' L (n + k) := H.call H'
theorem HL.old (H : HL [] s0 s L n) {b : Nat} {o : Option MObj} (hb : b < s0.next) (h : s0.get b = o) : s.get b = o := by rw [H.kept b hb (by simp)]; exact h
theorem HL.own0 {b : Nat} {o : MObj} (H : HL W s0 s ((b, o) :: L) n) : s.get b = some o := (H.own (b, o) (by simp)).1
theorem HL.lt0 {b : Nat} {o : MObj} (H : HL W s0 s ((b, o) :: L) n) : b < s.next := (H.own (b, o) (by simp)).2.1
theorem HL.lim0 {b : Nat} {o : MObj} (H : HL W s0 s ((b, o) :: L) n) (hr : s0.next + n ≤ zh) : b < zh := by have h1 := (H.own (b, o) (by simp)).2.1; have h2 := H.most; simp only at h1; omega
theorem HL.put0 {b : Nat} {o : MObj} (H : HL W s0 s ((b, o) :: L) n) (o' : MObj) (hr : s0.next + n ≤ zh) : HL W s0 (s.put b (some o')) ((b, o') :: L) n := HL.putAt [] H o' hr
theorem HL.drop0 {b : Nat} {o : MObj} (H : HL W s0 s ((b, o) :: L) n) : HL W s0 s (L) n := H.sub (.cons _ (List.Sublist.refl _))
theorem HL.own1 {p0 : Nat × MObj} {b : Nat} {o : MObj} (H : HL W s0 s (p0 :: (b, o) :: L) n) : s.get b = some o := (H.own (b, o) (by simp)).1
theorem HL.lt1 {p0 : Nat × MObj} {b : Nat} {o : MObj} (H : HL W s0 s (p0 :: (b, o) :: L) n) : b < s.next := (H.own (b, o) (by simp)).2.1
theorem HL.lim1 {p0 : Nat × MObj} {b : Nat} {o : MObj} (H : HL W s0 s (p0 :: (b, o) :: L) n) (hr : s0.next + n ≤ zh) : b < zh := by have h1 := (H.own (b, o) (by simp)).2.1; have h2 := H.most; simp only at h1; omega
theorem HL.put1 {p0 : Nat × MObj} {b : Nat} {o : MObj} (H : HL W s0 s (p0 :: (b, o) :: L) n) (o' : MObj) (hr : s0.next + n ≤ zh) : HL W s0 (s.put b (some o')) (p0 :: (b, o') :: L) n := HL.putAt [p0] H o' hr
theorem HL.drop1 {p0 : Nat × MObj} {b : Nat} {o : MObj} (H : HL W s0 s (p0 :: (b, o) :: L) n) : HL W s0 s (p0 :: L) n := H.sub (.cons_cons _ (.cons _ (List.Sublist.refl _)))
theorem HL.own2 {p0 p1 : Nat × MObj} {b : Nat} {o : MObj} (H : HL W s0 s (p0 :: p1 :: (b, o) :: L) n) : s.get b = some o := (H.own (b, o) (by simp)).1
theorem HL.lt2 {p0 p1 : Nat × MObj} {b : Nat} {o : MObj} (H : HL W s0 s (p0 :: p1 :: (b, o) :: L) n) : b < s.next := (H.own (b, o) (by simp)).2.1
theorem HL.lim2 {p0 p1 : Nat × MObj} {b : Nat} {o : MObj} (H : HL W s0 s (p0 :: p1 :: (b, o) :: L) n) (hr : s0.next + n ≤ zh) : b < zh := by have h1 := (H.own (b, o) (by simp)).2.1; have h2 := H.most; simp only at h1; omega
theorem HL.put2 {p0 p1 : Nat × MObj} {b : Nat} {o : MObj} (H : HL W s0 s (p0 :: p1 :: (b, o) :: L) n) (o' : MObj) (hr : s0.next + n ≤ zh) : HL W s0 (s.put b (some o')) (p0 :: p1 :: (b, o') :: L) n := HL.putAt [p0, p1] H o' hr
theorem HL.drop2 {p0 p1 : Nat × MObj} {b : Nat} {o : MObj} (H : HL W s0 s (p0 :: p1 :: (b, o) :: L) n) : HL W s0 s (p0 :: p1 :: L) n := H.sub (.cons_cons _ (.cons_cons _ (.cons _ (List.Sublist.refl _))))
theorem HL.own3 {p0 p1 p2 : Nat × MObj} {b : Nat} {o : MObj} (H : HL W s0 s (p0 :: p1 :: p2 :: (b, o) :: L) n) : s.get b = some o := (H.own (b, o) (by simp)).1
theorem HL.lt3 {p0 p1 p2 : Nat × MObj} {b : Nat} {o : MObj} (H : HL W s0 s (p0 :: p1 :: p2 :: (b, o) :: L) n) : b < s.next := (H.own (b, o) (by simp)).2.1
theorem HL.lim3 {p0 p1 p2 : Nat × MObj} {b : Nat} {o : MObj} (H : HL W s0 s (p0 :: p1 :: p2 :: (b, o) :: L) n) (hr : s0.next + n ≤ zh) : b < zh := by have h1 := (H.own (b, o) (by simp)).2.1; have h2 := H.most; simp only at h1; omega
theorem HL.put3 {p0 p1 p2 : Nat × MObj} {b : Nat} {o : MObj} (H : HL W s0 s (p0 :: p1 :: p2 :: (b, o) :: L) n) (o' : MObj) (hr : s0.next + n ≤ zh) : HL W s0 (s.put b (some o')) (p0 :: p1 :: p2 :: (b, o') :: L) n := HL.putAt [p0, p1, p2] H o' hr
theorem HL.own4 {p0 p1 p2 p3 : Nat × MObj} {b : Nat} {o : MObj} (H : HL W s0 s (p0 :: p1 :: p2 :: p3 :: (b, o) :: L) n) : s.get b = some o := (H.own (b, o) (by simp)).1
theorem HL.lt4 {p0 p1 p2 p3 : Nat × MObj} {b : Nat} {o : MObj} (H : HL W s0 s (p0 :: p1 :: p2 :: p3 :: (b, o) :: L) n) : b < s.next := (H.own (b, o) (by simp)).2.1
theorem HL.put4 {p0 p1 p2 p3 : Nat × MObj} {b : Nat} {o : MObj} (H : HL W s0 s (p0 :: p1 :: p2 :: p3 :: (b, o) :: L) n) (o' : MObj) (hr : s0.next + n ≤ zh) : HL W s0 (s.put b (some o')) (p0 :: p1 :: p2 :: p3 :: (b, o') :: L) n := HL.putAt [p0, p1, p2, p3] H o' hr
theorem HL.own5 {p0 p1 p2 p3 p4 : Nat × MObj} {b : Nat} {o : MObj} (H : HL W s0 s (p0 :: p1 :: p2 :: p3 :: p4 :: (b, o) :: L) n) : s.get b = some o := (H.own (b, o) (by simp)).1
theorem HL.lt5 {p0 p1 p2 p3 p4 : Nat × MObj} {b : Nat} {o : MObj} (H : HL W s0 s (p0 :: p1 :: p2 :: p3 :: p4 :: (b, o) :: L) n) : b < s.next := (H.own (b, o) (by simp)).2.1
theorem HL.put5 {p0 p1 p2 p3 p4 : Nat × MObj} {b : Nat} {o : MObj} (H : HL W s0 s (p0 :: p1 :: p2 :: p3 :: p4 :: (b, o) :: L) n) (o' : MObj) (hr : s0.next + n ≤ zh) : HL W s0 (s.put b (some o')) (p0 :: p1 :: p2 :: p3 :: p4 :: (b, o') :: L) n := HL.putAt [p0, p1, p2, p3, p4] H o' hr
theorem HL.own6 {p0 p1 p2 p3 p4 p5 : Nat × MObj} {b : Nat} {o : MObj} (H : HL W s0 s (p0 :: p1 :: p2 :: p3 :: p4 :: p5 :: (b, o) :: L) n) : s.get b = some o := (H.own (b, o) (by simp)).1
theorem HL.lt6 {p0 p1 p2 p3 p4 p5 : Nat × MObj} {b : Nat} {o : MObj} (H : HL W s0 s (p0 :: p1 :: p2 :: p3 :: p4 :: p5 :: (b, o) :: L) n) : b < s.next := (H.own (b, o) (by simp)).2.1
theorem HL.lim6 {p0 p1 p2 p3 p4 p5 : Nat × MObj} {b : Nat} {o : MObj} (H : HL W s0 s (p0 :: p1 :: p2 :: p3 :: p4 :: p5 :: (b, o) :: L) n) (hr : s0.next + n ≤ zh) : b < zh := by have h1 := (H.own (b, o) (by simp)).2.1; have h2 := H.most; simp only at h1; omega
end
section
variable {P : Program} {I : zJ} {F : FF} {s : St} {Q : FF → St → Prop} {d : Option Tmp} {ty : TypeId} {pos : String} {af : Array Edge} {g : Option (Nat × Bool)}
theorem zS {o : Oper} {v : Value} {s' : St} (h : zr P (zn F) o.op s = .ok (.value v) s') (k : Q (upd F o.dst v) s') : OpW P I o F s Q :=
 ⟨_, _, k, 0, fun m _ => by simp only [opF, h]⟩
theorem qk {o : Oper} {s' : St} (h : zr P (zn F) o.op s = .ok .skip s') (k : Q (upd F o.dst undef) s') : OpW P I o F s Q :=
 ⟨_, _, k, 0, fun m _ => by simp only [opF, h]⟩
theorem op_enter {o : Oper} {f : FuncId} {args : Array Value} {s₁ : St} (h : zr P (zn F) o.op s = .ok (.enter f args) s₁) (hr : ∃ v s', yE P I f args s₁ v s' ∧ Q (upd F o.dst v) s') : OpW P I o F s Q := by
 obtain ⟨v, s', ⟨n, hn⟩, hq⟩ := hr
 exact ⟨_, _, hq, n, fun m hm => by simp only [opF, h, hn m hm]⟩
theorem xu {x : Operand} (k : Q (upd F d (zn F x)) s) : OpW P I ⟨d, .move x, ty, pos, af, g⟩ F s Q := zS rfl k
theorem op_assign {x : Operand} (k : Q (upd F d (zn F x)) s) : OpW P I ⟨d, .assign x, ty, pos, af, g⟩ F s Q := zS rfl k
theorem op_pick1 {c a b : Operand} (hc : zn F c = .bool true) (k : Q (upd F d (zn F a)) s) : OpW P I ⟨d, .pick c a b, ty, pos, af, g⟩ F s Q := zS (by simp only [zr, pickM, hc]; rfl) k
theorem op_pick0 {c a b : Operand} (hc : zn F c = .bool false) (k : Q (upd F d (zn F b)) s) : OpW P I ⟨d, .pick c a b, ty, pos, af, g⟩ F s Q := zS (by simp only [zr, pickM, hc]; rfl) k
theorem xV {v : Value} (k : Q (upd F d v) s) : OpW P I ⟨d, .move (.const v), ty, pos, af, g⟩ F s Q := xu k
theorem zk {v : Value} (k : Q (upd F d v) s) : OpW P I ⟨d, .assign (.const v), ty, pos, af, g⟩ F s Q := op_assign k
theorem yi {y w : Operand} {v : Value} (hc : zn F y = .bool true) (k : Q (upd F d v) s) : OpW P I ⟨d, .pick y (.const v) w, ty, pos, af, g⟩ F s Q := op_pick1 hc k
theorem zZ {y z : Operand} {v : Value} (hc : zn F y = .bool false) (k : Q (upd F d v) s) : OpW P I ⟨d, .pick y z (.const v), ty, pos, af, g⟩ F s Q := op_pick0 hc k
theorem zd {x : Operand} {kd : IntKind} {a : Int} (hx : zn F x = .int kd a) (k : Q (upd F d (.int kd a)) s) : OpW P I ⟨d, .move x, ty, pos, af, g⟩ F s Q := xu (by rw [hx]; exact k)
theorem zm {x : Operand} {kd : IntKind} {a : Int} (hx : zn F x = .int kd a) (k : Q (upd F d (.int kd a)) s) : OpW P I ⟨d, .assign x, ty, pos, af, g⟩ F s Q := op_assign (by rw [hx]; exact k)
theorem zl {x : Operand} {b : Bool} (hx : zn F x = .bool b) (k : Q (upd F d (.bool b)) s) : OpW P I ⟨d, .move x, ty, pos, af, g⟩ F s Q := xu (by rw [hx]; exact k)
theorem zw {x : Operand} {b : Bool} (hx : zn F x = .bool b) (k : Q (upd F d (.bool b)) s) : OpW P I ⟨d, .assign x, ty, pos, af, g⟩ F s Q := op_assign (by rw [hx]; exact k)
theorem zK {y z w : Operand} {b : Bool} (hc : zn F y = .bool true) (hx : zn F z = .bool b) (k : Q (upd F d (.bool b)) s) : OpW P I ⟨d, .pick y z w, ty, pos, af, g⟩ F s Q := op_pick1 hc (by rw [hx]; exact k)
theorem zW {y z w : Operand} {b : Bool} (hc : zn F y = .bool false) (hx : zn F w = .bool b) (k : Q (upd F d (.bool b)) s) : OpW P I ⟨d, .pick y z w, ty, pos, af, g⟩ F s Q := op_pick0 hc (by rw [hx]; exact k)
theorem zp {x : Operand} {a : Option Addr} {m c : Nat} (hx : zn F x = .slice a m c) (k : Q (upd F d (.slice a m c)) s) : OpW P I ⟨d, .move x, ty, pos, af, g⟩ F s Q := xu (by rw [hx]; exact k)
theorem yb {x : Operand} {a : Option Addr} {m c : Nat} (hx : zn F x = .slice a m c) (k : Q (upd F d (.slice a m c)) s) : OpW P I ⟨d, .assign x, ty, pos, af, g⟩ F s Q := op_assign (by rw [hx]; exact k)
theorem op_moveM {x : Operand} {r : Option Nat} (hx : zn F x = .map r) (k : Q (upd F d (.map r)) s) : OpW P I ⟨d, .move x, ty, pos, af, g⟩ F s Q := xu (by rw [hx]; exact k)
theorem op_assignM {x : Operand} {r : Option Nat} (hx : zn F x = .map r) (k : Q (upd F d (.map r)) s) : OpW P I ⟨d, .assign x, ty, pos, af, g⟩ F s Q := op_assign (by rw [hx]; exact k)
theorem op_moveF {x : Operand} {fn : Fn} {a b : Array Value} (hx : zn F x = .func fn a b) (k : Q (upd F d (.func fn a b)) s) : OpW P I ⟨d, .move x, ty, pos, af, g⟩ F s Q := xu (by rw [hx]; exact k)
theorem op_assignF {x : Operand} {fn : Fn} {a b : Array Value} (hx : zn F x = .func fn a b) (k : Q (upd F d (.func fn a b)) s) : OpW P I ⟨d, .assign x, ty, pos, af, g⟩ F s Q := op_assign (by rw [hx]; exact k)
theorem yA {x : Operand} {vs : Array Value} (hx : zn F x = .tuple vs) (k : Q (upd F d (.tuple vs)) s) : OpW P I ⟨d, .move x, ty, pos, af, g⟩ F s Q := xu (by rw [hx]; exact k)
theorem op_not {t : TypeId} {x : Operand} {b : Bool} (hx : zn F x = .bool b) (k : Q (upd F d (.bool (!b))) s) : OpW P I ⟨d, .unOp .not t x, ty, pos, af, g⟩ F s Q := zS (by simp only [zr, unM, hx]; rfl) k
theorem op_neg {t : TypeId} {x : Operand} {a : Int} (hx : zn F x = .int .i64 a) (k : Q (upd F d (.int .i64 (IntKind.i64.wrap (0 - a)))) s) : OpW P I ⟨d, .unOp .neg t x, ty, pos, af, g⟩ F s Q :=
 zS (by simp only [zr, unM, hx]; rfl) k
def zQ (n : Int) : Prop := -9223372036854775808 ≤ n ∧ n ≤ 9223372036854775807
theorem in64_of {n : Int} (h : zQ n) : inI64 n = true := by
 obtain ⟨h1, h2⟩ := h
 cases n with
 | ofNat a => simp only [inI64]; exact Nat.ble_eq_true_of_le (by simp only [Int.ofNat_eq_natCast] at h2; omega)
 | negSucc a => simp only [inI64]; exact Nat.ble_eq_true_of_le (by omega)
theorem wrap_in {n : Int} (h : zQ n) : IntKind.i64.wrap n = n := wrap_of_in (in64_of h)
theorem fits_in {n : Int} (h : zQ n) : fits n = some (.int .i64 n) := by simp only [fits, in64_of h]
theorem zT {t : TypeId} {x y : Operand} {yt : TypeId} {a b : Int} (hx : zn F x = .int .i64 a) (hy : zn F y = .int .i64 b) (h : zQ (a + b)) (k : Q (upd F d (.int .i64 (a + b))) s) : OpW P I ⟨d, .binOp .add t x y yt, ty, pos, af, g⟩ F s Q :=
 zS (by simp only [zr, qx, hx, hy, qr, y2, fits_in h]; rfl) k
theorem op_sub {t : TypeId} {x y : Operand} {yt : TypeId} {a b : Int} (hx : zn F x = .int .i64 a) (hy : zn F y = .int .i64 b) (h : zQ (a - b)) (k : Q (upd F d (.int .i64 (a - b))) s) : OpW P I ⟨d, .binOp .sub t x y yt, ty, pos, af, g⟩ F s Q :=
 zS (by simp only [zr, qx, hx, hy, qr, y2, fits_in h]; rfl) k
theorem op_mul {t : TypeId} {x y : Operand} {yt : TypeId} {a b : Int} (hx : zn F x = .int .i64 a) (hy : zn F y = .int .i64 b) (h : zQ (a * b)) (k : Q (upd F d (.int .i64 (a * b))) s) : OpW P I ⟨d, .binOp .mul t x y yt, ty, pos, af, g⟩ F s Q :=
 zS (by simp only [zr, qx, hx, hy, qr, y2, fits_in h]; rfl) k
theorem xk (a b : Int) : ile a b = decide (a ≤ b) := by
 cases a <;> cases b <;> simp only [ile] <;> rw [Bool.eq_iff_iff] <;> simp only [Nat.ble_eq, decide_eq_true_eq] <;> (try simp only [Int.ofNat_eq_natCast]) <;> (try constructor) <;> (try intro) <;> (try omega) <;> simp_all <;> omega
theorem qm (a b : Int) : ieq a b = decide (a = b) := by
 cases a <;> cases b <;> simp only [ieq] <;> rw [Bool.eq_iff_iff] <;> simp only [Nat.beq_eq, decide_eq_true_eq] <;> (try simp only [Int.ofNat_eq_natCast]) <;> (try constructor) <;> (try intro) <;> (try omega) <;> simp_all
theorem yq {t : TypeId} {x y : Operand} {yt : TypeId} {a b : Int} (hx : zn F x = .int .i64 a) (hy : zn F y = .int .i64 b) (k1 : a < b → Q (upd F d (.bool true)) s) (k0 : ¬ (a < b) → Q (upd F d (.bool false)) s) : OpW P I ⟨d, .binOp .lss t x y yt, ty, pos, af, g⟩ F s Q := by
 by_cases h : a < b
 ·refine zS (v := .bool true) (s' := s) ?_ (k1 h)
  have : (!(ile b a)) = true := by simp only [xk, qm, Bool.not_eq_true', decide_eq_true_eq, decide_eq_false_iff_not]; omega
  simp only [zr, qx, hx, hy, qr, y2, this]; rfl
 ·refine zS (v := .bool false) (s' := s) ?_ (k0 h)
  have : (!(ile b a)) = false := by simp only [xk, qm, Bool.not_eq_false', decide_eq_true_eq, decide_eq_false_iff_not]; omega
  simp only [zr, qx, hx, hy, qr, y2, this]; rfl
theorem op_lss' {t : TypeId} {x y : Operand} {yt : TypeId} {a b : Int} (hx : zn F x = .int .i64 a) (hy : zn F y = .int .i64 b) (k : Q (upd F d (.bool (decide (a < b)))) s) : OpW P I ⟨d, .binOp .lss t x y yt, ty, pos, af, g⟩ F s Q := by
 refine yq hx hy (fun h => ?_) (fun h => ?_)
 ·rwa [decide_eq_true h] at k
 ·rwa [decide_eq_false h] at k
theorem op_leq {t : TypeId} {x y : Operand} {yt : TypeId} {a b : Int} (hx : zn F x = .int .i64 a) (hy : zn F y = .int .i64 b) (k1 : a ≤ b → Q (upd F d (.bool true)) s) (k0 : ¬ (a ≤ b) → Q (upd F d (.bool false)) s) : OpW P I ⟨d, .binOp .leq t x y yt, ty, pos, af, g⟩ F s Q := by
 by_cases h : a ≤ b
 ·refine zS (v := .bool true) (s' := s) ?_ (k1 h)
  have : (ile a b) = true := by simp only [xk, qm, Bool.not_eq_true', decide_eq_true_eq, decide_eq_false_iff_not]; omega
  simp only [zr, qx, hx, hy, qr, y2, this]; rfl
 ·refine zS (v := .bool false) (s' := s) ?_ (k0 h)
  have : (ile a b) = false := by simp only [xk, qm, Bool.not_eq_false', decide_eq_true_eq, decide_eq_false_iff_not]; omega
  simp only [zr, qx, hx, hy, qr, y2, this]; rfl
theorem qc {t : TypeId} {x y : Operand} {yt : TypeId} {a b : Int} (hx : zn F x = .int .i64 a) (hy : zn F y = .int .i64 b) (k1 : b < a → Q (upd F d (.bool true)) s) (k0 : ¬ (b < a) → Q (upd F d (.bool false)) s) : OpW P I ⟨d, .binOp .gtr t x y yt, ty, pos, af, g⟩ F s Q := by
 by_cases h : b < a
 ·refine zS (v := .bool true) (s' := s) ?_ (k1 h)
  have : (!(ile a b)) = true := by simp only [xk, qm, Bool.not_eq_true', decide_eq_true_eq, decide_eq_false_iff_not]; omega
  simp only [zr, qx, hx, hy, qr, y2, this]; rfl
 ·refine zS (v := .bool false) (s' := s) ?_ (k0 h)
  have : (!(ile a b)) = false := by simp only [xk, qm, Bool.not_eq_false', decide_eq_true_eq, decide_eq_false_iff_not]; omega
  simp only [zr, qx, hx, hy, qr, y2, this]; rfl
theorem qd {t : TypeId} {x y : Operand} {yt : TypeId} {a b : Int} (hx : zn F x = .int .i64 a) (hy : zn F y = .int .i64 b) (k1 : b ≤ a → Q (upd F d (.bool true)) s) (k0 : ¬ (b ≤ a) → Q (upd F d (.bool false)) s) : OpW P I ⟨d, .binOp .geq t x y yt, ty, pos, af, g⟩ F s Q := by
 by_cases h : b ≤ a
 ·refine zS (v := .bool true) (s' := s) ?_ (k1 h)
  have : (ile b a) = true := by simp only [xk, qm, Bool.not_eq_true', decide_eq_true_eq, decide_eq_false_iff_not]; omega
  simp only [zr, qx, hx, hy, qr, y2, this]; rfl
 ·refine zS (v := .bool false) (s' := s) ?_ (k0 h)
  have : (ile b a) = false := by simp only [xk, qm, Bool.not_eq_false', decide_eq_true_eq, decide_eq_false_iff_not]; omega
  simp only [zr, qx, hx, hy, qr, y2, this]; rfl
theorem op_geq' {t : TypeId} {x y : Operand} {yt : TypeId} {a b : Int} (hx : zn F x = .int .i64 a) (hy : zn F y = .int .i64 b) (k : Q (upd F d (.bool (decide (b ≤ a)))) s) : OpW P I ⟨d, .binOp .geq t x y yt, ty, pos, af, g⟩ F s Q := by
 refine qd hx hy (fun h => ?_) (fun h => ?_)
 ·rwa [decide_eq_true h] at k
 ·rwa [decide_eq_false h] at k
theorem xf {t : TypeId} {x y : Operand} {yt : TypeId} {a b : Int} (hx : zn F x = .int .i64 a) (hy : zn F y = .int .i64 b) (k1 : a = b → Q (upd F d (.bool true)) s) (k0 : ¬ (a = b) → Q (upd F d (.bool false)) s) : OpW P I ⟨d, .binOp .eql t x y yt, ty, pos, af, g⟩ F s Q := by
 by_cases h : a = b
 ·refine zS (v := .bool true) (s' := s) ?_ (k1 h)
  have : (ieq a b) = true := by simp only [xk, qm, Bool.not_eq_true', decide_eq_true_eq, decide_eq_false_iff_not]; omega
  simp only [zr, qx, hx, hy, qr, y2, this]; rfl
 ·refine zS (v := .bool false) (s' := s) ?_ (k0 h)
  have : (ieq a b) = false := by simp only [xk, qm, Bool.not_eq_false', decide_eq_true_eq, decide_eq_false_iff_not]; omega
  simp only [zr, qx, hx, hy, qr, y2, this]; rfl
theorem op_eql' {t : TypeId} {x y : Operand} {yt : TypeId} {a b : Int} (hx : zn F x = .int .i64 a) (hy : zn F y = .int .i64 b) (k : Q (upd F d (.bool (decide (a = b)))) s) : OpW P I ⟨d, .binOp .eql t x y yt, ty, pos, af, g⟩ F s Q := by
 refine xf hx hy (fun h => ?_) (fun h => ?_)
 ·rwa [decide_eq_true h] at k
 ·rwa [decide_eq_false h] at k
theorem op_neq {t : TypeId} {x y : Operand} {yt : TypeId} {a b : Int} (hx : zn F x = .int .i64 a) (hy : zn F y = .int .i64 b) (k1 : a ≠ b → Q (upd F d (.bool true)) s) (k0 : ¬ (a ≠ b) → Q (upd F d (.bool false)) s) : OpW P I ⟨d, .binOp .neq t x y yt, ty, pos, af, g⟩ F s Q := by
 by_cases h : a ≠ b
 ·refine zS (v := .bool true) (s' := s) ?_ (k1 h)
  have : (!(ieq a b)) = true := by simp only [xk, qm, Bool.not_eq_true', decide_eq_true_eq, decide_eq_false_iff_not]; omega
  simp only [zr, qx, hx, hy, qr, y2, this]; rfl
 ·refine zS (v := .bool false) (s' := s) ?_ (k0 h)
  have : (!(ieq a b)) = false := by simp only [xk, qm, Bool.not_eq_false', decide_eq_true_eq, decide_eq_false_iff_not]; omega
  simp only [zr, qx, hx, hy, qr, y2, this]; rfl
theorem op_neqb {t : TypeId} {x y : Operand} {yt : TypeId} {a b : Bool} (hu : P.underlying t = some .bool) (hx : zn F x = .bool a) (hy : zn F y = .bool b) (k : Q (upd F d (.bool (!(a == b)))) s) : OpW P I ⟨d, .binOp .neq t x y yt, ty, pos, af, g⟩ F s Q :=
 zS (by simp only [zr, qx, hx, hy, eqM, hu, eqV]; rfl) k
theorem op_rem {t : TypeId} {x y : Operand} {yt : TypeId} {a b : Int} (hx : zn F x = .int .i64 a) (hy : zn F y = .int .i64 b) (h : b ≠ 0) (k : Q (upd F d (.int .i64 (a.tmod b))) s) : OpW P I ⟨d, .binOp .rem t x y yt, ty, pos, af, g⟩ F s Q := by
 refine zS (v := .int .i64 (a.tmod b)) (s' := s) ?_ k
 simp only [zr, qx, hx, hy, qr, y2, Go.binOp, Op.intDiv, if_neg h]
 rfl
theorem op_quo {t : TypeId} {x y : Operand} {yt : TypeId} {a b : Int} (hx : zn F x = .int .i64 a) (hy : zn F y = .int .i64 b) (h : b ≠ 0) (h2 : zQ (a.tdiv b)) (k : Q (upd F d (.int .i64 (a.tdiv b))) s) : OpW P I ⟨d, .binOp .quo t x y yt, ty, pos, af, g⟩ F s Q := by
 refine zS (v := .int .i64 (a.tdiv b)) (s' := s) ?_ k
 simp only [zr, qx, hx, hy, qr, y2, Go.binOp, Op.intDiv, if_neg h, wrap_in h2]
 rfl
theorem op_shl {t : TypeId} {x y : Operand} {yt : TypeId} {a b : Int} (hx : zn F x = .int .i64 a) (hy : zn F y = .int .i64 b) (h : 0 ≤ b) (h1 : b ≤ 64) (h2 : zQ (a * 2 ^ b.toNat)) (k : Q (upd F d (.int .i64 (a * 2 ^ b.toNat))) s) : OpW P I ⟨d, .binOp .shl t x y yt, ty, pos, af, g⟩ F s Q := by
 refine zS (v := .int .i64 (a * 2 ^ b.toNat)) (s' := s) ?_ k
 have hm : min b.toNat 64 = b.toNat := by omega
 simp only [zr, qx, hx, hy, qr, y2, Go.binOp, Op.shift, if_neg (show ¬ b < 0 by omega), show IntKind.i64.bits = 64 from rfl, hm, wrap_in h2]
 rfl
theorem op_shr {t : TypeId} {x y : Operand} {yt : TypeId} {a b : Int} (hx : zn F x = .int .i64 a) (hy : zn F y = .int .i64 b) (h : 0 ≤ b) (k : Q (upd F d (.int .i64 (a.fdiv (2 ^ min b.toNat 64)))) s) : OpW P I ⟨d, .binOp .shr t x y yt, ty, pos, af, g⟩ F s Q := by
 refine zS (v := .int .i64 (a.fdiv (2 ^ min b.toNat 64))) (s' := s) ?_ k
 simp only [zr, qx, hx, hy, qr, y2, Go.binOp, Op.shift, if_neg (show ¬ b < 0 by omega), show IntKind.i64.bits = 64 from rfl]
 rfl
def bitsI (f : BitVec 64 → BitVec 64 → BitVec 64) (a b : Int) : Int := IntKind.i64.wrap ((f (BitVec.ofInt 64 a) (BitVec.ofInt 64 b)).toNat : Int)
def andI (a b : Int) : Int := bitsI (fun x y => x &&& y) a b
def zB (a b : Int) : Int := bitsI (fun x y => x &&& ~~~ y) a b
theorem op_and {t : TypeId} {x y : Operand} {yt : TypeId} {a b : Int} (hx : zn F x = .int .i64 a) (hy : zn F y = .int .i64 b) (k : Q (upd F d (.int .i64 (andI a b))) s) : OpW P I ⟨d, .binOp .and t x y yt, ty, pos, af, g⟩ F s Q := by
 refine zS (v := .int .i64 (andI a b)) (s' := s) ?_ k
 simp only [zr, qx, hx, hy, qr, y2, Go.binOp, Op.intBits]
 rfl
theorem op_andNot {t : TypeId} {x y : Operand} {yt : TypeId} {a b : Int} (hx : zn F x = .int .i64 a) (hy : zn F y = .int .i64 b) (k : Q (upd F d (.int .i64 (zB a b))) s) : OpW P I ⟨d, .binOp .andNot t x y yt, ty, pos, af, g⟩ F s Q := by
 refine zS (v := .int .i64 (zB a b)) (s' := s) ?_ k
 simp only [zr, qx, hx, hy, qr, y2, Go.binOp, Op.intBits]
 rfl
theorem zj {t : TypeId} {x : Operand} {b off : Nat} {c : List Value} {e : TypeId} {v : Value} (hs : z1 P t = some none) (hx : zn F x = .pointer (some ⟨b, off, none⟩)) (hg : s.get b = some (.cells c e)) (hc : yo c off = some v)
  (k : Q (upd F d v) s) : OpW P I ⟨d, .load t x, ty, pos, af, g⟩ F s Q :=
 zS (by simp only [zr, loadM, loadV, hx, hg, hs, cutL, hc]; rfl) k
theorem z8 {t : TypeId} {x : Operand} {b off n : Nat} {c : List Value} {e : TypeId} {l : List Value} (hs : z1 P t = some (some n)) (hx : zn F x = .pointer (some ⟨b, off, none⟩)) (hg : s.get b = some (.cells c e)) (hc : xd n (xy off c) = some l)
  (k : Q (upd F d (.agg ⟨l⟩)) s) : OpW P I ⟨d, .load t x, ty, pos, af, g⟩ F s Q :=
 zS (by simp only [zr, loadM, loadV, hx, hg, hs, cutL, hc]; rfl) k
theorem zf {t : TypeId} {x : Operand} {f b off n : Nat} (hf : offF P t f = some n) (hx : zn F x = .pointer (some ⟨b, off, none⟩)) (k : Q (upd F d (.pointer (some ⟨b, off + n, none⟩))) s) : OpW P I ⟨d, .fieldAddr t x f, ty, pos, af, g⟩ F s Q :=
 zS (by simp only [zr, fieldM, hx, hf]; rfl) k
theorem zM {t : TypeId} {x i : Operand} {b off len cap z sz : Nat} {kd : IntKind} {a : Int} (he : elemF P t = some (true, z, sz)) (hx : zn F x = .slice (some ⟨b, off, none⟩) len cap) (hi : zn F i = .int kd a) (h0 : 0 ≤ a) (h1 : a < len)
  (k : Q (upd F d (.pointer (some ⟨b, off + a.toNat * sz, none⟩))) s) : OpW P I ⟨d, .indexAddr t x i, ty, pos, af, g⟩ F s Q := by
 obtain ⟨n, rfl⟩ := Int.eq_ofNat_of_zero_le h0
 have hb : Nat.blt n len = true := blt_true (by omega)
 refine zS (v := .pointer (some ⟨b, off + n * sz, none⟩)) (s' := s) ?_ k
 simp only [zr, indexM, hi, he, hx]
 show xA n len b off sz s = _
 simp only [xA, hb]
 rfl
theorem qu {t : TypeId} {x i : Operand} {b off len sz : Nat} {kd : IntKind} {a : Int} (he : elemF P t = some (false, len, sz)) (hx : zn F x = .pointer (some ⟨b, off, none⟩)) (hi : zn F i = .int kd a) (h0 : 0 ≤ a) (h1 : a < len)
  (k : Q (upd F d (.pointer (some ⟨b, off + a.toNat * sz, none⟩))) s) : OpW P I ⟨d, .indexAddr t x i, ty, pos, af, g⟩ F s Q := by
 obtain ⟨n, rfl⟩ := Int.eq_ofNat_of_zero_le h0
 have hb : Nat.blt n len = true := blt_true (by omega)
 refine zS (v := .pointer (some ⟨b, off + n * sz, none⟩)) (s' := s) ?_ k
 simp only [zr, indexM, hi, he, hx]
 show xA n len b off sz s = _
 simp only [xA, hb]
 rfl
theorem zH {x : Operand} {i : Nat} {vs : Array Value} {v : Value} (hx : zn F x = .tuple vs) (hv : yo vs.toList i = some v) (k : Q (upd F d v) s) : OpW P I ⟨d, .extract x i, ty, pos, af, g⟩ F s Q :=
 zS (by simp only [zr, extractM, hx, hv]; rfl) k
theorem op_makeFunc {fn : Fn} {a b : Array Operand} (k : Q (upd F d (.func fn ⟨xx (zn F) a.toList⟩ ⟨xx (zn F) b.toList⟩)) s) (hk : keysF fn = false := by rfl) : OpW P I ⟨d, .makeFunc fn a b, ty, pos, af, g⟩ F s Q := zS (by simp only [zr, hk]; rfl) k
theorem yf {as : Array Operand} {ts : Array TypeId} {t e : TypeId} {tr : List TypeId} {x : Operand} {a : Option Addr} {n c : Nat} (hu : P.underlying t = some (.slice e)) (ht : ts.toList = t :: tr) (ha : as.toList = [x]) (hx : zn F x = .slice a n c)
  (k : Q (upd F d (.int .i64 (n : Int))) s) : OpW P I ⟨d, .call ⟨.builtin .len, as, ts⟩, ty, pos, af, g⟩ F s Q :=
 zS (v := .int .i64 (n : Int)) (s' := s) (by simp only [zr, xn, lenM, ht, ha, xx, hu, hx]; rfl) k
theorem op_min {as : Array Operand} {ts : Array TypeId} {x y : Operand} {a b : Int} (ha : as.toList = [x, y]) (hx : zn F x = .int .i64 a) (hy : zn F y = .int .i64 b)
  (k : Q (upd F d (.int .i64 (min a b))) s) : OpW P I ⟨d, .call ⟨.builtin .min, as, ts⟩, ty, pos, af, g⟩ F s Q := by
 refine zS (v := .int .i64 (min a b)) (s' := s) ?_ k
 simp only [zr, xn, ha, xx, hx, hy, minM, xk]
 by_cases h : a ≤ b
 ·simp only [h, decide_true, Int.min_eq_left h]; rfl
 ·simp only [h, decide_false, show min a b = b by omega]; rfl
theorem op_max {as : Array Operand} {ts : Array TypeId} {x y : Operand} {a b : Int} (ha : as.toList = [x, y]) (hx : zn F x = .int .i64 a) (hy : zn F y = .int .i64 b)
  (k : Q (upd F d (.int .i64 (max a b))) s) : OpW P I ⟨d, .call ⟨.builtin .max, as, ts⟩, ty, pos, af, g⟩ F s Q := by
 refine zS (v := .int .i64 (max a b)) (s' := s) ?_ k
 simp only [zr, xn, ha, xx, hx, hy, maxM, xk]
 by_cases h : b ≤ a
 ·simp only [h, decide_true, Int.max_eq_left h]; rfl
 ·simp only [h, decide_false, show max a b = b by omega]; rfl
theorem zo {as : Array Operand} {ts : Array TypeId} {f : Operand} {n : FuncId} {a b : Array Value} {args : Array Value} (hf : zn F f = .func (.func n) a b) (hb : yk P n = true) (ha : (⟨a.toList ++ xx (zn F) as.toList ++ b.toList⟩ : Array Value) = args)
  (h : ∃ v s', yE P I n args s v s' ∧ Q (upd F d v) s') : OpW P I ⟨d, .call ⟨.value f, as, ts⟩, ty, pos, af, g⟩ F s Q :=
 op_enter (f := n) (args := args) (s₁ := s) (by simp only [zr, callV, hf, hb, ← ha]) h
variable {W : List Nat} {s0 : St} {L : Hp'} {n : Nat}
def xQ (P : Program) (t : TypeId) : Option (List Value) :=
 match zeroB P t, P.info? t with
 | true, some i => match i.zero with
  | some z => some (yv z)
  | none => none
 | _, _ => none
theorem zC {e : TypeId} {c : List Value} (H : HL W s0 s L n) (hz : xQ P e = some c) (hr : s0.next + n < zh)
  (k : ∀ b s', HL W s0 s' ((b, .cells c e) :: L) (n + 1) → Q (upd F d (.pointer (some ⟨b, 0, none⟩))) s') : OpW P I ⟨d, .alloc e, ty, pos, af, g⟩ F s Q := by
 refine zS (v := .pointer (some ⟨s.next, 0, none⟩)) (s' := s.new (.cells c e)) ?_ (k _ _ (H.new _ hr))
 have hroom := H.room hr
 simp only [xQ] at hz
 split at hz
 ·next i hb hi =>
  split at hz
  ·next z hz2 =>
   cases hz
   simp only [zr, hb, guarded, allocM, hi, hz2, boxM, hroom]
   rfl
  ·cases hz
 ·cases hz
theorem op_box {e : TypeId} {x : Operand} {c : List Value} (H : HL W s0 s L n) (hc : yv (zn F x) = c) (hr : s0.next + n < zh)
  (k : ∀ b s', HL W s0 s' ((b, .cells c e) :: L) (n + 1) → Q (upd F d (.pointer (some ⟨b, 0, none⟩))) s') : OpW P I ⟨d, .box e x, ty, pos, af, g⟩ F s Q := by
 refine zS (v := .pointer (some ⟨s.next, 0, none⟩)) (s' := s.new (.cells c e)) ?_ (k _ _ (H.new _ hr))
 have hroom := H.room hr
 simp only [zr, boxM, hroom, hc]
 rfl
theorem xc {e : TypeId} {x : Operand} {l : List Value} (H : HL W s0 s L n) (hx : zn F x = .agg ⟨l⟩) (hr : s0.next + n < zh)
  (k : ∀ b s', HL W s0 s' ((b, .cells l e) :: L) (n + 1) → Q (upd F d (.pointer (some ⟨b, 0, none⟩))) s') : OpW P I ⟨d, .box e x, ty, pos, af, g⟩ F s Q := op_box H (by rw [hx]; rfl) hr k
theorem op_boxI {e : TypeId} {x : Operand} {kd : IntKind} {a : Int} (H : HL W s0 s L n) (hx : zn F x = .int kd a) (hr : s0.next + n < zh)
  (k : ∀ bl s', HL W s0 s' ((bl, .cells [.int kd a] e) :: L) (n + 1) → Q (upd F d (.pointer (some ⟨bl, 0, none⟩))) s') : OpW P I ⟨d, .box e x, ty, pos, af, g⟩ F s Q := op_box H (by rw [hx]; rfl) hr k
theorem op_boxS {e : TypeId} {x : Operand} {a : Option Addr} {m c : Nat} (H : HL W s0 s L n) (hx : zn F x = .slice a m c) (hr : s0.next + n < zh)
  (k : ∀ bl s', HL W s0 s' ((bl, .cells [.slice a m c] e) :: L) (n + 1) → Q (upd F d (.pointer (some ⟨bl, 0, none⟩))) s') : OpW P I ⟨d, .box e x, ty, pos, af, g⟩ F s Q := op_box H (by rw [hx]; rfl) hr k
def yR (P : Program) (t : TypeId) : Option Nat := (P.info? t).map (·.size)
theorem xt {t : TypeId} {x v : Operand} {b off sz : Nat} {c c' : List Value} {e : TypeId} {vs : List Value} (hs : yR P t = some sz) (hx : zn F x = .pointer (some ⟨b, off, none⟩)) (hv : yv (zn F v) = vs)
  (hl : Nat.beq (yY vs 0) sz = true) (hp : vs.all plainCell = true) (hg : s.get b = some (.cells c e)) (hm : s.may b = true) (hc : lput off vs c = some c') : zr P (zn F) (.store t x v) s = .ok .skip (s.put b (some (.cells c' e))) := by
 simp only [yR] at hs
 cases hi : P.info? t with
 | none => rw [hi] at hs; cases hs
 | some i =>
  rw [hi] at hs
  simp only [Option.map_some, Option.some.injEq] at hs
  simp only [zr, storeM, hx, hi, hv, hs, hl, xF, hg, hp, hm, Bool.and_self, hc]
theorem zD {t : TypeId} {x v : Operand} {b off sz : Nat} {c c' : List Value} {e : TypeId} {vs : List Value} (H : HL W s0 s ((b, .cells c e) :: L) n) (hs : yR P t = some sz) (hx : zn F x = .pointer (some ⟨b, off, none⟩)) (hv : yv (zn F v) = vs)
  (hl : Nat.beq (yY vs 0) sz = true) (hp : vs.all plainCell = true) (hc : lput off vs c = some c') (hr : s0.next + n ≤ zh) (k : ∀ s', HL W s0 s' ((b, .cells c' e) :: L) n → Q (upd F d undef) s') : OpW P I ⟨d, .store t x v, ty, pos, af, g⟩ F s Q :=
 qk (xt hs hx hv hl hp H.own0 (H.own (b, .cells c e) (by simp)).2.2.1 hc) (k _ (H.put0 _ hr))
theorem x6 {p0 : Nat × MObj} {t : TypeId} {x v : Operand} {b off sz : Nat} {c c' : List Value} {e : TypeId} {vs : List Value} (H : HL W s0 s (p0 :: (b, .cells c e) :: L) n) (hs : yR P t = some sz) (hx : zn F x = .pointer (some ⟨b, off, none⟩)) (hv : yv (zn F v) = vs)
  (hl : Nat.beq (yY vs 0) sz = true) (hp : vs.all plainCell = true) (hc : lput off vs c = some c') (hr : s0.next + n ≤ zh) (k : ∀ s', HL W s0 s' (p0 :: (b, .cells c' e) :: L) n → Q (upd F d undef) s') : OpW P I ⟨d, .store t x v, ty, pos, af, g⟩ F s Q :=
 qk (xt hs hx hv hl hp H.own1 (H.own (b, .cells c e) (by simp)).2.2.1 hc) (k _ (H.put1 _ hr))
theorem op_store2 {p0 p1 : Nat × MObj} {t : TypeId} {x v : Operand} {b off sz : Nat} {c c' : List Value} {e : TypeId} {vs : List Value} (H : HL W s0 s (p0 :: p1 :: (b, .cells c e) :: L) n) (hs : yR P t = some sz) (hx : zn F x = .pointer (some ⟨b, off, none⟩)) (hv : yv (zn F v) = vs)
  (hl : Nat.beq (yY vs 0) sz = true) (hp : vs.all plainCell = true) (hc : lput off vs c = some c') (hr : s0.next + n ≤ zh) (k : ∀ s', HL W s0 s' (p0 :: p1 :: (b, .cells c' e) :: L) n → Q (upd F d undef) s') : OpW P I ⟨d, .store t x v, ty, pos, af, g⟩ F s Q :=
 qk (xt hs hx hv hl hp H.own2 (H.own (b, .cells c e) (by simp)).2.2.1 hc) (k _ (H.put2 _ hr))
theorem op_store3 {p0 p1 p2 : Nat × MObj} {t : TypeId} {x v : Operand} {b off sz : Nat} {c c' : List Value} {e : TypeId} {vs : List Value} (H : HL W s0 s (p0 :: p1 :: p2 :: (b, .cells c e) :: L) n) (hs : yR P t = some sz) (hx : zn F x = .pointer (some ⟨b, off, none⟩)) (hv : yv (zn F v) = vs)
  (hl : Nat.beq (yY vs 0) sz = true) (hp : vs.all plainCell = true) (hc : lput off vs c = some c') (hr : s0.next + n ≤ zh) (k : ∀ s', HL W s0 s' (p0 :: p1 :: p2 :: (b, .cells c' e) :: L) n → Q (upd F d undef) s') : OpW P I ⟨d, .store t x v, ty, pos, af, g⟩ F s Q :=
 qk (xt hs hx hv hl hp H.own3 (H.own (b, .cells c e) (by simp)).2.2.1 hc) (k _ (H.put3 _ hr))
theorem op_store4 {p0 p1 p2 p3 : Nat × MObj} {t : TypeId} {x v : Operand} {b off sz : Nat} {c c' : List Value} {e : TypeId} {vs : List Value} (H : HL W s0 s (p0 :: p1 :: p2 :: p3 :: (b, .cells c e) :: L) n) (hs : yR P t = some sz) (hx : zn F x = .pointer (some ⟨b, off, none⟩)) (hv : yv (zn F v) = vs)
  (hl : Nat.beq (yY vs 0) sz = true) (hp : vs.all plainCell = true) (hc : lput off vs c = some c') (hr : s0.next + n ≤ zh) (k : ∀ s', HL W s0 s' (p0 :: p1 :: p2 :: p3 :: (b, .cells c' e) :: L) n → Q (upd F d undef) s') : OpW P I ⟨d, .store t x v, ty, pos, af, g⟩ F s Q :=
 qk (xt hs hx hv hl hp H.own4 (H.own (b, .cells c e) (by simp)).2.2.1 hc) (k _ (H.put4 _ hr))
theorem op_store5 {p0 p1 p2 p3 p4 : Nat × MObj} {t : TypeId} {x v : Operand} {b off sz : Nat} {c c' : List Value} {e : TypeId} {vs : List Value} (H : HL W s0 s (p0 :: p1 :: p2 :: p3 :: p4 :: (b, .cells c e) :: L) n) (hs : yR P t = some sz) (hx : zn F x = .pointer (some ⟨b, off, none⟩)) (hv : yv (zn F v) = vs)
  (hl : Nat.beq (yY vs 0) sz = true) (hp : vs.all plainCell = true) (hc : lput off vs c = some c') (hr : s0.next + n ≤ zh) (k : ∀ s', HL W s0 s' (p0 :: p1 :: p2 :: p3 :: p4 :: (b, .cells c' e) :: L) n → Q (upd F d undef) s') : OpW P I ⟨d, .store t x v, ty, pos, af, g⟩ F s Q :=
 qk (xt hs hx hv hl hp H.own5 (H.own (b, .cells c e) (by simp)).2.2.1 hc) (k _ (H.put5 _ hr))
end
end Go.M
