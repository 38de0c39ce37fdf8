/- Blocks of the model that this machine has no live block for; blocks that are let go. -/
/- Slots that code does not read do not matter. -/
/- undo.Least: one round of the loop over the map, on this machine. -/
/- slices.Sort at sets, as a function of this machine. -/
/- slices.Sort at sets, as a function of this machine: it stands for the program's. -/
import Derived.Test.YtdejleegamcioaaGreatP08
import Derived.Test.YtdejleegamcioaaGreatP10
import Derived.Test.YtdejleegamcioaaGreatP20
namespace Go.M
variable {P : Program} {β β₁ : Ren} {s s₁ : St} {w w₁ : World}
theorem Ext.unseen (h : Rel P β s w) (hroom : s.next < 281474976710655) (hn : β s.next = none) {o' : Obj} {m : Img} (hm : m.blk = w.heap.size) :
    Ext P β s w (β.add s.next m) { s with next := s.next + 1 } { w with heap := w.heap.push o' } := by
  have hle : β.le (β.add s.next m) := Ren.le_add hn
  have at_ : ∀ b m', β.add s.next m b = some m' → b ≠ s.next → β b = some m' := fun b m' hh ne => by
    simpa [Ren.add, ne] using hh
  have htop : s.get s.next = none := h.top _ (Nat.le_refl _)
  have live : ∀ b o, s.get b = some o → b ≠ s.next := fun b o hb e => by rw [e, htop] at hb; cases hb
  exact {
    rel := {
      img := fun b m' hb hlt => by
        simp only [Array.size_push]
        by_cases e : b = s.next
        · subst e; rw [Ren.add_self] at hb; cases hb; omega
        · have := h.img b m' (at_ b m' hb e) (by simp at hlt; omega); omega
      obj := fun b m' o hb hlt hg => by
        have e := live b o hg
        have hb' := at_ b m' hb e
        have hlt' : b < s.next := by simp at hlt; omega
        obtain ⟨o'', h1, h2⟩ := h.obj b m' o hb' hlt' hg
        have := h.img b m' hb' hlt'
        exact ⟨o'', by simp only [Array.getElem?_push]; rw [if_neg (by omega)]; exact h1, h2.mono hle⟩
      inj := fun b1 b2 m1 m2 o1 o2 h1 h2 l1 l2 g1 g2 e => by
        have e1 := live b1 o1 g1
        have e2 := live b2 o2 g2
        exact h.inj b1 b2 m1 m2 o1 o2 (at_ _ _ h1 e1) (at_ _ _ h2 e2) (by simp at l1; omega) (by simp at l2; omega) g1 g2 e
      room := by simp; omega
      top := fun b hb => by simp at hb; exact h.top b (by omega) }
    le := hle
    dom := fun b m' h1 h2 => by
      by_cases e : b = s.next
      · subst e; simp
      · rw [at_ b m' h1 e] at h2; cases h2
    next := by simp
    bar := rfl
    prot := rfl
    size := by simp
    out := fun r hr _ => by simp only [Array.getElem?_push]; rw [if_neg (by omega)]
    same := fun b hb _ => rfl
    dead := fun b hb hd => hd
    fresh := fun b m' h1 h2 => by
      by_cases e : b = s.next
      · subst e; rw [Ren.add_self] at h1; cases h1; exact .inl (by omega)
      · rw [at_ b m' h1 e] at h2; cases h2
    os := rfl
    output := rfl
    tape := rfl }
theorem Ext.touch (h : Ext P β₁ s₁ w₁ β s w) {it : Nat} (hit : w₁.heap.size ≤ it) (hno : ∀ b m o, β b = some m → b < s.next → s.get b = some o → m.blk ≠ it) {w' : World}
    (hsize : w'.heap.size = w.heap.size) (hsame : ∀ r, r ≠ it → w'.heap[r]? = w.heap[r]?) (hos : w'.os = w.os) (hout : w'.output = w.output) (htape : w'.tape = w.tape) :
    Ext P β₁ s₁ w₁ β s w' :=
  { rel := {
      img := fun b m hb hlt => by rw [hsize]; exact h.rel.img b m hb hlt
      obj := fun b m o hb hlt hg => by
        obtain ⟨o', h1, h2⟩ := h.rel.obj b m o hb hlt hg
        exact ⟨o', by rw [hsame _ (hno b m o hb hlt hg)]; exact h1, h2⟩
      inj := h.rel.inj
      room := h.rel.room
      top := h.rel.top }
    le := h.le
    dom := h.dom
    next := h.next
    bar := h.bar
    prot := h.prot
    size := by rw [hsize]; exact h.size
    out := fun r hr hn => by rw [hsame r (by omega)]; exact h.out r hr hn
    same := h.same
    dead := h.dead
    fresh := h.fresh
    os := hos.trans h.os
    output := hout.trans h.output
    tape := htape.trans h.tape }
theorem Ext.forget (h : Ext P β₁ s₁ w₁ β s w) {s₂ : St} (hn : s₂.next = s.next) (hb : s₂.bar = s.bar) (hp : s₂.prot = s.prot) (hg : ∀ b, s₂.get b = s.get b ∨ (s₂.get b = none ∧ s₁.next ≤ b)) :
    Ext P β₁ s₁ w₁ β s₂ w := by
  have live : ∀ b o, s₂.get b = some o → s.get b = some o := fun b o hh => by
    rcases hg b with e | ⟨e, _⟩
    · rw [← e]; exact hh
    · rw [e] at hh; cases hh
  have old : ∀ b, b < s₁.next → s₂.get b = s.get b := fun b hlt => by
    rcases hg b with e | ⟨_, e⟩
    · exact e
    · omega
  exact {
    rel := {
      img := fun b m hb hlt => h.rel.img b m hb (by omega)
      obj := fun b m o hb hlt hg => h.rel.obj b m o hb (by omega) (live b o hg)
      inj := fun b1 b2 m1 m2 o1 o2 h1 h2 l1 l2 g1 g2 e => h.rel.inj b1 b2 m1 m2 o1 o2 h1 h2 (by omega) (by omega) (live _ _ g1) (live _ _ g2) e
      room := by rw [hn]; exact h.rel.room
      top := fun b hb => by
        have := h.rel.top b (by omega)
        rcases hg b with e | ⟨e, _⟩
        · rw [e]; exact this
        · exact e }
    le := h.le
    dom := fun b m h1 h2 => by rw [hn]; exact h.dom b m h1 h2
    next := by rw [hn]; exact h.next
    bar := by rw [hb]; exact h.bar
    prot := by rw [hp]; exact h.prot
    size := h.size
    out := h.out
    same := fun b hlt hm => by rw [old b hlt]; exact h.same b hlt hm
    dead := fun b hlt hd => by rw [old b hlt]; exact h.dead b hlt hd
    fresh := h.fresh
    os := h.os
    output := h.output
    tape := h.tape }
end Go.M
namespace Go.M
section
variable (Z : Nat → Bool)
def EqOff (F F' : FF) : Prop := ∀ t, Z t = false → F t = F' t
def okZ : Operand → Bool
 | .tmp t => !Z t
 | _ => true
def guardZ0 (ops : List Oper) (o : Oper) : Bool :=
 match o.guard with
 | none => true
 | some (j, _) => match yo ops j with
  | some q => match q.dst with
   | some d => !Z d
   | none => true
  | none => true
def allocZ (o : Oper) : Bool :=
 match o.op with
 | .alloc _ => match o.dst with
  | some t => !Z t
  | none => true
 | _ => true
def guardZ (ops : List Oper) (o : Oper) : Bool := guardZ0 Z ops o && allocZ Z o
def opsZ (ops : List Oper) : Bool := ops.all fun o => o.op.operands.toList.all (okZ Z) && guardZ Z ops o
def codeZ : Code → Bool
 | .region _ ops _ => opsZ Z ops.toList
 | .seq a b => codeZ a && codeZ b
 | .cond c a b => okZ Z c && codeZ a && codeZ b
 | .block _ b => codeZ b
 | .loop b => codeZ b
 | _ => true
variable {Z} {P : Program} {call : FuncId → Array Value → St → CallOut}
end
end Go.M
namespace Go.Proofs.YtdejleegamcioaaGreat
open Go Go.M
def opsOf : Code → Array Oper
 | .region _ o _ => o
 | _ => #[]
def fstS : Code → Code
 | .seq x _ => x
 | c => c
def sndS : Code → Code
 | .seq _ y => y
 | c => c
def inB : Code → Code
 | .block _ b => b
 | .loop b => b
 | c => c
noncomputable def segLoop : Code := inB (inB (sndS (fstS (dropS 8 y4))))
noncomputable def segRound : Code := inB (sndS (sndS segLoop))
noncomputable def r11 : Array Oper := opsOf (fstS (fstS (dropS 8 y4)))
noncomputable def r12 : Array Oper := opsOf (fstS segLoop)
noncomputable def r13 : Array Oper := opsOf (fstS segRound)
noncomputable def r14 : Array Oper := opsOf (sndS segRound)
noncomputable def r15 : Array Oper := opsOf (fstS (dropS 9 y4))
theorem seg_shape : dropS 8 y4 = .seq (.seq (.region 11 r11 false) (.block 0 (.loop (.seq (.region 12 r12 false) (.seq (.cond (.tmp 42) .skip (.exit 0)) (.block 1 (.seq (.region 13 r13 false) (.region 14 r14 false)))))))) (.seq (.region 15 r15 false) leastTail) := by kernel_rfl
def Z14 (t : Nat) : Bool := Nat.ble 45 t && Nat.ble t 50
def Zs (t : Nat) : Bool := Nat.beq t 17 || (Nat.ble 39 t && Nat.ble t 53)
theorem _root_.Go.M.EqOff.over {Z : Nat → Bool} {F F' : FF} (h : EqOff Z F F') {d : Nat} (hd : Z d = true) (v : Value) : EqOff Z F (upd F' (some d) v) := fun t ht => by
 rw [h t ht, upd_eq, if_neg (fun e => by rw [e, hd] at ht; cases ht)]
def slK (n : Nat) : Nat → Value
 | 0 => .slice none 0 0
 | k + 1 => .slice (some ⟨n + 2 * (k + 1), 0, none⟩) (k + 1) (2 * (k + 1) + 1)
structure Mid (s1 : St) (b16 : Nat) (v2 : Value) (ks : List Int) (s : St) : Prop where
 next : s.next = s1.next + 1 + 2 * ks.length
 bar : s.bar = s1.bar
 prot : s.prot = s1.prot
 sl : s.get b16 = some (.cells [slK s1.next ks.length, v2] 36)
 last : 0 < ks.length → s.get (s1.next + 2 * ks.length) = some (.cells (z7 ks) 23)
 old : ∀ b, b < s1.next → b ≠ b16 → s.get b = s1.get b
theorem may_young {s : St} (hf : Fine s) {b : Nat} (hb : s.next ≤ b) : s.may b = true := by
 unfold St.may
 rw [Bool.and_eq_true]
 refine ⟨Nat.ble_eq_true_of_le (Nat.le_trans hf.wfb hb), ?_⟩
 rw [Bool.not_eq_true', List.any_eq_false]
 intro p hp e
 have := hf.wfp p hp
 have := Nat.eq_of_beq_eq_true e
 omega
theorem app_nil {s : St} {b : Nat} {x : Int} (hg : s.get b = some (.cells [.int .i64 x] 23)) (hr : s.room = true) :
  xN Tryz.prog [31, 31] [.slice none 0 0, .slice (some ⟨b, 0, none⟩) 1 2] s = .ok (.value (.slice (some ⟨s.next, 0, none⟩) 1 3)) (s.new (.cells [.int .i64 x] 23)) := by
 obtain ⟨hu, inf, z', hi, hsz, hby, hz, hz1, hz2⟩ := xp sl31
 have he : Elems s inf.size (.slice (some ⟨b, 0, none⟩) 1 2) 1 [.int .i64 x] := by rw [hsz]; exact yH hg rfl
 have hgrow : growB inf (0 + 1) 1 [.int .i64 x] = true := growB_ok (t := 31) (e := 23) hz1 hz2 (by rw [hby]; decide) rfl (by rw [hsz]; rfl)
 have hf : Nat.ble (0 + 1) (0 / 2) = false := rfl
 have hnew := newL_ok hu he
 rw [hu] at hnew
 simp only [xN, hu, hi, hnew, appendS, hf, hgrow, rowB, xJ, growM, killM, newS, hr, Bool.and_self, Nat.zero_mod, List.nil_append]
 rfl
set_option maxHeartbeats 1000000 in
theorem run14 {s1 s : St} {b16 : Nat} {v2 : Value} {ks : List Int} (hf : Fine s1) (hb : b16 < s1.next) (hmay : s1.may b16 = true) (M : Mid s1 b16 v2 ks s) (hlen : ks.length < 1000000) (hroom : s1.next + 2 * ks.length + 2 < 281474976710655) (G : FF) (x : Int) :
  y3 Tryz.prog ym (.region 14 r14 false) (lay G [(16, ptr b16), (17, .int .i64 x)]) s fun o => ∃ F' s', o = .normal F' s' ∧ Mid s1 b16 v2 (ks ++ [x]) s' ∧ EqOff Z14 (lay G [(16, ptr b16), (17, .int .i64 x)]) F' := by
 have hn := M.next
 have hroom1 : s.room = true := by unfold St.room; exact Nat.blt_eq.mpr (by omega)
 have hroom2 : ∀ o, (s.new o).room = true := fun o => by unfold St.room; exact Nat.blt_eq.mpr (by rw [St.new_next]; omega)
 have hm : ∀ b, s.may b = s1.may b := St.may_eq M.bar M.prot
 have gn := fun o b => St.get_new (s := s) (by omega) o b
 refine zv (za rfl (zf of36_0 rfl (za rfl (zj sh31 rfl M.sl rfl (za rfl (zd rfl (za rfl (zS (v := .slice (some ⟨s.next, 0, none⟩) 1 2) (s' := s.new (.cells [.int .i64 x] 23)) ?_ ?_))))))))
 ·obtain ⟨hu, inf, z', hi, hsz, hby, hz, hz1, hz2⟩ := xp sl31
  simp only [zr, xq, hu, hi, hz, newK, hsz, hroom1]
  rfl
 have hg2 : (s.new (.cells [.int .i64 x] 23)).get s.next = some (.cells [.int .i64 x] 23) := by rw [gn, if_pos rfl]
 have step : ∃ s2, xN Tryz.prog [31, 31] [slK s1.next ks.length, .slice (some ⟨s.next, 0, none⟩) 1 2] (s.new (.cells [.int .i64 x] 23)) = .ok (.value (slK s1.next (ks.length + 1))) s2 ∧
   s2.next = s1.next + 1 + 2 * (ks.length + 1) ∧ s2.bar = s1.bar ∧ s2.prot = s1.prot ∧ s2.get (s1.next + 2 * (ks.length + 1)) = some (.cells (z7 (ks ++ [x])) 23) ∧ s2.get b16 = some (.cells [slK s1.next ks.length, v2] 36) ∧ ∀ b, b < s1.next → s2.get b = s.get b := by
  cases hk : ks with
  | nil =>
   rw [hk] at hn hroom
   simp only [List.length_nil, Nat.mul_zero, Nat.add_zero] at hn hroom
   refine ⟨(s.new (.cells [.int .i64 x] 23)).new (.cells [.int .i64 x] 23), ?_, ?_, M.bar, M.prot, ?_, ?_, ?_⟩
   ·refine (app_nil hg2 (hroom2 _)).trans ?_
    simp only [St.new_next, slK, List.length_nil, hn]
   ·simp only [St.new_next, List.length_nil]; omega
   ·rw [St.get_new (by simp only [St.new_next]; omega), if_pos (by simp only [St.new_next, List.length_nil]; omega)]; rfl
   ·rw [St.get_new (by simp only [St.new_next]; omega), if_neg (by simp only [St.new_next]; omega), gn, if_neg (by omega), M.sl, hk]
   ·intro b hb2
    rw [St.get_new (by simp only [St.new_next]; omega), if_neg (by simp only [St.new_next]; omega), gn, if_neg (by omega)]
  | cons k0 kr =>
   obtain ⟨j, hj⟩ : ∃ j, ks.length = j + 1 := ⟨kr.length, by rw [hk]; rfl⟩
   rw [← hk]
   have hl := M.last (by omega)
   have hnb : (s1.next + 2 * ks.length) ≠ s.next := by omega
   have hg3 : (s.new (.cells [.int .i64 x] 23)).get (s1.next + 2 * ks.length) = some (.cells (z7 ks) 23) := by rw [gn, if_neg hnb]; exact hl
   have hm3 : (s.new (.cells [.int .i64 x] 23)).may (s1.next + 2 * ks.length) = true := by
    have : (s.new (.cells [.int .i64 x] 23)).may (s1.next + 2 * ks.length) = s1.may (s1.next + 2 * ks.length) := St.may_eq M.bar M.prot _
    rw [this]
    exact may_young hf (by omega)
   have happ := append_full (P := Tryz.prog) (ts := [31, 31]) (len := ks.length) (cap := 2 * ks.length + 1) sl31 un31 rfl (yH (cap := 2) hg2 rfl) hg3 hm3 (by simp [z7]) (by omega) rfl rfl (by omega) (hroom2 _)
   have hodd : (2 * ks.length + 1) % 2 ≠ 0 := by omega
   rw [if_neg hodd] at happ
   refine ⟨((s.new (.cells [.int .i64 x] 23)).put (s1.next + 2 * ks.length) none).new (.cells (z7 ks ++ [.int .i64 x]) 23), ?_, ?_, M.bar, M.prot, ?_, ?_, ?_⟩
   rotate_left
   ·simp only [St.new_next, St.put_next]; omega
   ·rw [St.get_new (by simp only [St.put_next, St.new_next]; omega), if_pos (by simp only [St.put_next, St.new_next]; omega)]; simp [z7]
   ·rw [St.get_new (by simp only [St.put_next, St.new_next]; omega), if_neg (by simp only [St.put_next, St.new_next]; omega), St.get_put (by omega), if_neg (by omega), gn, if_neg (by omega), M.sl]
   ·intro b hb2
    rw [St.get_new (by simp only [St.put_next, St.new_next]; omega), if_neg (by simp only [St.put_next, St.new_next]; omega), St.get_put (by omega), if_neg (by omega), gn, if_neg (by omega)]
   ·have e1 : slK s1.next ks.length = .slice (some ⟨s1.next + 2 * ks.length, 0, none⟩) ks.length (2 * ks.length + 1) := by rw [hj]; rfl
    rw [e1, happ]
    have e2 : (s.new (.cells [.int .i64 x] 23)).next = s1.next + 2 * (ks.length + 1) := by rw [St.new_next]; omega
    rw [e2]
    rfl
 obtain ⟨s2, happ, hn2, hb2, hp2, hg4, hg5, hold⟩ := step
 refine za rfl (zS (v := slK s1.next (ks.length + 1)) (s' := s2) happ (za rfl (zf of36_0 rfl ?_)))
 have hsz31 : yR Tryz.prog 31 = some 1 := by kernel_rfl
 have hmb : s2.may b16 = true := by rw [St.may_eq hb2 hp2]; exact hmay
 refine za rfl (qk (s' := s2.put b16 (some (.cells [slK s1.next (ks.length + 1), v2] 36))) (xt (vs := [slK s1.next (ks.length + 1)]) hsz31 rfl rfl rfl rfl hg5 hmb rfl) (zb ⟨_, _, rfl, ?_, ?_⟩))
 ·have hlen2 : (ks ++ [x]).length = ks.length + 1 := by simp
  have gp := fun b => St.get_put (s := s2) (b := b16) (by omega) (some (.cells [slK s1.next (ks.length + 1), v2] 36)) b
  refine ⟨by rw [St.put_next, hn2, hlen2], hb2, hp2, by rw [gp, if_pos rfl, hlen2], fun _ => ?_, fun b hb3 hne => ?_⟩
  ·rw [gp, hlen2, if_neg (by omega)]; exact hg4
  ·rw [gp, if_neg hne, hold b hb3]; exact M.old b hb3 hne
 ·exact ((((((EqOff.over (fun _ _ => rfl) rfl _).over rfl _).over rfl _).over rfl _).over rfl _).over rfl _)
end Go.Proofs.YtdejleegamcioaaGreat
namespace Go.M
variable {P : Program} {β β₁ : Ren} {s s₁ : St} {w w₁ : World}
theorem Ext.more (h : Ext P β₁ s₁ w₁ β s w) {w' : World} (hsize : w.heap.size ≤ w'.heap.size) (hsame : ∀ r, r < w.heap.size → w'.heap[r]? = w.heap[r]?) (hos : w'.os = w.os) (hout : w'.output = w.output) (htape : w'.tape = w.tape) :
    Ext P β₁ s₁ w₁ β s w' :=
  { rel := {
      img := fun b m hb hlt => Nat.lt_of_lt_of_le (h.rel.img b m hb hlt) hsize
      obj := fun b m o hb hlt hg => by
        obtain ⟨o', h1, h2⟩ := h.rel.obj b m o hb hlt hg
        exact ⟨o', by rw [hsame _ (h.rel.img b m hb hlt)]; exact h1, h2⟩
      inj := h.rel.inj
      room := h.rel.room
      top := h.rel.top }
    le := h.le
    dom := h.dom
    next := h.next
    bar := h.bar
    prot := h.prot
    size := Nat.le_trans h.size hsize
    out := fun r hr hn => by rw [hsame r (Nat.lt_of_lt_of_le hr h.size)]; exact h.out r hr hn
    same := h.same
    dead := h.dead
    fresh := h.fresh
    os := hos.trans h.os
    output := hout.trans h.output
    tape := htape.trans h.tape }
theorem Ext.rebar {β' : Ren} {s' : St} {w' : World} (h : Ext P β s w β' s' w') {t t' : St} (hn : t.next = s.next) (hg : ∀ b, t.get b = s.get b) (hm : ∀ b, b < s.next → t.may b = s.may b) (hn' : t'.next = s'.next) (hg' : ∀ b, t'.get b = s'.get b) (hb : t'.bar = t.bar) (hp : t'.prot = t.prot) :
    Ext P β t w β' t' w' :=
  { rel := {
      img := fun b m hb hlt => h.rel.img b m hb (by omega)
      obj := fun b m o hb hlt hg => h.rel.obj b m o hb (by omega) (by rw [← hg']; exact hg)
      inj := fun b1 b2 m1 m2 o1 o2 h1 h2 l1 l2 g1 g2 e => h.rel.inj b1 b2 m1 m2 o1 o2 h1 h2 (by omega) (by omega) (by rw [← hg']; exact g1) (by rw [← hg']; exact g2) e
      room := by rw [hn']; exact h.rel.room
      top := fun b hb => by rw [hg']; exact h.rel.top b (by omega) }
    le := h.le
    dom := fun b m h1 h2 => by rw [hn, hn']; exact h.dom b m h1 h2
    next := by rw [hn, hn']; exact h.next
    bar := hb
    prot := hp
    size := h.size
    out := fun r hr hno => h.out r hr fun b m o h1 h2 h3 h4 => hno b m o h1 (by omega) (by rw [hm b h2]; exact h3) (by rw [hg]; exact h4)
    same := fun b hlt hmf => by rw [hg', hg]; exact h.same b (by omega) (by rw [← hm b (by omega)]; exact hmf)
    dead := fun b hlt hd => by rw [hg']; exact h.dead b (by omega) (by rw [← hg]; exact hd)
    fresh := fun b m h1 h2 => by
      rcases h.fresh b m h1 h2 with e | ⟨b₀, m₀, o₀, g1, g2, g3, g4, g5⟩
      · exact .inl e
      · exact .inr ⟨b₀, m₀, o₀, g1, by omega, by rw [hm b₀ g2]; exact g3, by rw [hg]; exact g4, g5⟩
    os := h.os
    output := h.output
    tape := h.tape }
end Go.M
namespace Go.Proofs.YtdejleegamcioaaGreat
open Go Go.M
theorem insI_sorted (x : Int) : ∀ l : List Int, l.Pairwise (· ≤ ·) → (insI x l).Pairwise (· ≤ ·)
  | [], _ => by simp [insI]
  | y :: l, h => by
    simp only [insI]
    split
    · next h1 =>
      rw [xk, decide_eq_true_eq] at h1
      refine List.Pairwise.cons ?_ h
      intro z hz
      rcases List.mem_cons.mp hz with e | e
      · omega
      · have := (List.pairwise_cons.mp h).1 z e; omega
    · next h1 =>
      rw [xk, decide_eq_false_iff_not] at h1
      refine List.Pairwise.cons ?_ (insI_sorted x l (List.pairwise_cons.mp h).2)
      intro z hz
      rcases List.mem_cons.mp ((insI_perm x l).mem_iff.mp hz) with e | e
      · omega
      · exact (List.pairwise_cons.mp h).1 z e
theorem isort_sorted : ∀ l : List Int, (yp l).Pairwise (· ≤ ·)
  | [] => .nil
  | x :: l => insI_sorted x _ (isort_sorted l)
theorem sorted_one {l l' : List Int} (hp : l.Perm l') (h : l.Pairwise (· ≤ ·)) (h' : l'.Pairwise (· ≤ ·)) : l = l' :=
  hp.eq_of_pairwise (fun a b _ _ h1 h2 => Int.le_antisymm h1 h2) h h'
theorem mergeSort_isort (l : List Int) : (l.mergeSort fun x y => decide (x ≤ y)) = yp l := by
  refine sorted_one ((List.mergeSort_perm l _).trans (yX l).symm) ?_ (isort_sorted l)
  have := List.pairwise_mergeSort (le := fun x y : Int => decide (x ≤ y)) (fun a b c h1 h2 => by simp only [decide_eq_true_eq] at *; omega) (fun a b => by simp only [Bool.or_eq_true, decide_eq_true_eq]; omega) l
  exact this.imp fun h => by simpa using h
theorem isort_of_perm {l l' : List Int} (h : l.Perm l') : yp l = yp l' := sorted_one ((yX l).trans (h.trans (yX l').symm)) (isort_sorted l) (isort_sorted l')
def intsOf : List Value → Option (List Int)
  | [] => some []
  | .int .i64 k :: l => match intsOf l with
    | some r => some (k :: r)
    | none => none
  | _ => none
theorem intsOf_ints : ∀ l : List Int, intsOf (z7 l) = some l
  | [] => rfl
  | k :: l => by
    show (match intsOf (z7 l) with | some r => some (k :: r) | none => none) = _
    rw [intsOf_ints l]
theorem intsOf_spec : ∀ {c : List Value} {zs : List Int}, intsOf c = some zs → c = z7 zs
  | [], zs, h => by cases h; rfl
  | v :: l, zs, h => by
    unfold intsOf at h
    split at h
    · rename_i e; cases e
    · next k l' e =>
      cases e
      split at h
      · next r hr => cases h; rw [intsOf_spec hr]; rfl
      · cases h
    · cases h
def sortI (args : Array Value) (s : St) : CallOut :=
  match args.toList with
  | [.slice (some ⟨b, 0, none⟩) n _] => match s.get b with
    | some (.cells c e) => match intsOf c, s.may b && Nat.blt 0 n && Nat.blt n 1000000000 && Nat.beq n (yY c 0) with
      | some zs, true => .ret (.tuple #[]) (s.put b (some (.cells (z7 (yp zs)) e)))
      | _, _ => .stuck
    | _ => .stuck
  | _ => .stuck
theorem sortI_spec {args : Array Value} {s : St} (h : sortI args s ≠ .stuck) : ∃ b cap zs e, args.toList = [.slice (some ⟨b, 0, none⟩) zs.length cap] ∧ s.get b = some (.cells (z7 zs) e) ∧ s.may b = true ∧ 0 < zs.length ∧ zs.length < 1000000000 ∧
    sortI args s = .ret (.tuple #[]) (s.put b (some (.cells (z7 (yp zs)) e))) := by
  unfold sortI at h ⊢
  split at h
  · next b n cap ha =>
    split at h
    · next c e hg =>
      split at h
      · next zs hz hb =>
        simp only [Bool.and_eq_true, y9, Nat.add_zero] at hb
        obtain ⟨⟨⟨h1, h2⟩, h3⟩, h4⟩ := hb
        have h4 := Nat.eq_of_beq_eq_true h4
        have hc := intsOf_spec hz
        have hl : n = zs.length := by rw [h4, hc]; simp [z7]
        rw [Nat.blt_eq] at h2 h3
        have h3' : Nat.blt n 1000000000 = true := Nat.blt_eq.mpr h3
        refine ⟨b, cap, zs, e, by rw [ha, hl], by rw [hg, hc], h1, by omega, by omega, ?_⟩
        rw [hl] at ha h2 h3'
      · exact (h rfl).elim
    · exact (h rfl).elim
  · exact (h rfl).elim
end Go.Proofs.YtdejleegamcioaaGreat
namespace Go.Proofs.YtdejleegamcioaaGreat
open Go Go.M
def sortT : zJ := fun f => match Nat.beq f 43 with
 | true => some sortI
 | false => none
theorem sort_sound {args args' : Array Value} {s : St} {β : Go.M.Ren} {w : World} (hrel : Rel Tryz.prog β s w) (ha : LRel Tryz.prog β args.toList args'.toList) (hne : sortI args s ≠ .stuck) : Calls Tryz.prog 43 args' w (CallP Tryz.prog β s w (sortI args s)) := by
 obtain ⟨b, cap, zs, e, h1, hg, hmay, h0, hlt, hr⟩ := sortI_spec hne
 rw [hr]
 rw [h1] at ha
 have key : ∃ m cap', β b = some m ∧ args' = #[.slice (some ⟨m.blk, 0 + m.sh, none⟩) zs.length cap'] := by
  generalize hL : zs.length = L at ha h0
  cases hl : args'.toList with
  | nil => rw [hl] at ha; cases ha
  | cons v' l' =>
   rw [hl] at ha
   have hargs : args' = ⟨v' :: l'⟩ := by rw [← hl]
   cases ha with
   | cons hv hnil =>
    cases hnil
    cases hv with
    | sknown hb => exact ⟨_, _, hb, hargs⟩
    | sgrown hb _ _ => exact ⟨_, _, hb, hargs⟩
    | sempty hb _ => omega
    | szero hb => omega
 obtain ⟨m, cap', hb, rfl⟩ := key
 obtain ⟨o', ho', hor⟩ := hrel.obj b m _ hb (hrel.lt hg) hg
 have hblk := hrel.img b m hb (hrel.lt hg)
 cases hor with
 | @cells _ _ e' c' fz he hsz hln hfz hc =>
  have cellAt : ∀ j, j < zs.length → c'[j + m.sh]? = some (.int .i64 zs[j]!) := fun j hj => by
   obtain ⟨v', h2, h3⟩ := hc j (.int .i64 zs[j]!) (by simp [z7, hj])
   cases h3
   exact h2
  have hH : Sort.Holds (Value.int .i64) w m.blk (0 + m.sh) zs.toArray := fun j hj => by
   have hj : j < zs.length := by simpa using hj
   have h2 := cellAt j hj
   have e1 : 0 + m.sh + j = j + m.sh := by omega
   have hin : j + m.sh < c'.size := by
    rcases Nat.lt_or_ge (j + m.sh) c'.size with hh | hh
    ·exact hh
    ·rw [Array.getElem?_eq_none hh] at h2; cases h2
   refine ⟨?_, ?_⟩
   ·rw [e1]
    simp only [World.cell?, ho', h2]
    simp [hj]
   ·have := hfz (j + m.sh) (by omega) (by have hl2 := hln; simp only [z7, List.length_map] at hl2; omega)
    rw [e1]
    simp only [World.frozen?, ho']
    simp only [Bool.and_eq_false_iff, decide_eq_false_iff_not]
    by_cases h1 : fz.1 ≤ j + m.sh
    ·exact .inr fun h2 => this ⟨h1, h2⟩
    ·exact .inl h1
  refine (sort_call m.blk (0 + m.sh) cap' zs w hH hblk (by omega)).mono ?_
  rintro e2 w' ⟨rfl, n, os, rfl⟩
  rw [mergeSort_isort]
  have hlen : (yp zs).length = zs.length := (yX zs).length_eq
  refine ⟨β, .tuple #[], rfl, ?_, .tuple .nil⟩
  refine Ext.more (w := Sort.putRow (Value.int .i64) (Sort.ahead w n) m.blk (0 + m.sh) (yp zs).toArray) ?_ (by simp [Sort.grow]) (fun r hr => by simp only [Sort.grow]; rw [Array.getElem?_append_left hr]) rfl rfl rfl
  have hheap : ∀ r, (Sort.putRow (Value.int .i64) (Sort.ahead w n) m.blk (0 + m.sh) (yp zs).toArray).heap[r]? = if m.blk = r then (w.heap[r]?).map (Sort.onCells (Sort.putCells (Value.int .i64) (0 + m.sh) (yp zs).toArray)) else w.heap[r]? := fun r => by
   simp only [Sort.putRow, Sort.mapBlock, Sort.ahead, Array.getElem?_modify]
  refine Ext.write hrel hb hmay hg _ (by simp [Sort.putRow, Sort.mapBlock, Sort.ahead]) (fun r hr => by rw [hheap, if_neg (Ne.symm hr)]) ?_ rfl rfl rfl
  refine ⟨.cells (Sort.putCells (Value.int .i64) (0 + m.sh) (yp zs).toArray c') e' fz, by rw [hheap, if_pos rfl, ho']; rfl, ?_⟩
  refine .cells he (by simpa [Sort.putCells] using hsz) (by simp only [z7, List.length_map] at hln ⊢; rw [hlen]; exact hln) hfz fun i v hv => ?_
  have hi : i < zs.length := by
   rcases Nat.lt_or_ge i zs.length with hh | hh
   ·exact hh
   ·rw [List.getElem?_eq_none (by simp [z7]; omega)] at hv; cases hv
  have hv2 : v = .int .i64 (yp zs)[i]! := by
   simp only [z7, List.getElem?_map, List.getElem?_eq_getElem (show i < (yp zs).length by omega), Option.map_some, Option.some.injEq] at hv
   rw [← hv, List.getElem!_eq_getElem?_getD, List.getElem?_eq_getElem (show i < (yp zs).length by omega)]
   rfl
  refine ⟨v, ?_, by rw [hv2]; exact .int _ _⟩
  simp only [Sort.putCells, Array.getElem?_mapIdx, cellAt i hi, Option.map_some, List.size_toArray, hlen]
  rw [if_pos (by omega), hv2]
  have e3 : i + m.sh - (0 + m.sh) = i := by omega
  rw [e3]
  simp
theorem sortT_ok : TableS Tryz.prog sortT := by
 have key : ∀ f g, sortT f = some g → f = 43 ∧ g = sortI := fun f g h => by
  unfold sortT at h
  split at h
  ·next e => cases h; exact ⟨Nat.eq_of_beq_eq_true e, rfl⟩
  ·cases h
 have out : ∀ args s, sortI args s = .stuck ∨ ∃ b o o', s.get b = some o ∧ s.may b = true ∧ sortI args s = .ret (.tuple #[]) (s.put b (some o')) := fun args s => by
  by_cases hne : sortI args s = .stuck
  ·exact .inl hne
  ·obtain ⟨b, cap, zs, e, h1, hg, hmay, h0, hlt, hr⟩ := sortI_spec hne
   exact .inr ⟨b, _, _, hg, hmay, hr⟩
 refine ⟨fun f g h args s => ?_, fun f g h args s hw => ?_, fun f g h args args' s β w hrel ha hne hfree => ?_⟩
 ·obtain ⟨rfl, rfl⟩ := key f g h
  rcases out args s with e | ⟨b, o, o', hg, hm, e⟩
  ·rw [e]; trivial
  ·rw [e]; exact Nat.le_refl _
 ·obtain ⟨rfl, rfl⟩ := key f g h
  rcases out args s with e | ⟨b, o, o', hg, hm, e⟩
  ·rw [e]; trivial
  ·rw [e]; exact Kp.put hw hg hm _
 ·obtain ⟨rfl, rfl⟩ := key f g h
  exact sort_sound hrel ha hne
end Go.Proofs.YtdejleegamcioaaGreat
