/- Blocks of the model that this machine has no live block for; blocks that are let go. -/
import Derived.Test.YtdejleegamcioaaGreatF08
namespace Go.M
variable {P : Program} {β β₁ : Ren} {s s₁ : St} {w w₁ : World}
theorem Ext.unseen (h : Rel P β s w) (hroom : s.next < 281474976710655) (hn : β s.next = none) {o' : Obj} {m : Img} (hm : m.blk = w.heap.size) :
    Ext P β s w (β.add s.next m) { s with next := s.next + 1 } { w with heap := w.heap.push o' } := by
  have hle : β.le (β.add s.next m) := Ren.le_add hn
  have at_ : ∀ b m', β.add s.next m b = some m' → b ≠ s.next → β b = some m' := fun b m' hh ne => by
    simpa [Ren.add, ne] using hh
  have htop : s.get s.next = none := h.top _ (Nat.le_refl _)
  have live : ∀ b o, s.get b = some o → b ≠ s.next := fun b o hb e => by rw [e, htop] at hb; cases hb
  exact {
    rel := {
      img := fun b m' hb hlt => by
        simp only [Array.size_push]
        by_cases e : b = s.next
        · subst e; rw [Ren.add_self] at hb; cases hb; omega
        · have := h.img b m' (at_ b m' hb e) (by simp at hlt; omega); omega
      obj := fun b m' o hb hlt hg => by
        have e := live b o hg
        have hb' := at_ b m' hb e
        have hlt' : b < s.next := by simp at hlt; omega
        obtain ⟨o'', h1, h2⟩ := h.obj b m' o hb' hlt' hg
        have := h.img b m' hb' hlt'
        exact ⟨o'', by simp only [Array.getElem?_push]; rw [if_neg (by omega)]; exact h1, h2.mono hle⟩
      inj := fun b1 b2 m1 m2 o1 o2 h1 h2 l1 l2 g1 g2 e => by
        have e1 := live b1 o1 g1
        have e2 := live b2 o2 g2
        exact h.inj b1 b2 m1 m2 o1 o2 (at_ _ _ h1 e1) (at_ _ _ h2 e2) (by simp at l1; omega) (by simp at l2; omega) g1 g2 e
      room := by simp; omega
      top := fun b hb => by simp at hb; exact h.top b (by omega) }
    le := hle
    dom := fun b m' h1 h2 => by
      by_cases e : b = s.next
      · subst e; simp
      · rw [at_ b m' h1 e] at h2; cases h2
    next := by simp
    bar := rfl
    prot := rfl
    size := by simp
    out := fun r hr _ => by simp only [Array.getElem?_push]; rw [if_neg (by omega)]
    same := fun b hb _ => rfl
    dead := fun b hb hd => hd
    fresh := fun b m' h1 h2 => by
      by_cases e : b = s.next
      · subst e; rw [Ren.add_self] at h1; cases h1; exact .inl (by omega)
      · rw [at_ b m' h1 e] at h2; cases h2
    os := rfl
    output := rfl
    tape := rfl }
theorem Ext.touch (h : Ext P β₁ s₁ w₁ β s w) {it : Nat} (hit : w₁.heap.size ≤ it) (hno : ∀ b m o, β b = some m → b < s.next → s.get b = some o → m.blk ≠ it) {w' : World}
    (hsize : w'.heap.size = w.heap.size) (hsame : ∀ r, r ≠ it → w'.heap[r]? = w.heap[r]?) (hos : w'.os = w.os) (hout : w'.output = w.output) (htape : w'.tape = w.tape) :
    Ext P β₁ s₁ w₁ β s w' :=
  { rel := {
      img := fun b m hb hlt => by rw [hsize]; exact h.rel.img b m hb hlt
      obj := fun b m o hb hlt hg => by
        obtain ⟨o', h1, h2⟩ := h.rel.obj b m o hb hlt hg
        exact ⟨o', by rw [hsame _ (hno b m o hb hlt hg)]; exact h1, h2⟩
      inj := h.rel.inj
      room := h.rel.room
      top := h.rel.top }
    le := h.le
    dom := h.dom
    next := h.next
    bar := h.bar
    prot := h.prot
    size := by rw [hsize]; exact h.size
    out := fun r hr hn => by rw [hsame r (by omega)]; exact h.out r hr hn
    same := h.same
    dead := h.dead
    fresh := h.fresh
    os := hos.trans h.os
    output := hout.trans h.output
    tape := htape.trans h.tape }
theorem Ext.forget (h : Ext P β₁ s₁ w₁ β s w) {s₂ : St} (hn : s₂.next = s.next) (hb : s₂.bar = s.bar) (hp : s₂.prot = s.prot) (hg : ∀ b, s₂.get b = s.get b ∨ (s₂.get b = none ∧ s₁.next ≤ b)) :
    Ext P β₁ s₁ w₁ β s₂ w := by
  have live : ∀ b o, s₂.get b = some o → s.get b = some o := fun b o hh => by
    rcases hg b with e | ⟨e, _⟩
    · rw [← e]; exact hh
    · rw [e] at hh; cases hh
  have old : ∀ b, b < s₁.next → s₂.get b = s.get b := fun b hlt => by
    rcases hg b with e | ⟨_, e⟩
    · exact e
    · omega
  exact {
    rel := {
      img := fun b m hb hlt => h.rel.img b m hb (by omega)
      obj := fun b m o hb hlt hg => h.rel.obj b m o hb (by omega) (live b o hg)
      inj := fun b1 b2 m1 m2 o1 o2 h1 h2 l1 l2 g1 g2 e => h.rel.inj b1 b2 m1 m2 o1 o2 h1 h2 (by omega) (by omega) (live _ _ g1) (live _ _ g2) e
      room := by rw [hn]; exact h.rel.room
      top := fun b hb => by
        have := h.rel.top b (by omega)
        rcases hg b with e | ⟨e, _⟩
        · rw [e]; exact this
        · exact e }
    le := h.le
    dom := fun b m h1 h2 => by rw [hn]; exact h.dom b m h1 h2
    next := by rw [hn]; exact h.next
    bar := by rw [hb]; exact h.bar
    prot := by rw [hp]; exact h.prot
    size := h.size
    out := h.out
    same := fun b hlt hm => by rw [old b hlt]; exact h.same b hlt hm
    dead := fun b hlt hd => by rw [old b hlt]; exact h.dead b hlt hd
    fresh := h.fresh
    os := h.os
    output := h.output
    tape := h.tape }
end Go.M
