/- The tables: undo.Least and the section's examples. -/
import Derived.Test.YtdejleegamcioaaGreatP23
import Derived.Test.YtdejleegamcioaaGreatP26
namespace Go.Proofs.YtdejleegamcioaaGreat
open Go Go.M
theorem seg_kp {v13 v16 : Value} {s s2 : St} (hw : WF s) (h : segS v13 v16 s = some s2) : Kp s s2 := by
 obtain ⟨bK, b16, r, eK, v2, es, clock, ks, _, _, _, g16, _, _, _, hmay, hroom, _, _, hs2⟩ := segS_spec h
 have hlt := hw.lt g16
 have gnew : ∀ b, s2.get b = if b = b16 then some (.cells [.slice (some ⟨s.next + 2 * es.size, 0, none⟩) es.size (2 * es.size + 1), v2] 36) else if b = s.next + 2 * es.size then some (.cells (z7 (yp ks)) 23) else s.get b := fun b => by
  rw [hs2, St.get_put (by omega), St.get_new (by simp only; omega)]
  rfl
 have hn : s2.next = s.next + 2 * es.size + 1 := by rw [hs2]; rfl
 refine ⟨⟨by omega, fun b hb => ?_⟩, by omega, by rw [hs2]; rfl, by rw [hs2]; rfl, fun b hb hm => ?_, fun b hb hd => ?_⟩
 ·rw [gnew, if_neg (by omega), if_neg (by omega)]; exact hw.top b (by omega)
 ·rw [gnew, if_neg (fun e => by rw [e, hmay] at hm; cases hm), if_neg (by omega)]
 ·rw [gnew, if_neg (fun e => by rw [e, g16] at hd; cases hd), if_neg (by omega)]; exact hd
theorem least_case (n : Nat) (args : Array Value) (s : St) : qD n args s = .stuck ∨ ∃ v s', qD n args s = .ret v s' ∧ s.next ≤ s'.next ∧ (WF s → Kp s s') := by
 have hnx := qs (P := Tryz.prog) (I := ym) xr n
 have hkp := codeM_keeps (P := Tryz.prog) (I := ym) xr n
 have hfin : ∀ a s, finish Tryz.prog Tryz.f12 a s = .stuck ∨ ∃ v, finish Tryz.prog Tryz.f12 a s = .ret v s := fun a s => by
  unfold finish
  split
  ·exact .inr ⟨_, rfl⟩
  ·exact .inr ⟨_, rfl⟩
  ·exact .inl rfl
 unfold qD
 split
 ·split
  ·next a s1 hp =>
   have h1 := hnx yO (Fr.make args 78) s
   have h2 := hkp yO (Fr.make args 78) s
   rw [hp] at h1 h2
   rcases hfin a s1 with e | ⟨v, e⟩
   ·exact .inl e
   ·exact .inr ⟨v, s1, e, h1, h2⟩
  ·next a s1 hp =>
   have h1 : s.next ≤ s1.next := by have := hnx yO (Fr.make args 78) s; rw [hp] at this; exact this
   have h2 : WF s → Kp s s1 := by have := hkp yO (Fr.make args 78) s; rw [hp] at this; exact this
   split
   ·next s2 hs =>
    have h3 : s1.next ≤ s2.next := by
     obtain ⟨_, _, _, _, _, es, _, _, _, _, _, _, _, _, _, _, _, _, _, hs2⟩ := segS_spec hs
     rw [hs2]
     show s1.next ≤ s1.next + 2 * es.size + 1
     omega
    split
    ·next a3 s3 ht =>
     have h4 : s2.next ≤ s3.next := by have := hnx leastTail a s2; rw [ht] at this; exact this
     have h5 : WF s2 → Kp s2 s3 := by have := hkp leastTail a s2; rw [ht] at this; exact this
     rcases hfin a3 s3 with e | ⟨v, e⟩
     ·exact .inl e
     ·exact .inr ⟨v, s3, e, by omega, fun hw => by
       have k1 := h2 hw
       have k2 := seg_kp k1.wf hs
       exact (k1.trans k2).trans (h5 k2.wf)⟩
    ·next a3 s3 ht =>
     have h4 : s2.next ≤ s3.next := by have := hnx leastTail a s2; rw [ht] at this; exact this
     have h5 : WF s2 → Kp s2 s3 := by have := hkp leastTail a s2; rw [ht] at this; exact this
     rcases hfin a3 s3 with e | ⟨v, e⟩
     ·exact .inl e
     ·exact .inr ⟨v, s3, e, by omega, fun hw => by
       have k1 := h2 hw
       have k2 := seg_kp k1.wf hs
       exact (k1.trans k2).trans (h5 k2.wf)⟩
    ·exact .inl rfl
   ·exact .inl rfl
  ·exact .inl rfl
 ·exact .inl rfl
theorem leastI_case (args : Array Value) (s : St) : leastI args s = .stuck ∨ ∃ n v s', leastI args s = .ret v s' ∧ qD n args s = .ret v s' := by
 by_cases h : ∃ p : Value × St, Ever args s p.1 p.2
 ·obtain ⟨⟨v, s'⟩, h1⟩ := h
  obtain ⟨N, hN⟩ := h1
  exact .inr ⟨N, v, s', leastI_eq ⟨N, hN⟩, hN N (Nat.le_refl _)⟩
 ·left
  unfold leastI
  rw [dif_neg h]
theorem table12 {I : zJ} {g : Array Value → St → CallOut} (hg : ∀ args s, g args s = .stuck ∨ ∃ n v s', g args s = .ret v s' ∧ qD n args s = .ret v s') (hI : TableS Tryz.prog I) : TableS Tryz.prog (fun f => match Nat.beq f 12 with | true => some g | false => I f) := by
 refine ⟨fun f h hh args s => ?_, fun f h hh args s hw => ?_, fun f h hh args args' s β w hrel ha hne hfree => ?_⟩
 ·cases hb : Nat.beq f 12 with
  | false => rw [hb] at hh; exact hI.next f h hh args s
  | true =>
   rw [hb] at hh
   cases hh
   rcases hg args s with e | ⟨n, v, s', e, e2⟩
   ·rw [e]; trivial
   ·rw [e]
    rcases least_case n args s with e3 | ⟨v2, s2, e3, h1, _⟩
    ·rw [e3] at e2; cases e2
    ·rw [e3] at e2; cases e2; exact h1
 ·cases hb : Nat.beq f 12 with
  | false => rw [hb] at hh; exact hI.keeps f h hh args s hw
  | true =>
   rw [hb] at hh
   cases hh
   rcases hg args s with e | ⟨n, v, s', e, e2⟩
   ·rw [e]; trivial
   ·rw [e]
    rcases least_case n args s with e3 | ⟨v2, s2, e3, _, h1⟩
    ·rw [e3] at e2; cases e2
    ·rw [e3] at e2; cases e2; exact h1 hw
 ·cases hb : Nat.beq f 12 with
  | false => rw [hb] at hh; exact hI.sound f h hh args args' s β w hrel ha hne hfree
  | true =>
   have hf := Nat.eq_of_beq_eq_true hb
   subst hf
   rw [hb] at hh
   cases hh
   rcases hg args s with e | ⟨n, v, s', e, e2⟩
   ·exact (hne e).elim
   ·rw [e] at hfree ⊢
    exact least_sound hrel ha e2 hfree
theorem exTable_ok : TableS Tryz.prog exTable :=
 table12 (g := qD 100000) (fun args s => by
  rcases least_case 100000 args s with e | ⟨v, s', e, _⟩
  ·exact .inl e
  ·exact .inr ⟨100000, v, s', e, e⟩) (memo_ok Tab.ok41)
def livesE : Entry := ⟨[], [], .bool true, []⟩
theorem livesE_ok : livesE.OK Tryz.prog 17 := Entry.check_ok hmixT exTable_ok lives_run
def T17 : Memo := Tr.put 16 .nil 17 (some [livesE])
theorem T17_ok : Memo.OK Tryz.prog T17 := by
 intro f l hl e he
 unfold T17 at hl
 rw [Tr.get_put _ _ _ _ _ (by decide)] at hl
 by_cases h : f = 17
 ·subst h
  rw [if_pos rfl] at hl
  cases hl
  simp only [List.mem_singleton] at he
  subst he
  exact livesE_ok
 ·rw [if_neg h] at hl
  simp [Tr.get] at hl
noncomputable def lawT : zJ := fun f => match Nat.beq f 12 with
 | true => some leastI
 | false => memo T17 f
theorem lawT_ok : TableS Tryz.prog lawT := table12 leastI_case (memo_ok T17_ok)
theorem lawT_plain : Plain lawT := by
 intro f h1 h2 _ _
 have hb : Nat.beq f 12 = false := by
  rw [Bool.eq_false_iff]
  intro h
  exact h1 (Nat.eq_of_beq_eq_true h)
 unfold lawT memo T17
 rw [hb, Tr.get_put _ _ _ _ _ (by decide), if_neg h2]
 rfl
end Go.Proofs.YtdejleegamcioaaGreat
