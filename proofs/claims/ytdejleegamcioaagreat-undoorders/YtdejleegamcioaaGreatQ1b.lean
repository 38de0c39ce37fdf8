/- The table of UndoOrders: maps.Keys, slices.Sorted of it, undo.Least, the section's examples. -/
import Derived.Test.YtdejleegamcioaaGreatP33
import Derived.Test.YtdejleegamcioaaGreatP30
import Derived.Test.YtdejleegamcioaaGreatP28
import Derived.Test.YtdejleegamcioaaGreatQ0
import Derived.Test.YtdejleegamcioaaGreatP34
namespace Go.Proofs.YtdejleegamcioaaGreat
open Go Go.M
theorem table_add {I : zJ} {k : FuncId} {g : Array Value → St → CallOut} (h1 : ∀ args s, g args s = .stuck ∨ ∃ v s', g args s = .ret v s' ∧ s.next ≤ s'.next ∧ (WF s → Kp s s'))
  (h2 : ∀ args args' s β w, Rel Tryz.prog β s w → LRel Tryz.prog β args.toList args'.toList → g args s ≠ .stuck → (g args s).free β s → Calls Tryz.prog k args' w (CallP Tryz.prog β s w (g args s))) (hI : TableS Tryz.prog I) : TableS Tryz.prog (fun f => match Nat.beq f k with
  | true => some g
  | false => I f) := by
 refine ⟨fun f h hh args s => ?_, fun f h hh args s hw => ?_, fun f h hh args args' s β w hrel ha hne hfree => ?_⟩
 ·cases hb : Nat.beq f k with
  | false => rw [hb] at hh; exact hI.next f h hh args s
  | true =>
   rw [hb] at hh
   cases hh
   rcases h1 args s with e | ⟨v, s', e, e2, _⟩
   ·rw [e]; trivial
   ·rw [e]; exact e2
 ·cases hb : Nat.beq f k with
  | false => rw [hb] at hh; exact hI.keeps f h hh args s hw
  | true =>
   rw [hb] at hh
   cases hh
   rcases h1 args s with e | ⟨v, s', e, _, e2⟩
   ·rw [e]; trivial
   ·rw [e]; exact e2 hw
 ·cases hb : Nat.beq f k with
  | false => rw [hb] at hh; exact hI.sound f h hh args args' s β w hrel ha hne hfree
  | true =>
   have hf := Nat.eq_of_beq_eq_true hb
   subst hf
   rw [hb] at hh
   cases hh
   exact h2 args args' s β w hrel ha hne hfree
theorem keysI_case (args : Array Value) (s : St) : keysI args s = .stuck ∨ ∃ v s', keysI args s = .ret v s' ∧ s.next ≤ s'.next ∧ (WF s → Kp s s') := by
 by_cases h : keysI args s = .stuck
 ·exact .inl h
 ·obtain ⟨r, _, hr, e⟩ := keysI_spec h
  exact .inr ⟨_, _, e, by simp, fun hw => Kp.new hw hr _⟩
theorem sortedI_case (args : Array Value) (s : St) : xa args s = .stuck ∨ ∃ v s', xa args s = .ret v s' ∧ s.next ≤ s'.next ∧ (WF s → Kp s s') := by
 by_cases h : xa args s = .stuck
 ·exact .inl h
 ·obtain ⟨b, bm, e, es, clock, ks, _, _, _, _, hr, e2⟩ := sortedI_spec h
  right
  rw [e2]
  split
  ·exact ⟨_, _, rfl, Nat.le_refl _, fun hw => Kp.refl hw⟩
  ·exact ⟨_, _, rfl, by simp, fun hw => Kp.new hw hr _⟩
noncomputable def lawO : zJ := fun f => match Nat.beq f 79 with
 | true => some xa
 | false => (fun f => match Nat.beq f 80 with
  | true => some keysI
  | false => lawT f) f
theorem lawO_ok : TableS Tryz.prog lawO :=
 table_add sortedI_case (fun _ _ _ _ _ h1 h2 h3 h4 => sorted_sound h1 h2 h3 h4) (table_add keysI_case (fun _ _ _ _ _ h1 h2 h3 h4 => keys_sound h1 h2 h3 h4) lawT_ok)
theorem lawO_else {f : FuncId} (h1 : f ≠ 79) (h2 : f ≠ 80) : lawO f = lawT f := by
 have hb : Nat.beq f 79 = false := by
  rw [Bool.eq_false_iff]
  intro h
  exact h1 (Nat.eq_of_beq_eq_true h)
 have hc : Nat.beq f 80 = false := by
  rw [Bool.eq_false_iff]
  intro h
  exact h2 (Nat.eq_of_beq_eq_true h)
 unfold lawO
 rw [hb]
 simp only [hc]
theorem lawO_plain : Plain lawO := fun f h1 h2 h3 h4 => by rw [lawO_else h3 h4]; exact lawT_plain f h1 h2 h3 h4
theorem lawO_keys : lawO 80 = some keysI := rfl
theorem lawO_sorted : lawO 79 = some xa := rfl
theorem lawO_least : LeastG lawO := leastG rfl
theorem lawO_lives : LivesC lawO := by
 intro s hf hr
 have hb : Nat.ble (s.next + 0) 281474976710655 = true := Nat.ble_eq_true_of_le (by unfold zh at hr; omega)
 refine ⟨.bool true, s, ⟨0, fun m _ => ?_⟩, rfl, hf.hl.up (by omega)⟩
 show tryAll [livesE] [] s = _
 simp only [tryAll, Entry.try, livesE, matchAs, matchH, yY, hb, Nat.beq_refl]
 rfl
theorem given_calls1 {β : Ren} {s s' : St} {W : World} {v v' : Value} {l : List Int} {f : FuncId} (g : Given β s W v v' l)
  (hr : yE Tryz.prog lawO f #[v] s (.bool true) s') :
  Calls Tryz.prog f #[v'] W fun | .returned x, w' => x = .bool true ∧ RowKit.Below W.heap.size W w' | _, _ => False := by
 obtain ⟨n, hn⟩ := hr
 have hn := hn n (Nat.le_refl _)
 have h := (call_ok hmixT lawO_ok n).2 f #[v] #[v'] s β W g.rel (.cons g.val .nil) (by rw [hn]; intro h; cases h)
  (by rw [hn]; intro x hx _; exact g.free x hx)
 rw [hn] at h
 refine h.mono fun e w' hp => ?_
 obtain ⟨β', v2, rfl, hext, hv⟩ := hp
 cases hv
 refine ⟨rfl, hext.os, hext.tape, hext.output, hext.size, fun k hk => hext.out k hk fun x m o hb hlt hmay => ?_⟩
 rw [g.shut x hlt] at hmay
 cases hmay
end Go.Proofs.YtdejleegamcioaaGreat
