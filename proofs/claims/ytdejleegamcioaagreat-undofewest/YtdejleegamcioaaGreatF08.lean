/- Code and calls of the abstract machine stand for the model's. -/
/- The abstract machine is sound. -/
/- A call that was run in a small state of its own stands for a call in any state that holds the small one. -/
/- A table of calls that were run once: what they return is laid into any state. -/
import Derived.Test.YtdejleegamcioaaGreatF07
import Derived.LoopN
namespace Go.M
structure TableS (P : Program) (I : yb) : Prop where
 next : ∀ f g, I f = some g → ∀ args s, (g args s).nextLe s
 keeps : ∀ f g, I f = some g → ∀ args s, WF s → (g args s).keeps s
 sound : ∀ f g, I f = some g → ∀ args args' s β w, Rel P β s w → LRel P β args.toList args'.toList → g args s ≠ .stuck → (g args s).free β s → Calls P f args' w (CallP P β s w (g args s))
def CodeS (P : Program) (code : Code → Fr → St → Out) : Prop :=
 ∀ c a a' s β w, qd c = true → Rel P β s w → FRel P β a a' → code c a s ≠ .stuck → (code c a s).free β s → c.wp P (OutP P β s w (code c a s)) a' w
theorem Out.next_trans {s s₁ : St} {r : Out} (h : s.next ≤ s₁.next) (hr : r.nextLe s₁) : r.nextLe s := by
 cases r <;> first | exact Nat.le_trans h hr | trivial
theorem drawOp_next {P : Program} {call : FuncId → Array Value → St → CallOut} (hc : ∀ f args s, (call f args s).nextLe s) (ops : List Oper) (d : Drawn) (o : Oper) (a : Fr) (s : St) : (yN P call ops d o a s).nextLe s := by
 unfold yN
 split
 ·split
  ·split
   ·split
    ·exact Nat.le_refl _
    ·trivial
   ·trivial
  ·have h1 := opM_next (P := P) hc o a { s with prot := yK ops a d.free ++ s.prot }
   split
   ·rename_i hr; rw [hr] at h1; exact h1
   ·rename_i hr; rw [hr] at h1; exact h1
   ·trivial
  ·have h1 := opM_next (P := P) hc o a { s with bar := s.next }
   split
   ·rename_i hr; rw [hr] at h1; exact h1
   ·trivial
 ·exact Nat.le_refl _
theorem drawM_next {P : Program} {call : FuncId → Array Value → St → CallOut} (hc : ∀ f args s, (call f args s).nextLe s) (ops : List Oper) : ∀ (l : List Drawn) (a : Fr) (s : St), (qQ P call ops l a s).nextLe s
 | [], a, s => Nat.le_refl _
 | d :: l, a, s => by
  unfold qQ
  split
  ·rename_i o _
   have h1 := drawOp_next (P := P) hc ops d o a s
   cases hr : yN P call ops d o a s with
   | normal a₁ s₁ =>
    rw [hr] at h1
    exact Out.next_trans h1 (drawM_next hc ops l a₁ s₁)
   | exit id a₁ s₁ => rw [hr] at h1; exact h1
   | ret a₁ s₁ => rw [hr] at h1; exact h1
   | panic c a₁ s₁ => rw [hr] at h1; exact h1
   | stuck => trivial
  ·trivial
section
variable {P : Program} {I : yb}
theorem callWith_next (hI : TableS P I) {code : Code → Fr → St → Out} (hn : ∀ c a s, (code c a s).nextLe s) (f : FuncId) (args : Array Value) (s : St) : (xi P I code f args s).nextLe s := by
 unfold xi
 split
 ·rename_i g hg; exact hI.next f g hg args s
 ·split
  ·split
   ·rename_i c _
    unfold bodyM
    split
    ·rename_i fn _ _ _ _ _
     have h1 := hn c (Fr.make args fn.ntmps) s
     split
     ·rename_i hr; rw [hr] at h1
      rename_i a₁ s₁ _
      unfold finish
      split <;> first | exact h1 | trivial
     ·rename_i hr; rw [hr] at h1
      unfold finish
      split <;> first | exact h1 | trivial
     ·rename_i hr; rw [hr] at h1; exact h1
     ·trivial
    ·trivial
   ·trivial
  ·trivial
theorem callWith_keeps (hI : TableS P I) {code : Code → Fr → St → Out} (hk : ∀ c a s, WF s → (code c a s).keeps s) (f : FuncId) (args : Array Value) (s : St) (h : WF s) : (xi P I code f args s).keeps s := by
 unfold xi
 split
 ·rename_i g hg; exact hI.keeps f g hg args s h
 ·split
  ·split
   ·rename_i c _
    unfold bodyM
    split
    ·rename_i fn _ _ _ _ _
     have h1 := hk c (Fr.make args fn.ntmps) s h
     split
     ·rename_i hr; rw [hr] at h1
      unfold finish
      split <;> first | exact h1 | trivial
     ·rename_i hr; rw [hr] at h1
      unfold finish
      split <;> first | exact h1 | trivial
     ·rename_i hr; rw [hr] at h1; exact h1
     ·trivial
    ·trivial
   ·trivial
  ·trivial
theorem qM (hI : TableS P I) : ∀ (n : Nat) (c : Code) (a : Fr) (s : St), (yh P I n c a s).nextLe s
 | 0, _, _, _ => trivial
 | n + 1, c, a, s => by
  have ih := qM hI n
  have hc := callWith_next hI ih
  unfold yh
  split
  ·exact Nat.le_refl _
  ·exact Nat.le_refl _
  ·rename_i x y
   have h1 := ih x a s
   cases hr : yh P I n x a s with
   | normal a₁ s₁ => rw [hr] at h1; exact Out.next_trans h1 (ih y a₁ s₁)
   | exit id a₁ s₁ => rw [hr] at h1; exact h1
   | ret a₁ s₁ => rw [hr] at h1; exact h1
   | panic c a₁ s₁ => rw [hr] at h1; exact h1
   | stuck => trivial
  ·split
   ·exact ih _ _ _
   ·exact ih _ _ _
   ·trivial
  ·rename_i id b
   have h1 := ih b a s
   cases hr : yh P I n b a s with
   | normal a₁ s₁ => rw [hr] at h1; exact h1
   | exit id' a₁ s₁ =>
    rw [hr] at h1
    simp only
    split <;> exact h1
   | ret a₁ s₁ => rw [hr] at h1; exact h1
   | panic c a₁ s₁ => rw [hr] at h1; exact h1
   | stuck => trivial
  ·rename_i b
   have h1 := ih b a s
   cases hr : yh P I n b a s with
   | normal a₁ s₁ => rw [hr] at h1; exact Out.next_trans h1 (ih _ a₁ s₁)
   | exit id a₁ s₁ => rw [hr] at h1; exact h1
   | ret a₁ s₁ => rw [hr] at h1; exact h1
   | panic c a₁ s₁ => rw [hr] at h1; exact h1
   | stuck => trivial
  ·exact Nat.le_refl _
  ·exact Nat.le_refl _
  ·split
   ·exact opsM_next hc _ _ _ _
   ·split
    ·exact drawM_next hc _ _ _ _
    ·trivial
  ·trivial
theorem codeM_keeps (hI : TableS P I) : ∀ (n : Nat) (c : Code) (a : Fr) (s : St), WF s → (yh P I n c a s).keeps s
 | 0, _, _, _, _ => trivial
 | n + 1, c, a, s, h => by
  have ih := codeM_keeps hI n
  have hc := callWith_keeps hI ih
  unfold yh
  split
  ·exact Kp.refl h
  ·exact Kp.refl h
  ·rename_i x y
   have h1 := ih x a s h
   cases hr : yh P I n x a s with
   | normal a₁ s₁ => rw [hr] at h1; have h1 : Kp s s₁ := h1; exact Out.keeps_trans h1 (ih y a₁ s₁ h1.wf)
   | exit id a₁ s₁ => rw [hr] at h1; exact h1
   | ret a₁ s₁ => rw [hr] at h1; exact h1
   | panic c a₁ s₁ => rw [hr] at h1; exact h1
   | stuck => trivial
  ·split
   ·exact ih _ _ _ h
   ·exact ih _ _ _ h
   ·trivial
  ·rename_i id b
   have h1 := ih b a s h
   cases hr : yh P I n b a s with
   | normal a₁ s₁ => rw [hr] at h1; exact h1
   | exit id' a₁ s₁ =>
    rw [hr] at h1
    simp only
    split <;> exact h1
   | ret a₁ s₁ => rw [hr] at h1; exact h1
   | panic c a₁ s₁ => rw [hr] at h1; exact h1
   | stuck => trivial
  ·rename_i b
   have h1 := ih b a s h
   cases hr : yh P I n b a s with
   | normal a₁ s₁ => rw [hr] at h1; have h1 : Kp s s₁ := h1; exact Out.keeps_trans h1 (ih _ a₁ s₁ h1.wf)
   | exit id a₁ s₁ => rw [hr] at h1; exact h1
   | ret a₁ s₁ => rw [hr] at h1; exact h1
   | panic c a₁ s₁ => rw [hr] at h1; exact h1
   | stuck => trivial
  ·exact Kp.refl h
  ·exact Kp.refl h
  ·split
   ·exact opsM_keeps hc _ _ _ _ h
   ·split
    ·exact drawM_keeps hc _ _ _ _ h
    ·trivial
  ·trivial
def resF (tmps : Array Value) : ResultVar → Sem Value
 | .tmp t => pure (tmps.getD t undef)
 | .cell b t => do loadVar t (← asAddr (tmps.getD b undef))
theorem results_eq (fn : Func) (tmps : Array Value) : results fn tmps = (fn.results.mapM (resF tmps) >>= fun vs => pure (if h : vs.size = 1 then vs[0] else .tuple vs)) := rfl
theorem results_sound {β : Ren} {s : St} {w : World} (h : Rel P β s w) {a : Fr} {a' : Act} (hf : FRel P β a a') : ∀ (rs : List ResultVar) (l : List Value), xu P a s rs = some l →
  ∃ l', (rs.mapM (resF a'.tmps)).run P w = .ok l' w ∧ LRel P β l l'
 | [], l, hl => by
  simp only [xu, Option.some.injEq] at hl
  subst hl
  exact ⟨[], rfl, .nil⟩
 | .tmp t :: rs, l, hl => by
  unfold xu at hl
  split at hl
  ·rename_i r hr
   cases hl
   obtain ⟨l', h1, h2⟩ := results_sound h hf rs r hr
   refine ⟨a'.tmps.getD t undef :: l', ?_, .cons (hf.get t) h2⟩
   rw [List.mapM_cons]
   simp only [resF, Sem.run_bind, Sem.run_pure, Result.andThen_ok, h1]
  ·cases hl
 | .cell b t :: rs, l, hl => by
  unfold xu at hl
  split at hl
  ·rename_i v r hv hr
   cases hl
   obtain ⟨l', h1, h2⟩ := results_sound h hf rs r hr
   obtain ⟨ad, v', g1, g2, g3⟩ := loadV_sound h (hf.get b) hv
   refine ⟨v' :: l', ?_, .cons g3 h2⟩
   rw [List.mapM_cons]
   have g0 : (asAddr (a'.tmps.getD b undef)).run P w = .ok ad w := by rw [g1]; rfl
   simp only [resF, Sem.run_bind, Sem.run_pure, Result.andThen_ok, g0, g2]
   rw [h1]
   rfl
  ·cases hl
theorem finish_sound {β : Ren} {s : St} {w : World} (h : Rel P β s w) {a : Fr} {a' : Act} (hf : FRel P β a a') {fn : Func} {v : Value} {s₁ : St} (hr : finish P fn a s = .ret v s₁) :
  s₁ = s ∧ ∃ v', (results fn a'.tmps).run P w = .ok v' w ∧ VRel P β v v' := by
 unfold finish at hr
 have key : ∀ l, xu P a s fn.results.toList = some l → ∃ l', (results fn a'.tmps).run P w = .ok (if h : (⟨l'⟩ : Array Value).size = 1 then (⟨l'⟩ : Array Value)[0] else .tuple ⟨l'⟩) w ∧ LRel P β l l' := fun l hl => by
  obtain ⟨l', h1, h2⟩ := results_sound h hf _ l hl
  refine ⟨l', ?_, h2⟩
  rw [results_eq, Array.mapM_eq_mapM_toList]
  simp only [Sem.run_bind, Sem.run_map, h1, Result.andThen_ok, Sem.run_pure]
 split at hr
 ·rename_i v₀ hl
  cases hr
  obtain ⟨l', h1, h2⟩ := key _ hl
  cases h2 with
  | cons hv h2 =>
   cases h2
   exact ⟨rfl, _, h1, hv⟩
 ·rename_i l hn hl
  cases hr
  obtain ⟨l', h1, h2⟩ := key _ hl
  refine ⟨rfl, .tuple ⟨l'⟩, ?_, .tuple h2⟩
  rw [h1]
  have : ¬ (⟨l'⟩ : Array Value).size = 1 := fun he => by
   have hlen : l'.length = 1 := he
   have := h2.length
   rw [hlen] at this
   obtain ⟨x, hx⟩ := List.length_eq_one_iff.1 this.symm
   exact hn x hx
  rw [dif_neg this]
 ·cases hr
theorem callWith_sound (hI : TableS P I) {code : Code → Fr → St → Out} (hnx : ∀ c a s, (code c a s).nextLe s) (hcode : CodeS P code) : CallS P (xi P I code) := by
 refine ⟨callWith_next hI hnx, fun f args args' s β w h ha hne hfree => ?_⟩
 unfold xi at hne hfree ⊢
 cases hg : I f with
 | some g =>
  rw [hg] at hne hfree
  exact hI.sound f g hg args args' s β w h ha hne hfree
 | none =>
  rw [hg] at hne hfree
  simp only at hne hfree ⊢
  cases hfn : P.funcs[f]? with
  | none => rw [hfn] at hne; exact (hne rfl).elim
  | some fn =>
   rw [hfn] at hne hfree
   simp only at hne hfree ⊢
   cases hb : fn.body with
   | none => rw [hb] at hne; exact (hne rfl).elim
   | some c =>
    rw [hb] at hne hfree
    simp only at hne hfree ⊢
    unfold bodyM at hne hfree ⊢
    cases hck : Nat.ble (xg args.toList 0) fn.ntmps && Nat.ble fn.ntmps 65534 && qd c with
    | false => rw [hck] at hne; exact (hne rfl).elim
    | true =>
     rw [hck] at hne hfree
     simp only at hne hfree ⊢
     simp only [Bool.and_eq_true, Nat.ble_eq, xw] at hck
     obtain ⟨⟨hl1, hl2⟩, hcb⟩ := hck
     have hfr := FRel.make (n := fn.ntmps) ha (by omega) hl2
     have hw := fun h1 h2 => hcode c (Fr.make args fn.ntmps) _ s β w hcb h hfr h1 h2
     refine calls_of_wp hfn hb ?_
     cases hr : code c (Fr.make args fn.ntmps) s with
     | stuck => rw [hr] at hne; exact (hne rfl).elim
     | exit id a₁ s₁ => rw [hr] at hne; exact (hne rfl).elim
     | panic ch a₁ s₁ =>
      rw [hr] at hfree hw
      simp only at hfree ⊢
      refine wp_mono (hw (by simp) hfree) fun e a₂ w₂ ho => ?_
      obtain ⟨ch', β', rfl, hx, hch, hd⟩ := ho
      exact ⟨hd, β', ch', rfl, hx, hch⟩
     | normal a₁ s₁ =>
      rw [hr] at hfree hw hne
      simp only at hfree hne ⊢
      cases hfin : finish P fn a₁ s₁ with
      | stuck => rw [hfin] at hne; exact (hne rfl).elim
      | panic c' s' =>
       exfalso
       unfold finish at hfin
       (repeat' split at hfin) <;> cases hfin
      | ret v s' =>
       rw [hfin] at hfree
       have e1 : s' = s₁ := by
        unfold finish at hfin
        (repeat' split at hfin) <;> cases hfin <;> rfl
       subst e1
       refine wp_mono (hw (by simp) hfree) fun e a₂ w₂ ho => ?_
       obtain ⟨rfl, β', hx, hf2⟩ := ho
       obtain ⟨_, v', g1, g2⟩ := finish_sound hx.rel hf2 hfin
       exact ⟨hf2.defers, v', g1, β', v', rfl, hx, g2⟩
     | ret a₁ s₁ =>
      rw [hr] at hfree hw hne
      simp only at hfree hne ⊢
      cases hfin : finish P fn a₁ s₁ with
      | stuck => rw [hfin] at hne; exact (hne rfl).elim
      | panic c' s' =>
       exfalso
       unfold finish at hfin
       (repeat' split at hfin) <;> cases hfin
      | ret v s' =>
       rw [hfin] at hfree
       have e1 : s' = s₁ := by
        unfold finish at hfin
        (repeat' split at hfin) <;> cases hfin <;> rfl
       subst e1
       refine wp_mono (hw (by simp) hfree) fun e a₂ w₂ ho => ?_
       obtain ⟨rfl, β', hx, hf2⟩ := ho
       obtain ⟨_, v', g1, g2⟩ := finish_sound hx.rel hf2 hfin
       exact ⟨hf2.defers, v', g1, β', v', rfl, hx, g2⟩
end
end Go.M
namespace Go.M
section
variable {P : Program} {I : yb}
theorem rounds_sound (hI : TableS P I) {b : Code} (hb : qd b = true) {n : Nat} (ih : ∀ m, m < n → CodeS P (yh P I m)) : ∀ m, m ≤ n → ∀ (a : Fr) (a' : Act) (s : St) (β : Ren) (w : World), Rel P β s w → FRel P β a a' →
  yh P I m (.loop b) a s ≠ .stuck → (yh P I m (.loop b) a s).free β s → ∀ Q : Exit → Act → World → Prop, (∀ e a₂ w₂, OutP P β s w (yh P I m (.loop b) a s) e a₂ w₂ → Q e a₂ w₂) → Code.rounds P b Q m a' w := by
 intro m
 induction m with
 | zero => intro _ a a' s β w _ _ hne; exact (hne rfl).elim
 | succ m ihm =>
  intro hm a a' s β w h hf hne hfree Q hQ
  have hn := qM hI m
  unfold yh at hne hfree hQ
  simp only at hne hfree hQ
  rw [rounds_succ]
  have hw := fun h1 h2 => ih m (by omega) b a a' s β w hb h hf h1 h2
  cases hr : yh P I m b a s with
  | stuck => rw [hr] at hne; exact (hne rfl).elim
  | normal a₁ s₁ =>
   rw [hr] at hne hfree hQ hw
   simp only at hne hfree hQ
   have hfr : Free β s s₁ := Out.free_of (hn _ _ _) hfree hne
   refine wp_mono (hw (by simp) hfr) fun e a₂ w₂ ho => ?_
   obtain ⟨rfl, β', hx, hf2⟩ := ho
   exact ihm (by omega) a₁ a₂ s₁ β' w₂ hx.rel hf2 hne (hx.outFree hfree) Q fun e a₃ w₃ ho => hQ e a₃ w₃ (ho.trans hx hfree)
  | exit id a₁ s₁ =>
   rw [hr] at hfree hQ hw
   refine wp_mono (hw (by simp) hfree) fun e a₂ w₂ ho => ?_
   have := ho.1
   subst this
   exact hQ _ _ _ ho
  | ret a₁ s₁ =>
   rw [hr] at hfree hQ hw
   refine wp_mono (hw (by simp) hfree) fun e a₂ w₂ ho => ?_
   have := ho.1
   subst this
   exact hQ _ _ _ ho
  | panic c a₁ s₁ =>
   rw [hr] at hfree hQ hw
   refine wp_mono (hw (by simp) hfree) fun e a₂ w₂ ho => ?_
   obtain ⟨c', β', rfl, hrest⟩ := ho
   exact hQ _ _ _ ⟨c', β', rfl, hrest⟩
theorem code_sound (hmix : P.follows .mixedOrders = true) (hI : TableS P I) : ∀ n, CodeS P (yh P I n) := by
 intro n
 induction n using Nat.strongRecOn with
 | _ n ih =>
  cases n with
  | zero => intro c a a' s β w _ _ _ hne; exact (hne rfl).elim
  | succ n =>
   intro c a a' s β w hcb h hf hne hfree
   have ihn := ih n (by omega)
   have hn := qM hI n
   have hcall := callWith_sound hI hn ihn
   have hkeep := callWith_keeps hI (codeM_keeps hI n)
   cases c with
   | skip =>
    unfold yh at hfree ⊢
    exact wp_skip ⟨rfl, β, Ext.refl h, hf⟩
   | label k =>
    unfold yh at hfree ⊢
    exact wp_label ⟨rfl, β, Ext.refl h, hf⟩
   | exit id =>
    unfold yh at hfree ⊢
    exact wp_exit ⟨rfl, β, Ext.refl h, hf⟩
   | ret =>
    unfold yh at hfree ⊢
    exact wp_ret ⟨rfl, β, Ext.refl h, hf⟩
   | seq x y =>
    simp only [qd, Bool.and_eq_true] at hcb
    unfold yh at hne hfree ⊢
    simp only at hne hfree ⊢
    refine wp_seq ?_
    have hw := fun h1 h2 => ihn x a a' s β w hcb.1 h hf h1 h2
    cases hr : yh P I n x a s with
    | stuck => rw [hr] at hne; exact (hne rfl).elim
    | normal a₁ s₁ =>
     rw [hr] at hne hfree hw
     simp only at hne hfree ⊢
     have hfr : Free β s s₁ := Out.free_of (hn y a₁ s₁) hfree hne
     refine wp_mono (hw (by simp) hfr) fun e a₂ w₂ ho => ?_
     obtain ⟨rfl, β', hx, hf2⟩ := ho
     exact wp_mono (ihn y a₁ a₂ s₁ β' w₂ hcb.2 hx.rel hf2 hne (hx.outFree hfree)) fun e a₃ w₃ ho => ho.trans hx hfree
    | exit id a₁ s₁ =>
     rw [hr] at hfree hw
     refine wp_mono (hw (by simp) hfree) fun e a₂ w₂ ho => ?_
     have := ho.1
     subst this
     exact ho
    | ret a₁ s₁ =>
     rw [hr] at hfree hw
     refine wp_mono (hw (by simp) hfree) fun e a₂ w₂ ho => ?_
     have := ho.1
     subst this
     exact ho
    | panic c a₁ s₁ =>
     rw [hr] at hfree hw
     refine wp_mono (hw (by simp) hfree) fun e a₂ w₂ ho => ?_
     obtain ⟨c', β', rfl, hrest⟩ := ho
     exact ⟨c', β', rfl, hrest⟩
   | cond c x y =>
    simp only [qd, Bool.and_eq_true] at hcb
    unfold yh at hne hfree ⊢
    simp only at hne hfree ⊢
    have hv := hf.eval hcb.1.1
    generalize hev : a.eval c = u at hv hne hfree ⊢
    split at hne
    ·simp only at hfree ⊢
     generalize hev' : a'.eval c = u' at hv
     cases hv
     exact wp_cond_true hev' (ihn x a a' s β w hcb.1.2 h hf hne hfree)
    ·simp only at hfree ⊢
     generalize hev' : a'.eval c = u' at hv
     cases hv
     exact wp_cond_false hev' (ihn y a a' s β w hcb.2 h hf hne hfree)
    ·exact (hne rfl).elim
   | block id b =>
    simp only [qd] at hcb
    unfold yh at hne hfree ⊢
    simp only at hne hfree ⊢
    refine wp_block ?_
    have hw := fun h1 h2 => ihn b a a' s β w hcb h hf h1 h2
    cases hr : yh P I n b a s with
    | stuck => rw [hr] at hne; exact (hne rfl).elim
    | normal a₁ s₁ =>
     rw [hr] at hfree hw
     refine wp_mono (hw (by simp) hfree) fun e a₂ w₂ ho => ?_
     have := ho.1
     subst this
     exact ho
    | exit id' a₁ s₁ =>
     rw [hr] at hfree hw
     simp only at hfree ⊢
     cases hid : Nat.beq id' id with
     | true =>
      rw [hid] at hfree
      simp only at hfree ⊢
      have hide := Nat.eq_of_beq_eq_true hid
      refine wp_mono (hw (by simp) hfree) fun e a₂ w₂ ho => ?_
      obtain ⟨rfl, hrest⟩ := ho
      simp only [Exit.inBlock, hide, if_true]
      exact ⟨rfl, hrest⟩
     | false =>
      rw [hid] at hfree
      simp only at hfree ⊢
      have hide : ¬ id' = id := fun e => by subst e; simp at hid
      refine wp_mono (hw (by simp) hfree) fun e a₂ w₂ ho => ?_
      obtain ⟨rfl, hrest⟩ := ho
      simp only [Exit.inBlock, hide, if_false]
      exact ⟨rfl, hrest⟩
    | ret a₁ s₁ =>
     rw [hr] at hfree hw
     refine wp_mono (hw (by simp) hfree) fun e a₂ w₂ ho => ?_
     have := ho.1
     subst this
     exact ho
    | panic c a₁ s₁ =>
     rw [hr] at hfree hw
     refine wp_mono (hw (by simp) hfree) fun e a₂ w₂ ho => ?_
     obtain ⟨c', β', rfl, hrest⟩ := ho
     exact ⟨c', β', rfl, hrest⟩
   | loop b =>
    simp only [qd] at hcb
    exact wp_loop_rounds (n + 1) (rounds_sound hI hcb (n := n + 1) ih (n + 1) (Nat.le_refl _) a a' s β w h hf hne hfree _ fun _ _ _ ho => ho)
   | region id ops draw =>
    simp only [qd] at hcb
    unfold yh at hne hfree ⊢
    simp only at hne hfree ⊢
    cases draw with
    | false =>
     simp only at hne hfree ⊢
     refine wp_region_list (ops_sound hcall ops ops.toList (fun o ho => ?_) a a' s β w h hf hne hfree _ fun _ _ _ ho => ho)
     rw [List.all_eq_true] at hcb
     exact hcb o ho
    | true =>
     simp only at hne hfree ⊢
     cases hpl : planB ops.toList (plan ops.toList) with
     | false => rw [hpl] at hne; exact (hne rfl).elim
     | true =>
      rw [hpl] at hne hfree
      simp only at hne hfree ⊢
      exact draw_sound hmix hcall hkeep hpl hcb h hf hne hfree
   | _ => exact (hne rfl).elim
theorem call_ok (hmix : P.follows .mixedOrders = true) (hI : TableS P I) (n : Nat) : CallS P (callM P I n) :=
 callWith_sound hI (qM hI n) (code_sound hmix hI n)
theorem xR : TableS P (fun _ => none) := ⟨fun _ _ h => (by cases h), fun _ _ h => (by cases h), fun _ _ h => (by cases h)⟩
#print axioms call_ok
end
end Go.M
namespace Go.M
mutual
inductive VMap (n : Nat) (ι : Nat → Nat) : Value → Value → Prop where
 | bool (b : Bool) : VMap n ι (.bool b) (.bool b)
 | int (k : IntKind) (i : Int) : VMap n ι (.int k i) (.int k i)
 | string (s : ByteArray) : VMap n ι (.string s) (.string s)
 | pnil : VMap n ι (.pointer none) (.pointer none)
 | ptr {b off : Nat} (h : b < n) : VMap n ι (.pointer (some ⟨b, off, none⟩)) (.pointer (some ⟨ι b, off, none⟩))
 | snil : VMap n ι (.slice none 0 0) (.slice none 0 0)
 | slice {b off len c : Nat} (h : b < n) : VMap n ι (.slice (some ⟨b, off, none⟩) len c) (.slice (some ⟨ι b, off, none⟩) len c)
 | agg {l l' : List Value} (h : LMap n ι l l') : VMap n ι (.agg ⟨l⟩) (.agg ⟨l'⟩)
 | tuple {l l' : List Value} (h : LMap n ι l l') : VMap n ι (.tuple ⟨l⟩) (.tuple ⟨l'⟩)
inductive LMap (n : Nat) (ι : Nat → Nat) : List Value → List Value → Prop where
 | nil : LMap n ι [] []
 | cons {v v' : Value} {l l' : List Value} (h : VMap n ι v v') (hl : LMap n ι l l') : LMap n ι (v :: l) (v' :: l')
end
section
variable {P : Program} {n : Nat} {ι : Nat → Nat} {β β₁ : Ren}
mutual
theorem VMap.pull (hb : ∀ b m, b < n → β (ι b) = some m → β₁ b = some m) : ∀ {v₁ v₀ v' : Value}, VMap n ι v₁ v₀ → VRel P β v₀ v' → VRel P β₁ v₁ v'
 | _, _, _, .bool b, h => by cases h; exact .bool b
 | _, _, _, .int k i, h => by cases h; exact .int k i
 | _, _, _, .string s, h => by cases h; exact .string s
 | _, _, _, .pnil, h => by cases h; exact .pnil
 | _, _, _, .ptr hl, h => by cases h with | ptr h => exact .ptr (hb _ _ hl h)
 | _, _, _, .snil, h => by cases h; exact .snil
 | _, _, _, .slice hl, h => by
  cases h with
  | sknown h => exact .sknown (hb _ _ hl h)
  | sgrown h hc hs => exact .sgrown (hb _ _ hl h) hc hs
  | sempty h hs => exact .sempty (hb _ _ hl h) hs
  | szero h => exact .szero (hb _ _ hl h)
 | _, _, _, .agg hl, h => by cases h with | agg h => exact .agg (hl.pull hb h)
 | _, _, _, .tuple hl, h => by cases h with | tuple h => exact .tuple (hl.pull hb h)
theorem LMap.pull (hb : ∀ b m, b < n → β (ι b) = some m → β₁ b = some m) : ∀ {v₁ v₀ v' : List Value}, LMap n ι v₁ v₀ → LRel P β v₀ v' → LRel P β₁ v₁ v'
 | _, _, _, .nil, h => by cases h; exact .nil
 | _, _, _, .cons h1 h2, h => by cases h with | cons h h' => exact .cons (h1.pull hb h) (h2.pull hb h')
end
mutual
theorem VMap.push (hb : ∀ b m, b < n → β₁ b = some m → β (ι b) = some m) : ∀ {v₁ v v' : Value}, VMap n ι v₁ v → VRel P β₁ v₁ v' → VRel P β v v'
 | _, _, _, .bool b, h => by cases h; exact .bool b
 | _, _, _, .int k i, h => by cases h; exact .int k i
 | _, _, _, .string s, h => by cases h; exact .string s
 | _, _, _, .pnil, h => by cases h; exact .pnil
 | _, _, _, .ptr hl, h => by cases h with | ptr h => exact .ptr (hb _ _ hl h)
 | _, _, _, .snil, h => by cases h; exact .snil
 | _, _, _, .slice hl, h => by
  cases h with
  | sknown h => exact .sknown (hb _ _ hl h)
  | sgrown h hc hs => exact .sgrown (hb _ _ hl h) hc hs
  | sempty h hs => exact .sempty (hb _ _ hl h) hs
  | szero h => exact .szero (hb _ _ hl h)
 | _, _, _, .agg hl, h => by cases h with | agg h => exact .agg (hl.push hb h)
 | _, _, _, .tuple hl, h => by cases h with | tuple h => exact .tuple (hl.push hb h)
theorem LMap.push (hb : ∀ b m, b < n → β₁ b = some m → β (ι b) = some m) : ∀ {v₁ v v' : List Value}, LMap n ι v₁ v → LRel P β₁ v₁ v' → LRel P β v v'
 | _, _, _, .nil, h => by cases h; exact .nil
 | _, _, _, .cons h1 h2, h => by cases h with | cons h h' => exact .cons (h1.push hb h) (h2.push hb h')
end
theorem LMap.get {l l' : List Value} (h : LMap n ι l l') {i : Nat} {v : Value} (hi : l[i]? = some v) : ∃ v', l'[i]? = some v' ∧ VMap n ι v v' := by
 induction l generalizing l' i with
 | nil => simp at hi
 | cons x l ih =>
  cases h with
  | cons h hl =>
   cases i with
   | zero => simp at hi; subst hi; exact ⟨_, by simp, h⟩
   | succ i => simp at hi; simpa using ih hl hi
theorem LMap.get' {l l' : List Value} (h : LMap n ι l l') {i : Nat} {v' : Value} (hi : l'[i]? = some v') : ∃ v, l[i]? = some v ∧ VMap n ι v v' := by
 induction l generalizing l' i with
 | nil => cases h; simp at hi
 | cons x l ih =>
  cases h with
  | cons h hl =>
   cases i with
   | zero => simp at hi; subst hi; exact ⟨_, by simp, h⟩
   | succ i => simp at hi; simpa using ih hl hi
def OMap (n : Nat) (ι : Nat → Nat) : MObj → MObj → Prop
 | .cells c e, .cells c' e' => LMap n ι c c' ∧ e' = e
 | _, _ => False
theorem LMap.len {n : Nat} {ι : Nat → Nat} {l l' : List Value} (h : LMap n ι l l') : l'.length = l.length := by
 induction l generalizing l' with
 | nil => cases h; rfl
 | cons v l ih => cases h with | cons _ hl => simp [ih hl]
theorem OMap.pull (hb : ∀ b m, b < n → β (ι b) = some m → β₁ b = some m) {m : Img} {o₁ o₀ : MObj} {o' : Obj} (h : OMap n ι o₁ o₀) (hr : ORel P β m o₀ o') : ORel P β₁ m o₁ o' := by
 cases o₁ with
 | map => exact h.elim
 | cells c e => cases o₀ with
  | map => exact h.elim
  | cells c' e' =>
   obtain ⟨hl, rfl⟩ := h
   cases hr with
   | cells he hsz hln hfz hc =>
    refine .cells he hsz (by rw [← hl.len]; exact hln) hfz fun i v hv => ?_
    obtain ⟨v₀, h1, h2⟩ := hl.get hv
    obtain ⟨v', h3, h4⟩ := hc i v₀ h1
    exact ⟨v', h3, h2.pull hb h4⟩
theorem OMap.push (hb : ∀ b m, b < n → β₁ b = some m → β (ι b) = some m) {m : Img} {o₁ o : MObj} {o' : Obj} (h : OMap n ι o₁ o) (hr : ORel P β₁ m o₁ o') : ORel P β m o o' := by
 cases o₁ with
 | map => exact h.elim
 | cells c e => cases o with
  | map => exact h.elim
  | cells c' e' =>
   obtain ⟨hl, rfl⟩ := h
   cases hr with
   | cells he hsz hln hfz hc =>
    refine .cells he hsz (by rw [hl.len]; exact hln) hfz fun i v hv => ?_
    obtain ⟨v₁, h1, h2⟩ := hl.get' hv
    obtain ⟨v', h3, h4⟩ := hc i v₁ h1
    exact ⟨v', h3, h2.push hb h4⟩
structure Lies (s₀ s : St) (ι : Nat → Nat) : Prop where
 lt : ∀ b, b < s₀.next → ι b < s.next
 inj : ∀ b b', b < s₀.next → b' < s₀.next → ι b = ι b' → b = b'
 obj : ∀ b o, b < s₀.next → s₀.get b = some o → ∃ o', s.get (ι b) = some o' ∧ OMap s₀.next ι o o'
structure Told (k : Nat) (t₀ : St) (v₀ : Value) (τ : Nat → Nat) (j : Nat) (v₁ : Value) (objs : Nat → MObj) : Prop where
 lo : ∀ b, b < k → τ b = b
 hi : ∀ b, k ≤ b → b < k + j → k ≤ τ b ∧ τ b < t₀.next
 inj : ∀ b b', k ≤ b → b < k + j → k ≤ b' → b' < k + j → τ b = τ b' → b = b'
 val : VMap (k + j) τ v₁ v₀
 obj : ∀ b, k ≤ b → b < k + j → ∃ o, t₀.get (τ b) = some o ∧ OMap (k + j) τ (objs b) o
structure Laid (k : Nat) (s t : St) (ι : Nat → Nat) (j : Nat) (v₁ : Value) (objs : Nat → MObj) (v : Value) : Prop where
 next : t.next = s.next + j
 bar : t.bar = s.bar
 prot : t.prot = s.prot
 room : t.next ≤ 281474976710655
 old : ∀ b, b < s.next → t.get b = s.get b
 top : ∀ b, t.next ≤ b → t.get b = none
 val : VMap (k + j) (fun b => if b < k then ι b else s.next + (b - k)) v₁ v
 obj : ∀ b o, k ≤ b → b < k + j → t.get (s.next + (b - k)) = some o → OMap (k + j) (fun b => if b < k then ι b else s.next + (b - k)) (objs b) o
theorem transplant {call : FuncId → Array Value → St → CallOut} (hc : CallS P call) {f : FuncId} {args₀ args : Array Value} {s₀ t₀ s t : St} {v₀ v₁ v : Value} {ι τ : Nat → Nat} {j : Nat} {objs : Nat → MObj}
  (h0 : call f args₀ s₀ = .ret v₀ t₀) (hbar : s₀.bar = s₀.next) (hwf : WF s₀) (hl : Lies s₀ s ι) (ha : LMap s₀.next ι args₀.toList args.toList)
  (ht : Told s₀.next t₀ v₀ τ j v₁ objs) (hd : Laid s₀.next s t ι j v₁ objs v)
  {args' : Array Value} {β : Ren} {w : World} (h : Rel P β s w) (hargs : LRel P β args.toList args'.toList) (hfree : Free β s t) :
  Calls P f args' w (CallP P β s w (.ret v t)) := by
 let β₀ : Ren := fun b => if b < s₀.next then β (ι b) else none
 have hβ₀ : ∀ b, b < s₀.next → β₀ b = β (ι b) := fun b hb => by simp [β₀, hb]
 have hβ₀n : ∀ b, s₀.next ≤ b → β₀ b = none := fun b hb => by simp [β₀]; omega
 have hpull : ∀ b m, b < s₀.next → β (ι b) = some m → β₀ b = some m := fun b m hb e => by rw [hβ₀ b hb]; exact e
 have hmay : ∀ b, b < s₀.next → s₀.may b = false := fun b hb => by simp [St.may, hbar]; omega
 have hrel0 : Rel P β₀ s₀ w := {
  img := fun b m hb hlt => h.img (ι b) m (by rw [hβ₀ b hlt] at hb; exact hb) (hl.lt b hlt)
  obj := fun b m o hb hlt hg => by
   rw [hβ₀ b hlt] at hb
   obtain ⟨o', h1, h2⟩ := hl.obj b o hlt hg
   obtain ⟨o'', h3, h4⟩ := h.obj (ι b) m o' hb (hl.lt b hlt) h1
   exact ⟨o'', h3, h2.pull hpull h4⟩
  inj := fun b b' m m' o o' hb hb' hlt hlt' hg hg' he => by
   rw [hβ₀ b hlt] at hb
   rw [hβ₀ b' hlt'] at hb'
   obtain ⟨q, h1, _⟩ := hl.obj b o hlt hg
   obtain ⟨q', h2, _⟩ := hl.obj b' o' hlt' hg'
   exact hl.inj b b' hlt hlt' (h.inj _ _ m m' q q' hb hb' (hl.lt b hlt) (hl.lt b' hlt') h1 h2 he)
  room := hwf.room
  top := hwf.top }
 have hcall := hc.2 f args₀ args' s₀ β₀ w hrel0 (ha.pull hpull hargs) (by rw [h0]; simp) (by rw [h0]; exact fun b hb _ => hβ₀n b hb)
 rw [h0] at hcall
 refine hcall.mono fun e w' hp => ?_
 obtain ⟨β₀', v', rfl, hext, hv⟩ := hp
 have hold0 : ∀ b, b < s₀.next → β₀' b = β₀ b := fun b hb => by
  cases hq : β₀ b with
  | some m => exact hext.le b m hq
  | none => cases hq' : β₀' b with
   | none => rfl
   | some m => have := hext.dom b m hq' hq; omega
 have hheap : ∀ r, r < w.heap.size → w'.heap[r]? = w.heap[r]? := fun r hr => hext.out r hr fun b m o _ hlt hm _ => by rw [hmay b hlt] at hm; cases hm
 have hfresh : ∀ b m, s₀.next ≤ b → β₀' b = some m → w.heap.size ≤ m.blk := fun b m hb hq => by
  rcases hext.fresh b m hq (hβ₀n b hb) with hf | ⟨b₀, _, _, _, hlt, hm, _⟩
  ·exact hf
  ·rw [hmay b₀ hlt] at hm; cases hm
 -- the renaming for the told result
 let β₁ : Ren := fun b => if b < s₀.next + j then β₀' (τ b) else none
 have hβ₁ : ∀ b, b < s₀.next + j → β₁ b = β₀' (τ b) := fun b hb => by simp [β₁, hb]
 let β' : Ren := fun b => if s.next ≤ b ∧ b < t.next then β₀' (τ (s₀.next + (b - s.next))) else β b
 have hβo : ∀ b, ¬ (s.next ≤ b ∧ b < t.next) → β' b = β b := fun b hb => by simp only [β']; rw [if_neg hb]
 have hβn : ∀ b, s.next ≤ b → b < t.next → β' b = β₀' (τ (s₀.next + (b - s.next))) := fun b h1 h2 => by simp only [β']; rw [if_pos ⟨h1, h2⟩]
 have hle : β.le β' := fun b m hb => by
  by_cases hin : s.next ≤ b ∧ b < t.next
  ·rw [hfree b hin.1 hin.2] at hb; cases hb
  ·rw [hβo b hin]; exact hb
 have hpush : ∀ b m, b < s₀.next + j → β₁ b = some m → β' (if b < s₀.next then ι b else s.next + (b - s₀.next)) = some m := fun b m hb hm => by
  rw [hβ₁ b hb] at hm
  by_cases hlt : b < s₀.next
  ·rw [if_pos hlt, hβo _ (fun hh => by have := hl.lt b hlt; omega), ← hβ₀ b hlt, ← hold0 b hlt]
   rw [ht.lo b hlt] at hm; exact hm
  ·rw [if_neg hlt, hβn _ (by omega) (by rw [hd.next]; omega)]
   have e : s₀.next + (s.next + (b - s₀.next) - s.next) = b := by omega
   rw [e]; exact hm
 have hpull1 : ∀ b m, b < s₀.next + j → β₀' (τ b) = some m → β₁ b = some m := fun b m hb hm => by rw [hβ₁ b hb]; exact hm
 refine ⟨β', v', rfl, ?_, ?_⟩
 ·exact {
   rel := {
    img := fun b m hb hlt => by
     by_cases hin : s.next ≤ b ∧ b < t.next
     ·rw [hβn b hin.1 hin.2] at hb
      have hi := ht.hi (s₀.next + (b - s.next)) (by omega) (by have := hd.next; omega)
      exact hext.rel.img _ m hb hi.2
     ·rw [hβo b hin] at hb
      exact Nat.lt_of_lt_of_le (h.img b m hb (by omega)) hext.size
    obj := fun b m o hb hlt hg => by
     by_cases hin : s.next ≤ b ∧ b < t.next
     ·rw [hβn b hin.1 hin.2] at hb
      have hk : s₀.next + (b - s.next) < s₀.next + j := by have := hd.next; omega
      have hi := ht.hi (s₀.next + (b - s.next)) (by omega) hk
      obtain ⟨o₀, h1, h2⟩ := ht.obj (s₀.next + (b - s.next)) (by omega) hk
      obtain ⟨o', h3, h4⟩ := hext.rel.obj _ m o₀ hb hi.2 h1
      have e : s.next + (s₀.next + (b - s.next) - s₀.next) = b := by omega
      have h5 := hd.obj (s₀.next + (b - s.next)) o (by omega) hk (by rw [e]; exact hg)
      exact ⟨o', h3, h5.push hpush (h2.pull hpull1 h4)⟩
     ·rw [hβo b hin] at hb
      have hlt' : b < s.next := by omega
      rw [hd.old b hlt'] at hg
      obtain ⟨o', h1, h2⟩ := h.obj b m o hb hlt' hg
      exact ⟨o', by rw [hheap _ (h.img b m hb hlt')]; exact h1, h2.mono hle⟩
    inj := fun b b' m m' o o' hb hb' hlt hlt' hg hg' he => by
     by_cases hin : s.next ≤ b ∧ b < t.next
     ·rw [hβn b hin.1 hin.2] at hb
      have hk : s₀.next + (b - s.next) < s₀.next + j := by have := hd.next; omega
      have hi := ht.hi (s₀.next + (b - s.next)) (by omega) hk
      obtain ⟨o₀, h1, _⟩ := ht.obj (s₀.next + (b - s.next)) (by omega) hk
      by_cases hin' : s.next ≤ b' ∧ b' < t.next
      ·rw [hβn b' hin'.1 hin'.2] at hb'
       have hk' : s₀.next + (b' - s.next) < s₀.next + j := by have := hd.next; omega
       have hi' := ht.hi (s₀.next + (b' - s.next)) (by omega) hk'
       obtain ⟨o₀', h1', _⟩ := ht.obj (s₀.next + (b' - s.next)) (by omega) hk'
       have e1 := hext.rel.inj _ _ m m' o₀ o₀' hb hb' hi.2 hi'.2 h1 h1' he
       have e2 := ht.inj _ _ (by omega) hk (by omega) hk' e1
       omega
      ·rw [hβo b' hin'] at hb'
       have h2 := h.img b' m' hb' (by omega)
       have h3 := hfresh _ m hi.1 hb
       omega
     ·rw [hβo b hin] at hb
      have h2 := h.img b m hb (by omega)
      by_cases hin' : s.next ≤ b' ∧ b' < t.next
      ·rw [hβn b' hin'.1 hin'.2] at hb'
       have hk' : s₀.next + (b' - s.next) < s₀.next + j := by have := hd.next; omega
       have hi' := ht.hi (s₀.next + (b' - s.next)) (by omega) hk'
       have h3 := hfresh _ m' hi'.1 hb'
       omega
      ·rw [hβo b' hin'] at hb'
       rw [hd.old b (by omega)] at hg
       rw [hd.old b' (by omega)] at hg'
       exact h.inj b b' m m' o o' hb hb' (by omega) (by omega) hg hg' he
    room := hd.room
    top := hd.top }
   le := hle
   dom := fun b m hb hn => by
    by_cases hin : s.next ≤ b ∧ b < t.next
    ·exact hin
    ·rw [hβo b hin, hn] at hb; cases hb
   next := by rw [hd.next]; omega
   bar := hd.bar
   prot := hd.prot
   size := hext.size
   out := fun r hr _ => hheap r hr
   same := fun b hb _ => hd.old b hb
   dead := fun b hb hg => by rw [hd.old b hb]; exact hg
   fresh := fun b m hb hn => by
    by_cases hin : s.next ≤ b ∧ b < t.next
    ·rw [hβn b hin.1 hin.2] at hb
     have hi := ht.hi (s₀.next + (b - s.next)) (by omega) (by have := hd.next; omega)
     exact .inl (hfresh _ m hi.1 hb)
    ·rw [hβo b hin, hn] at hb; cases hb
   os := hext.os
   output := hext.output
   tape := hext.tape }
 ·exact hd.val.push hpush (ht.val.pull hpull1 hv)
end
#print axioms transplant
end Go.M
namespace Go.M
def bindB (ι : List Nat) (b b' : Nat) : Option (List Nat) :=
 match yA ι b with
 | some c => match Nat.beq c b' with
  | true => some ι
  | false => none
 | none => match Nat.beq b (xg ι 0), ι.any (Nat.beq b') with
  | true, false => some (ι ++ [b'])
  | _, _ => none
def ifB {α : Type} (b : Bool) (x : Option α) : Option α :=
 match b with
 | true => x
 | false => none
def matchP (ι : List Nat) (x y : Value) : Option (List Nat) :=
 match x, y with
 | .bool a, .bool b => ifB (a == b) (some ι)
 | .int k a, .int k' b => ifB (decide (k = k')) (ifB (ieq a b) (some ι))
 | .pointer none, .pointer none => some ι
 | .pointer (some ⟨b, off, none⟩), .pointer (some ⟨b', off', none⟩) => ifB (Nat.beq off off') (bindB ι b b')
 | .slice none n c, .slice none n' c' => ifB (Nat.beq n 0 && Nat.beq n' 0 && Nat.beq c 0 && Nat.beq c' 0) (some ι)
 | .slice (some ⟨b, off, none⟩) n c, .slice (some ⟨b', off', none⟩) n' c' => ifB (Nat.beq off off' && Nat.beq n n' && Nat.beq c c') (bindB ι b b')
 | _, _ => none
def matchPs : List Nat → List Value → List Value → Option (List Nat)
 | ι, [], [] => some ι
 | ι, x :: l, y :: m => match matchP ι x y with
  | some ι => matchPs ι l m
  | none => none
 | _, _, _ => none
def matchA (ι : List Nat) (x y : Value) : Option (List Nat) :=
 match x, y with
 | .agg ⟨l⟩, .agg ⟨m⟩ => matchPs ι l m
 | x, y => matchP ι x y
def matchAs : List Nat → List Value → List Value → Option (List Nat)
 | ι, [], [] => some ι
 | ι, x :: l, y :: m => match matchA ι x y with
  | some ι => matchAs ι l m
  | none => none
 | _, _, _ => none
def matchV (ι : List Nat) (x y : Value) : Option (List Nat) :=
 match x, y with
 | .tuple ⟨l⟩, .tuple ⟨m⟩ => matchAs ι l m
 | x, y => matchA ι x y
abbrev Hp := List (List Value × TypeId)
def matchH (s : St) : Hp → Nat → List Nat → Option (List Nat)
 | [], _, ι => some ι
 | (c, e) :: h, i, ι => match yA ι i with
  | some b => match s.get b with
   | some (.cells c' e') => match Nat.beq e e' with
    | true => match matchPs ι c c' with
     | some ι => matchH s h (i + 1) ι
     | none => none
    | false => none
   | _ => none
  | none => none
def mapP (κ : Nat → Nat) (x : Value) : Value :=
 match x with
 | .pointer (some ⟨b, off, none⟩) => .pointer (some ⟨κ b, off, none⟩)
 | .slice (some ⟨b, off, none⟩) n c => .slice (some ⟨κ b, off, none⟩) n c
 | x => x
def mapA (κ : Nat → Nat) (x : Value) : Value :=
 match x with
 | .agg ⟨l⟩ => .agg ⟨xM (mapP κ) l⟩
 | x => mapP κ x
def mapV (κ : Nat → Nat) (x : Value) : Value :=
 match x with
 | .tuple ⟨l⟩ => .tuple ⟨xM (mapA κ) l⟩
 | x => mapA κ x
def layH (κ : Nat → Nat) : Hp → St → St
 | [], s => s
 | (c, e) :: h, s => layH κ h (s.new (.cells (xM (mapP κ) c) e))
def atL (ι : List Nat) (b : Nat) : Nat := match yA ι b with
 | some c => c
 | none => 0
def laidAt (k n : Nat) (ι : List Nat) (b : Nat) : Nat := match Nat.blt b k with
 | true => atL ι b
 | false => n + (b - k)
structure Entry where
 args : List Value
 heap : Hp
 v : Value
 objs : Hp
def fillH : Hp → Nat → Tr MObj → Tr MObj
 | [], _, t => t
 | (c, e) :: h, n, t => fillH h (n + 1) (t.put depth n (some (.cells c e)))
def Entry.state (e : Entry) : St := { next := e.heap.length, bar := e.heap.length, prot := [], heap := fillH e.heap 0 .nil }
def Entry.try (e : Entry) (args : List Value) (s : St) : Option CallOut :=
 match matchAs [] e.args args with
 | some ι => match matchH s e.heap 0 ι with
  | some ι => match Nat.beq (xg ι 0) (xg e.heap 0), Nat.ble (s.next + xg e.objs 0) 281474976710655 with
   | true, true => some (.ret (mapV (laidAt (xg e.heap 0) s.next ι) e.v) (layH (laidAt (xg e.heap 0) s.next ι) e.objs s))
   | _, _ => none
  | none => none
 | none => none
def tryAll : List Entry → List Value → St → CallOut
 | [], _, _ => .stuck
 | e :: l, args, s => match e.try args s with
  | some r => r
  | none => tryAll l args s
abbrev Memo := Tr (List Entry)
def memo (T : Memo) : yb := fun f => match T.get f with
 | some l => some fun args s => tryAll l args.toList s
 | none => none
def idL : Nat → List Nat → List Nat
 | 0, l => l
 | n + 1, l => idL n (n :: l)
def Entry.check (P : Program) (I : yb) (n : Nat) (f : FuncId) (e : Entry) : Bool :=
 match Nat.ble (xg e.heap 0) 65536, callM P I n f ⟨e.args⟩ e.state with
 | true, .ret v t => match matchV (idL (xg e.heap 0) []) e.v v with
  | some τ => match matchH t e.objs (xg e.heap 0) τ with
   | some τ => Nat.beq (xg τ 0) (xg e.heap 0 + xg e.objs 0)
   | none => false
  | none => false
 | _, _ => false
end Go.M
