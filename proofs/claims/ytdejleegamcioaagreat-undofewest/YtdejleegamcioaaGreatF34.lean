/- undo.Least as a function of this machine: it stands for the program's. -/
/- The tables: undo.Least and the section's examples. -/
import Derived.Test.YtdejleegamcioaaGreatF33
import Derived.Test.YtdejleegamcioaaGreatF13
import Derived.Test.YtdejleegamcioaaGreatF30
namespace Go.Proofs.YtdejleegamcioaaGreat
open Go Go.M
def longB : Nat → Code → Bool
 | 0, _ => true
 | n + 1, .seq _ y => longB n y
 | _ + 1, _ => false
section
variable {P : Program} {I : yb}
theorem split_sound (hmix : P.follows .mixedOrders = true) (hI : TableS P I) {Q : Exit → Act → World → Prop} : ∀ (k : Nat) (c : Code) (n : Nat) (a : Fr) (a' : Act) (s : St) (β : Go.M.Ren) (w : World), longB (k + 1) c = true → qd (takeS (k + 1) c) = true → Rel P β s w → FRel P β a a' →
  yh P I n (takeS (k + 1) c) a s ≠ .stuck → (yh P I n (takeS (k + 1) c) a s).free β s → (∀ e a₂ w₂, OutP P β s w (yh P I n (takeS (k + 1) c) a s) e a₂ w₂ → Exit.then ((dropS (k + 1) c).wp P Q) Q e a₂ w₂) → c.wp P Q a' w := by
 intro k
 induction k with
 | zero =>
  intro c n a a' s β w hl hb h hf hne hfree hQ
  cases c with
  | seq x y => exact wp_seq (wp_mono (code_sound hmix hI n x a a' s β w hb h hf hne hfree) hQ)
  | _ => cases hl
 | succ k ih =>
  intro c n a a' s β w hl hb h hf hne hfree hQ
  cases c with
  | seq x y =>
   have hl2 : longB (k + 1) y = true := hl
   have hb2 : (qd x && qd (takeS (k + 1) y)) = true := hb
   rw [Bool.and_eq_true] at hb2
   have hdrop : dropS (k + 1 + 1) (.seq x y) = dropS (k + 1) y := rfl
   rw [hdrop] at hQ
   have htake : takeS (k + 1 + 1) (.seq x y) = .seq x (takeS (k + 1) y) := rfl
   rw [htake] at hne hfree hQ
   cases n with
   | zero => exact (hne rfl).elim
   | succ n =>
    have hn := qM hI n
    unfold yh at hne hfree hQ
    simp only at hne hfree hQ
    refine wp_seq ?_
    have hw := fun h1 h2 => code_sound hmix hI n x a a' s β w hb2.1 h hf h1 h2
    cases hr : yh P I n x a s with
    | stuck => rw [hr] at hne; exact (hne rfl).elim
    | normal a₁ s₁ =>
     rw [hr] at hne hfree hw hQ
     simp only at hne hfree hQ
     have hfr : Free β s s₁ := Out.free_of (hn _ a₁ s₁) hfree hne
     refine wp_mono (hw (by simp) hfr) fun e a₂ w₂ ho => ?_
     obtain ⟨rfl, β', hx, hf2⟩ := ho
     exact ih y n a₁ a₂ s₁ β' w₂ hl2 hb2.2 hx.rel hf2 hne (hx.outFree hfree) fun e a₃ w₃ ho => hQ e a₃ w₃ (ho.trans hx hfree)
    | exit id a₁ s₁ =>
     rw [hr] at hfree hw hQ
     refine wp_mono (hw (by simp) hfree) fun e a₂ w₂ ho => ?_
     have h1 := hQ e a₂ w₂ ho
     have := ho.1
     subst this
     exact h1
    | ret a₁ s₁ =>
     rw [hr] at hfree hw hQ
     refine wp_mono (hw (by simp) hfree) fun e a₂ w₂ ho => ?_
     have h1 := hQ e a₂ w₂ ho
     have := ho.1
     subst this
     exact h1
    | panic ch a₁ s₁ =>
     rw [hr] at hfree hw hQ
     refine wp_mono (hw (by simp) hfree) fun e a₂ w₂ ho => ?_
     have h1 := hQ e a₂ w₂ ho
     obtain ⟨c', β', rfl, hrest⟩ := ho
     exact h1
  | _ => cases hl
end
theorem long8 : longB 8 xt = true := by kernel_rfl
theorem preB : qd y6 = true := by kernel_rfl
theorem tailB : qd leastTail = true := by kernel_rfl
def Zt (t : Nat) : Bool := Zs t || Nat.ble 78 t
theorem tailZt : codeZ Zt leastTail = true := by kernel_rfl
theorem body12 : Tryz.f12.body = some xt := by kernel_rfl
theorem preZ : codeZ (fun _ => false) y6 = true := by kernel_rfl
theorem finish_state {a : Fr} {s s' : St} {v : Value} (h : finish Tryz.prog Tryz.f12 a s = .ret v s') : s' = s := by
 unfold finish at h
 (repeat' split at h) <;> cases h <;> rfl
theorem finish_off {a a2 : Fr} {s : St} (h : MOff Zt 78 a a2) : finish Tryz.prog Tryz.f12 a2 s = finish Tryz.prog Tryz.f12 a s := by
 have key : ∀ l : List ResultVar, (l.all fun | .tmp t => !Zt t | .cell b _ => !Zt b) = true → xu Tryz.prog a2 s l = xu Tryz.prog a s l := by
  intro l
  induction l with
  | nil => intro _; rfl
  | cons x l ih =>
   intro hl
   simp only [List.all_cons, Bool.and_eq_true] at hl
   cases x with
   | tmp t =>
    have := h.get t (by simpa using hl.1)
    simp only [xu, ih hl.2, this]
   | cell b t =>
    have := h.get b (by simpa using hl.1)
    simp only [xu, ih hl.2, this]
 unfold finish
 rw [key _ (by kernel_rfl)]
set_option maxHeartbeats 1000000 in
theorem least_sound {n : Nat} {args args' : Array Value} {s s' : St} {β : Go.M.Ren} {w : World} {v : Value} (hrel : Rel Tryz.prog β s w) (ha : LRel Tryz.prog β args.toList args'.toList) (hr : qZ n args s = .ret v s') (hfree : Free β s s') :
  Calls Tryz.prog 12 args' w (CallP Tryz.prog β s w (.ret v s')) := by
 unfold qZ at hr
 have h4 : args.toList.length = 4 := by
  cases hb : Nat.beq (xg args.toList 0) 4 with
  | false => rw [hb] at hr; cases hr
  | true => have := Nat.eq_of_beq_eq_true hb; rw [xw] at this; omega
 have hb : Nat.beq (xg args.toList 0) 4 = true := by rw [xw, h4]; rfl
 rw [hb] at hr
 simp only at hr
 have hfr := FRel.make (n := 78) ha (by omega) (by decide)
 refine calls_of_wp Tryz.func12 body12 ?_
 have hend : ∀ (β3 : Go.M.Ren) (a4 : Fr) (a3' : Act) (w3 : World) (s3 : St), Ext Tryz.prog β s w β3 s3 w3 → FRel Tryz.prog β3 a4 a3' → finish Tryz.prog Tryz.f12 a4 s3 = .ret v s' →
   a3'.defers = [] ∧ ∃ v', (results Tryz.f12 a3'.tmps).run Tryz.prog w3 = .ok v' w3 ∧ CallP Tryz.prog β s w (.ret v s') (.returned v') w3 := by
  intro β3 a4 a3' w3 s3 hx hf hfin
  obtain ⟨rfl, v', g1, g2⟩ := finish_sound hx.rel hf hfin
  exact ⟨hf.defers, v', g1, β3, v', rfl, hx, g2⟩
 have htail : ∀ (a₁ a : Fr) (a'' : Act) (s2 s3 : St) (a3 : Fr) (β2 : Go.M.Ren) (w2 : World), Ext Tryz.prog β s w β2 s2 w2 → FRel Tryz.prog β2 a a'' → a₁.size = 78 → a.size = 78 → (∀ t, t < 78 → Zs t = false → a.get t = a₁.get t) →
   (yh Tryz.prog yG n leastTail a₁ s2 = .ret a3 s3 ∨ yh Tryz.prog yG n leastTail a₁ s2 = .normal a3 s3) → finish Tryz.prog Tryz.f12 a3 s3 = .ret v s' →
   leastTail.wp Tryz.prog (bodyPost Tryz.prog Tryz.f12 (CallP Tryz.prog β s w (.ret v s'))) a'' w2 := by
  intro a₁ a a'' s2 s3 a3 β2 w2 hx hf h1 h2 hsame hrun hfin
  have hss := finish_state hfin
  subst hss
  have hoff : MOff Zt 78 a₁ a := ⟨h1, h2, by decide, fun t ht => by
   unfold Zt at ht
   rw [Bool.or_eq_false_iff] at ht
   have h3 : t < 78 := by
    have := ht.2
    rw [Bool.eq_false_iff, Ne, Nat.ble_eq] at this
    omega
   exact (hsame t h3 ht.1).symm⟩
  have hm := code_m (P := Tryz.prog) (I := yG) n leastTail a₁ a s2 tailZt hoff
  have hw := code_sound hmixT (xR (P := Tryz.prog)) n leastTail a a'' s2 β2 w2 tailB hx.rel hf
  rcases hrun with hrun | hrun
  ·rw [hrun] at hm
   cases hc : yh Tryz.prog yG n leastTail a s2 with
   | ret a4 s4 =>
    rw [hc] at hm
    obtain ⟨rfl, h5⟩ := hm
    have hc2 : yh Tryz.prog (fun _ => none) n leastTail a s2 = .ret a4 s4 := hc
    rw [hc2] at hw
    refine wp_mono (hw (by simp) (hx.freeOf hfree)) fun e a5 w5 ho => ?_
    obtain ⟨rfl, β5, hx5, hf5⟩ := ho
    exact hend β5 a4 a5 w5 s4 (hx.trans hx5 hfree) hf5 (by rw [finish_off h5]; exact hfin)
   | _ => rw [hc] at hm; exact hm.elim
  ·rw [hrun] at hm
   cases hc : yh Tryz.prog yG n leastTail a s2 with
   | normal a4 s4 =>
    rw [hc] at hm
    obtain ⟨rfl, h5⟩ := hm
    have hc2 : yh Tryz.prog (fun _ => none) n leastTail a s2 = .normal a4 s4 := hc
    rw [hc2] at hw
    refine wp_mono (hw (by simp) (hx.freeOf hfree)) fun e a5 w5 ho => ?_
    obtain ⟨rfl, β5, hx5, hf5⟩ := ho
    exact hend β5 a4 a5 w5 s4 (hx.trans hx5 hfree) hf5 (by rw [finish_off h5]; exact hfin)
   | _ => rw [hc] at hm; exact hm.elim
 have hnx := qM (P := Tryz.prog) (I := yG) xR n
 cases hp : yh Tryz.prog yG n y6 (Fr.make args 78) s with
 | ret a1 s1 =>
  rw [hp] at hr
  simp only at hr
  have hss := finish_state hr
  subst hss
  have hp2 : yh Tryz.prog (fun _ => none) n (takeS (7 + 1) xt) (Fr.make args 78) s = .ret a1 s' := hp
  refine split_sound hmixT (xR (P := Tryz.prog)) 7 xt n (Fr.make args 78) _ s β w long8 preB hrel hfr (by rw [hp2]; simp) (by rw [hp2]; exact hfree) fun e a₂ w₂ ho => ?_
  rw [hp2] at ho
  obtain ⟨rfl, β1, hx1, hf1⟩ := ho
  exact hend β1 a1 a₂ w₂ s' hx1 hf1 hr
 | normal a1 s1 =>
  rw [hp] at hr
  simp only at hr
  have hself : MOff (fun _ => false) 78 (Fr.make args 78) (Fr.make args 78) := ⟨rfl, rfl, by decide, fun _ _ => rfl⟩
  have hsz1 := code_m (P := Tryz.prog) (I := yG) n y6 _ _ s preZ hself
  rw [hp] at hsz1
  have hsz1 := hsz1.2.one
  cases hsg : segS (a1.get 13) (a1.get 16) s1 with
  | none => rw [hsg] at hr; cases hr
  | some s2 =>
   rw [hsg] at hr
   simp only at hr
   have hfin : ∃ a3 s3, (yh Tryz.prog yG n leastTail a1 s2 = .ret a3 s3 ∨ yh Tryz.prog yG n leastTail a1 s2 = .normal a3 s3) ∧ finish Tryz.prog Tryz.f12 a3 s3 = .ret v s' := by
    split at hr
    ·next a3 s3 h => exact ⟨a3, s3, .inl h, hr⟩
    ·next a3 s3 h => exact ⟨a3, s3, .inr h, hr⟩
    ·cases hr
   obtain ⟨a3, s3, hrun, hfin⟩ := hfin
   have hs3 : s' = s3 := finish_state hfin
   have hn2 : s2.next ≤ s'.next := by
    have := hnx leastTail a1 s2
    rw [hs3]
    rcases hrun with h | h <;> rw [h] at this <;> exact this
   have hn1 : s1.next ≤ s2.next := by
    obtain ⟨_, _, _, _, _, es, _, _, _, _, _, _, _, _, _, _, _, _, _, hs2⟩ := segS_spec hsg
    rw [hs2]
    show s1.next ≤ s1.next + 2 * es.size + 1
    omega
   have hp2 : yh Tryz.prog (fun _ => none) n (takeS (7 + 1) xt) (Fr.make args 78) s = .normal a1 s1 := hp
   refine split_sound hmixT (xR (P := Tryz.prog)) 7 xt n (Fr.make args 78) _ s β w long8 preB hrel hfr (by rw [hp2]; simp) (by rw [hp2]; exact hfree.sub (by omega)) fun e a₂ w₂ ho => ?_
   rw [hp2] at ho
   obtain ⟨rfl, β1, hx1, hf1⟩ := ho
   refine seg_sound hx1.rel hf1 hsz1 hsg (hx1.freeOf (hfree.sub hn2)) fun β2 a a'' w2 hx2 hf2 hsz2 hsame => ?_
   exact htail a1 a a'' s2 s3 a3 β2 w2 (hx1.trans hx2 (hfree.sub hn2)) hf2 hsz1 hsz2 hsame hrun hfin
 | exit id a1 s1 => rw [hp] at hr; cases hr
 | panic c a1 s1 => rw [hp] at hr; cases hr
 | stuck => rw [hp] at hr; cases hr
end Go.Proofs.YtdejleegamcioaaGreat
namespace Go.Proofs.YtdejleegamcioaaGreat
open Go Go.M
theorem seg_kp {v13 v16 : Value} {s s2 : St} (hw : WF s) (h : segS v13 v16 s = some s2) : Kp s s2 := by
 obtain ⟨bK, b16, r, eK, v2, es, clock, ks, _, _, _, g16, _, _, _, hmay, hroom, _, _, hs2⟩ := segS_spec h
 have hlt := hw.lt g16
 have gnew : ∀ b, s2.get b = if b = b16 then some (.cells [.slice (some ⟨s.next + 2 * es.size, 0, none⟩) es.size (2 * es.size + 1), v2] 36) else if b = s.next + 2 * es.size then some (.cells (yo (yO ks)) 23) else s.get b := fun b => by
  rw [hs2, St.get_put (by omega), St.get_new (by simp only; omega)]
  rfl
 have hn : s2.next = s.next + 2 * es.size + 1 := by rw [hs2]; rfl
 refine ⟨⟨by omega, fun b hb => ?_⟩, by omega, by rw [hs2]; rfl, by rw [hs2]; rfl, fun b hb hm => ?_, fun b hb hd => ?_⟩
 ·rw [gnew, if_neg (by omega), if_neg (by omega)]; exact hw.top b (by omega)
 ·rw [gnew, if_neg (fun e => by rw [e, hmay] at hm; cases hm), if_neg (by omega)]
 ·rw [gnew, if_neg (fun e => by rw [e, g16] at hd; cases hd), if_neg (by omega)]; exact hd
theorem least_case (n : Nat) (args : Array Value) (s : St) : qZ n args s = .stuck ∨ ∃ v s', qZ n args s = .ret v s' ∧ s.next ≤ s'.next ∧ (WF s → Kp s s') := by
 have hnx := qM (P := Tryz.prog) (I := yG) xR n
 have hkp := codeM_keeps (P := Tryz.prog) (I := yG) xR n
 have hfin : ∀ a s, finish Tryz.prog Tryz.f12 a s = .stuck ∨ ∃ v, finish Tryz.prog Tryz.f12 a s = .ret v s := fun a s => by
  unfold finish
  split
  ·exact .inr ⟨_, rfl⟩
  ·exact .inr ⟨_, rfl⟩
  ·exact .inl rfl
 unfold qZ
 split
 ·split
  ·next a s1 hp =>
   have h1 := hnx y6 (Fr.make args 78) s
   have h2 := hkp y6 (Fr.make args 78) s
   rw [hp] at h1 h2
   rcases hfin a s1 with e | ⟨v, e⟩
   ·exact .inl e
   ·exact .inr ⟨v, s1, e, h1, h2⟩
  ·next a s1 hp =>
   have h1 : s.next ≤ s1.next := by have := hnx y6 (Fr.make args 78) s; rw [hp] at this; exact this
   have h2 : WF s → Kp s s1 := by have := hkp y6 (Fr.make args 78) s; rw [hp] at this; exact this
   split
   ·next s2 hs =>
    have h3 : s1.next ≤ s2.next := by
     obtain ⟨_, _, _, _, _, es, _, _, _, _, _, _, _, _, _, _, _, _, _, hs2⟩ := segS_spec hs
     rw [hs2]
     show s1.next ≤ s1.next + 2 * es.size + 1
     omega
    split
    ·next a3 s3 ht =>
     have h4 : s2.next ≤ s3.next := by have := hnx leastTail a s2; rw [ht] at this; exact this
     have h5 : WF s2 → Kp s2 s3 := by have := hkp leastTail a s2; rw [ht] at this; exact this
     rcases hfin a3 s3 with e | ⟨v, e⟩
     ·exact .inl e
     ·exact .inr ⟨v, s3, e, by omega, fun hw => by
       have k1 := h2 hw
       have k2 := seg_kp k1.wf hs
       exact (k1.trans k2).trans (h5 k2.wf)⟩
    ·next a3 s3 ht =>
     have h4 : s2.next ≤ s3.next := by have := hnx leastTail a s2; rw [ht] at this; exact this
     have h5 : WF s2 → Kp s2 s3 := by have := hkp leastTail a s2; rw [ht] at this; exact this
     rcases hfin a3 s3 with e | ⟨v, e⟩
     ·exact .inl e
     ·exact .inr ⟨v, s3, e, by omega, fun hw => by
       have k1 := h2 hw
       have k2 := seg_kp k1.wf hs
       exact (k1.trans k2).trans (h5 k2.wf)⟩
    ·exact .inl rfl
   ·exact .inl rfl
  ·exact .inl rfl
 ·exact .inl rfl
theorem leastI_case (args : Array Value) (s : St) : leastI args s = .stuck ∨ ∃ n v s', leastI args s = .ret v s' ∧ qZ n args s = .ret v s' := by
 by_cases h : ∃ p : Value × St, Ever args s p.1 p.2
 ·obtain ⟨⟨v, s'⟩, h1⟩ := h
  obtain ⟨N, hN⟩ := h1
  exact .inr ⟨N, v, s', leastI_eq ⟨N, hN⟩, hN N (Nat.le_refl _)⟩
 ·left
  unfold leastI
  rw [dif_neg h]
theorem table12 {I : yb} {g : Array Value → St → CallOut} (hg : ∀ args s, g args s = .stuck ∨ ∃ n v s', g args s = .ret v s' ∧ qZ n args s = .ret v s') (hI : TableS Tryz.prog I) : TableS Tryz.prog (fun f => match Nat.beq f 12 with | true => some g | false => I f) := by
 refine ⟨fun f h hh args s => ?_, fun f h hh args s hw => ?_, fun f h hh args args' s β w hrel ha hne hfree => ?_⟩
 ·cases hb : Nat.beq f 12 with
  | false => rw [hb] at hh; exact hI.next f h hh args s
  | true =>
   rw [hb] at hh
   cases hh
   rcases hg args s with e | ⟨n, v, s', e, e2⟩
   ·rw [e]; trivial
   ·rw [e]
    rcases least_case n args s with e3 | ⟨v2, s2, e3, h1, _⟩
    ·rw [e3] at e2; cases e2
    ·rw [e3] at e2; cases e2; exact h1
 ·cases hb : Nat.beq f 12 with
  | false => rw [hb] at hh; exact hI.keeps f h hh args s hw
  | true =>
   rw [hb] at hh
   cases hh
   rcases hg args s with e | ⟨n, v, s', e, e2⟩
   ·rw [e]; trivial
   ·rw [e]
    rcases least_case n args s with e3 | ⟨v2, s2, e3, _, h1⟩
    ·rw [e3] at e2; cases e2
    ·rw [e3] at e2; cases e2; exact h1 hw
 ·cases hb : Nat.beq f 12 with
  | false => rw [hb] at hh; exact hI.sound f h hh args args' s β w hrel ha hne hfree
  | true =>
   have hf := Nat.eq_of_beq_eq_true hb
   subst hf
   rw [hb] at hh
   cases hh
   rcases hg args s with e | ⟨n, v, s', e, e2⟩
   ·exact (hne e).elim
   ·rw [e] at hfree ⊢
    exact least_sound hrel ha e2 hfree
theorem exTable_ok : TableS Tryz.prog exTable :=
 table12 (g := qZ 100000) (fun args s => by
  rcases least_case 100000 args s with e | ⟨v, s', e, _⟩
  ·exact .inl e
  ·exact .inr ⟨100000, v, s', e, e⟩) (memo_ok Tab.ok41)
def livesE : Entry := ⟨[], [], .bool true, []⟩
theorem livesE_ok : livesE.OK Tryz.prog 17 := Entry.check_ok hmixT exTable_ok lives_run
def T17 : Memo := Tr.put 16 .nil 17 (some [livesE])
theorem T17_ok : Memo.OK Tryz.prog T17 := by
 intro f l hl e he
 unfold T17 at hl
 rw [Tr.get_put _ _ _ _ _ (by decide)] at hl
 by_cases h : f = 17
 ·subst h
  rw [if_pos rfl] at hl
  cases hl
  simp only [List.mem_singleton] at he
  subst he
  exact livesE_ok
 ·rw [if_neg h] at hl
  simp [Tr.get] at hl
noncomputable def lawT : yb := fun f => match Nat.beq f 12 with
 | true => some leastI
 | false => memo T17 f
theorem lawT_ok : TableS Tryz.prog lawT := table12 leastI_case (memo_ok T17_ok)
theorem lawT_plain : Plain lawT := by
 intro f h1 h2
 have hb : Nat.beq f 12 = false := by
  rw [Bool.eq_false_iff]
  intro h
  exact h1 (Nat.eq_of_beq_eq_true h)
 unfold lawT memo T17
 rw [hb, Tr.get_put _ _ _ _ _ (by decide), if_neg h2]
 rfl
theorem lawT_least : LeastG lawT := leastG rfl
theorem lawT_lives : LivesC lawT := by
 intro s hf hr
 have hb : Nat.ble (s.next + 0) 281474976710655 = true := Nat.ble_eq_true_of_le (by unfold zo at hr; omega)
 refine ⟨.bool true, s, ⟨0, fun m _ => ?_⟩, rfl, hf.hl.up (by omega)⟩
 show tryAll [livesE] [] s = _
 simp only [tryAll, Entry.try, livesE, matchAs, matchH, xg, hb, Nat.beq_refl]
 rfl
end Go.Proofs.YtdejleegamcioaaGreat
