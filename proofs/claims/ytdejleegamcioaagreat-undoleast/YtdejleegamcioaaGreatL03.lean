/- Append, whole. -/
/- The other operations of the abstract machine. -/
/- Conversions, literals, maps; and all operations together. -/
import Derived.Test.YtdejleegamcioaaGreatL02
import Derived.Laws.BytesString
namespace Go.M
section
variable {P : Program} {β : Ren} {s : St} {w : World}

theorem OpS.after {β₁ : Ren} {s₁ : St} {w₁ : World} (h : Ext P β s w β₁ s₁ w₁) (hnext : s₁.next = s.next) (hβ : β₁ = β) {r : Res Next} {r' : Result Next} (hr : OpS P β₁ s₁ w₁ r r') : OpS P β s w r r' := by
  subst hβ
  cases r with
  | stuck => trivial
  | ok n s' =>
    intro hf
    obtain ⟨β', w', n', h1, h2, h3⟩ := hr (fun b hl hu => hf b (by omega) hu)
    exact ⟨β', w', n', h1, h.trans h2 hf, h3⟩
  | panic v s' =>
    intro hf
    obtain ⟨β', w', n', h1, h2, h3⟩ := hr (fun b hl hu => hf b (by omega) hu)
    exact ⟨β', w', n', h1, h.trans h2 hf, h3⟩

theorem newL_nil {d : TypeDesc} {inf : TypeInfo} {x x' : Value} (hx : VRel P β x x') {new : List Value} (hn : newL (some d) inf x s = some (0, new)) : new = [] := by
  unfold newL at hn
  split at hn
  · split at hn
    · split at hn
      · simp only [Option.some.injEq, Prod.mk.injEq] at hn
        obtain ⟨h1, h2⟩ := hn
        rw [h1] at h2
        simpa using h2.symm
      · cases hn
    · cases hn
  · split at hn
    · rename_i k hk
      split at hn
      · rename_i l hl
        simp only [Option.some.injEq, Prod.mk.injEq] at hn
        obtain ⟨rfl, rfl⟩ := hn
        cases hx <;> simp only [lenV, Option.some.injEq, reduceCtorEq] at hk
        case string t =>
          unfold firstL at hl
          simp only at hl
          split at hl
          · cases hl
            have : t.data.toList = [] := by
              apply List.eq_nil_of_length_eq_zero
              rw [Array.length_toList]; exact hk
            rw [this]; rfl
          · cases hl
        all_goals exact List.eq_nil_of_length_eq_zero (by rw [firstL_length hl (by simp)]; simp)
      · cases hn
    · cases hn
  · cases hn

theorem Rel.drewW (h : Rel P β s w) : Rel P β s (drewW w) := h.of_heap rfl

section
variable {argTypes : Array TypeId} {sType xType e : TypeId} {d : TypeDesc} {inf : TypeInfo}

/-- Within what is known of the capacity. -/
theorem append_fits (h : Rel P β s w) (h0 : argTypes[0]? = some sType) (h1 : argTypes[1]? = some xType) (hs : P.underlying sType = some (.slice e)) (hd : P.underlying xType = some d)
    (hi : P.info? e = some inf) {base : Option Addr} {sLen cap n : Nat} {y' x x' : Value} (hy : VRel P β (.slice base sLen cap) y') (hx : VRel P β x x') {new : List Value}
    (hn : newL (some d) inf x s = some (n, new)) (hfit : sLen + n ≤ cap / 2) {b off : Nat} (hbase : base = some ⟨b, off, none⟩) {s₁ : St} {nx : Next}
    (hst : storeS b (off + sLen * inf.size) new s = .ok nx s₁) (ty : TypeId) :
    OpS P β s w (okV (.slice base (sLen + n) cap) s₁) ((valued (Builtin.append_ argTypes ty #[y', x'])).run P w) := by
  intro _
  subst hbase
  obtain ⟨new', ha, hnew⟩ := newL_sound h hx hn
  have small : ∀ (m : Img) (o' : Nat) (cap' : Nat), β b = some m → sLen + n = 0 → ∃ w', (Builtin.append_ argTypes ty #[.slice (some ⟨m.blk, o', none⟩) sLen cap', x']).run P w = .ok (.slice (some ⟨m.blk, o', none⟩) (sLen + n) cap') w' ∧ Ext P β s w β s₁ w' := by
    intro m o' cap' hb hz
    have hn0 : n = 0 := by omega
    subst hn0
    have := newL_nil hx hn
    subst this
    cases hnew
    obtain ⟨_, w', g1, g2⟩ := storeCells_sound h hb .nil hst
    refine ⟨w', ?_, g2⟩
    rw [run_append_in h0 h1 hs hd hi ha (by omega) ty]
    have : w' = w := by
      have : (storeCells ⟨m.blk, off + sLen * inf.size + m.sh, none⟩ []).run P w = .ok () w := rfl
      rw [this] at g1; cases g1; rfl
    subst this
    rfl
  cases hy with
  | @sknown _ _ _ c m hb =>
    obtain ⟨_, w', g1, g2⟩ := storeCells_sound h hb hnew hst
    refine ⟨β, w', .value (.slice (some ⟨m.blk, off + m.sh, none⟩) (sLen + n) c), valued_ok ?_, g2, _, rfl, .sknown hb⟩
    rw [run_append_in h0 h1 hs hd hi ha (by omega) ty]
    simp only [add_none]
    rw [show off + m.sh + sLen * inf.size = off + sLen * inf.size + m.sh by omega, g1]
    rfl
  | @sgrown _ _ _ c cap' m hb hc hsz =>
    obtain ⟨_, w', g1, g2⟩ := storeCells_sound h hb hnew hst
    refine ⟨β, w', .value (.slice (some ⟨m.blk, off + m.sh, none⟩) (sLen + n) cap'), valued_ok ?_, g2, _, rfl, .sgrown hb hc hsz⟩
    rw [run_append_in h0 h1 hs hd hi ha (by omega) ty]
    simp only [add_none]
    rw [show off + m.sh + sLen * inf.size = off + sLen * inf.size + m.sh by omega, g1]
    rfl
  | @sempty _ _ off' cap' m hb hsz =>
    obtain ⟨w', g1, g2⟩ := small m off' cap' hb (by omega)
    refine ⟨β, w', _, valued_ok g1, g2, _, rfl, ?_⟩
    have : 0 + n = 0 := by omega
    rw [this]
    exact .sempty hb hsz
  | @szero _ _ off' m hb =>
    obtain ⟨w', g1, g2⟩ := small m off' 0 hb (by omega)
    refine ⟨β, w', _, valued_ok g1, g2, _, rfl, ?_⟩
    have : 0 + n = 0 := by omega
    rw [this]
    exact .szero hb

/-- Beyond it, where the capacity is known: a new row. -/
theorem append_grows (h : Rel P β s w) (h0 : argTypes[0]? = some sType) (h1 : argTypes[1]? = some xType) (hs : P.underlying sType = some (.slice e)) (hd : P.underlying xType = some d)
    (hi : P.info? e = some inf) {base : Option Addr} {sLen cap n : Nat} {base' : Option Addr} {cap' : Nat} {x x' : Value} (hy : VRel P β (.slice base sLen cap) (.slice base' sLen cap')) (hx : VRel P β x x')
    {new old : List Value} (hn : newL (some d) inf x s = some (n, new)) (hfit : ¬ sLen + n ≤ cap') (hg : growB inf (sLen + n) n new = true)
    (ho : firstL inf.size sLen (.slice base sLen cap) s = some old) (ty : TypeId) {s₁ : St} (hk : Ext P β s w β s₁ w) (hnext : s₁.next = s.next) :
    OpS P β s w (newS e (old ++ new) (sLen + n) s₁) ((valued (Builtin.append_ argTypes ty #[.slice base' sLen cap', x'])).run P w) := by
  obtain ⟨new', ha, hnew⟩ := newL_sound h.drewW hx hn
  obtain ⟨old', hold, hor⟩ := firstL_sound h.drewW hy ho (fun a len c e => by cases e; exact Nat.le_refl _)
  obtain ⟨g1, g2, g3, z, g4, g5⟩ := growB_spec hg
  obtain ⟨nc, hnc, hrun⟩ := run_append_out (w := w) h0 h1 hs hd hi ha hfit g1 g4 hold ty
  have holen : old.length = sLen * inf.size := firstL_length ho (fun hb => by subst hb; cases hy; rfl)
  refine OpS.after hk hnext rfl (newS_sound hk.rel hi (hor.append hnew) hnc (rest := Builtin.zeroCells z.cells (nc - (sLen + n))) ?_ ?_ ?_)
  · rw [List.length_append, holen, g3, Nat.add_mul]
  · rw [zeroCells_size, g5]
  · have e1 : (⟨old'⟩ ++ ⟨new'⟩ : Array Value) = ⟨old' ++ new'⟩ := by apply Array.ext'; simp
    exact valued_ok (by rw [hrun, e1])

/-- Beyond what is known of it, and within what there is: the old block is the new one's. -/
theorem append_moves (h : Rel P β s w) (h0 : argTypes[0]? = some sType) (h1 : argTypes[1]? = some xType) (hs : P.underlying sType = some (.slice e)) (hd : P.underlying xType = some d)
    (hi : P.info? e = some inf) {b off sLen cap n o' cap' : Nat} {m : Img} {x x' : Value} (hb : β b = some m) (hx : VRel P β x x') {c : List Value} (hgb : s.get b = some (.cells c e)) (hme : e = m.elem)
    {new old : List Value} (hn : newL (some d) inf x s = some (n, new)) (hfit : sLen + n ≤ cap') (hroomc : m.sh ≤ o' ∧ o' + cap' * inf.size ≤ m.size) (hg : growB inf (sLen + n) n new = true)
    (ho : firstL inf.size sLen (.slice (some ⟨b, off, none⟩) sLen cap) s = some old) (hoff : sLen = 0 ∨ o' = off + m.sh) (hmay : s.may b = true) (ty : TypeId) :
    OpS P β s w (newS e (old ++ new) (sLen + n) (s.put b none)) ((valued (Builtin.append_ argTypes ty #[.slice (some ⟨m.blk, o', none⟩) sLen cap', x'])).run P w) := by
  unfold newS
  split
  · rename_i hroom
    intro hf
    have hnx : β s.next = none := hf s.next (Nat.le_refl _) (by simp)
    obtain ⟨new', ha, hnew⟩ := newL_sound h hx hn
    obtain ⟨g1, g2, g3, z, g4, g5⟩ := growB_spec hg
    obtain ⟨_, c', e', fz, hh, hsz, hfz, hc⟩ := h.row hb hgb
    have holen : old.length = sLen * inf.size := firstL_length ho (by simp)
    have hnl := hnew.length
    have hmul : (sLen + n) * inf.size ≤ cap' * inf.size := Nat.mul_le_mul_right _ hfit
    rw [Nat.add_mul] at hmul
    have hin : o' + sLen * inf.size + new'.length ≤ c'.size := by rw [hnl, g3]; omega
    have hst := run_storeCells_cells (P := P) m.blk (o' + sLen * inf.size) new' 0 w (fun j hj => by
        simp only [World.cell?, hh, Nat.add_zero]
        have : o' + sLen * inf.size + j < c'.size := by omega
        simp [this])
      (fun j hj => by
        simp only [World.frozen?, hh, Nat.add_zero]
        have h1 := hfz.2 (o' + sLen * inf.size + j) (by omega) (by rw [hnl, g3] at hj; omega)
        simp only [Bool.and_eq_false_iff, decide_eq_false_iff_not]
        by_cases h2 : fz.1 ≤ o' + sLen * inf.size + j
        · exact .inr fun h3 => h1 ⟨h2, h3⟩
        · exact .inl h2)
      (hnew.oneCell g2)
    rw [Nat.add_zero] at hst
    obtain ⟨c₂, k1, k2, k3, k4⟩ := setCells_heap m.blk new' (o' + sLen * inf.size) w c' e' fz hh hin
    obtain ⟨q1, q2, q3, q4, q5⟩ := setCells_other m.blk new' (o' + sLen * inf.size) w
    refine ⟨_, _, .value (.slice (some ⟨m.blk, o', none⟩) (sLen + n) cap'), valued_ok ?_,
      Ext.move h (m₁ := ⟨m.blk, o', m.size, m.elem⟩) hb hgb hmay (by simpa [St.room] using hroom) hnx rfl q1 q2 ⟨_, k1, ?_⟩ q3 q4 q5, _, rfl, ?_⟩
    · rw [run_append_in h0 h1 hs hd hi ha hfit ty]
      simp only [add_none]
      rw [hst]
      rfl
    · refine .cells hme (by rw [k2]; exact hsz) (.inr (by simp only [List.length_append, holen, g3]; omega)) (fun i h5 h6 => hfz.2 i (by simp only at h5; omega) h6) fun i v hv => ?_
      rw [List.getElem?_append] at hv
      split at hv
      · rename_i hlt
        rcases hoff with h00 | h00
        · rw [holen, h00] at hlt; omega
        have hci : c[off + i]? = some v := by
          unfold firstL at ho
          simp only [hgb] at ho
          rw [ltake_eq, ldrop_eq] at ho
          split at ho
          · cases ho
            simp only [List.length_take] at hlt
            rw [List.getElem?_take_of_lt (by omega), List.getElem?_drop] at hv
            exact hv
          · cases ho
        obtain ⟨v', hv', hr⟩ := hc (off + i) v hci
        refine ⟨v', ?_, hr⟩
        show c₂[i + o']? = some v'
        rw [k3 _ (by omega), h00, show i + (off + m.sh) = off + i + m.sh by omega]
        exact hv'
      · rename_i hge
        obtain ⟨v', hv', hr⟩ := hnew.get hv
        refine ⟨v', ?_, hr⟩
        have := k4 _ v' hv'
        show c₂[i + o']? = some v'
        rw [show i + o' = o' + sLen * inf.size + (i - old.length) by omega]
        exact this
    · have hv := VRel.sgrown (P := P) (β := β.add s.next ⟨m.blk, o', m.size, m.elem⟩) (b := s.next) (off := 0) (len := sLen + n) (c := sLen + n) (cap := cap') (m := ⟨m.blk, o', m.size, m.elem⟩) Ren.add_self hfit (by
        show 0 + o' + cap' * P.cellsOf m.elem ≤ m.size
        rw [← hme]
        simp only [Program.cellsOf, hi, Option.map_some, Option.getD_some]
        omega)
      simpa using hv
  · exact .stuck
end

theorem append_sound (h : Rel P β s w) {argTypes : Array TypeId} {args args' : List Value} (ha : LRel P β args args') (ty : TypeId) :
    OpS P β s w (appendM P argTypes.toList args s) ((valued (Builtin.append_ argTypes ty ⟨args'⟩)).run P w) := by
  unfold appendM
  split
  · rename_i sType xType rest base sLen cap x htypes
    have h0 : argTypes[0]? = some sType := by rw [← Array.getElem?_toList, htypes]; rfl
    have h1 : argTypes[1]? = some xType := by rw [← Array.getElem?_toList, htypes]; rfl
    cases ha with
    | @cons _ y' _ _ hy ha =>
    cases ha with
    | @cons _ x' _ _ hx ha =>
    cases ha
    split
    · rename_i e hs
      split
      · rename_i inf hi
        split
        · rename_i n new hn
          cases hd : P.underlying xType with
          | none => rw [hd] at hn; simp [newL] at hn
          | some d =>
          rw [hd] at hn
          unfold appendS
          split
          · rename_i hfit
            simp only [Nat.ble_eq] at hfit
            split
            · rename_i b off
              split
              · rename_i nx s₁ hst
                exact append_fits h h0 h1 hs hd hi hy hx hn hfit rfl hst ty
              · exact .stuck
            · rename_i hbase
              split
              · cases hy with
                | snil =>
                  obtain ⟨new', hap, hnew⟩ := newL_sound h hx hn
                  have := newL_nil hx hn
                  subst this
                  cases hnew
                  refine .value h (v' := .slice none 0 0) .snil (valued_ok ?_)
                  rw [run_append_in h0 h1 hs hd hi hap (by omega) ty]
                  rfl
                | sknown hb => exact (hbase _ _ rfl).elim
                | sgrown hb _ _ => exact (hbase _ _ rfl).elim
                | sempty hb _ => exact (hbase _ _ rfl).elim
                | szero hb => exact (hbase _ _ rfl).elim
              · exact .stuck
          · rename_i hfit
            have hfit : ¬ sLen + n ≤ cap / 2 := fun hh => by rw [Nat.ble_eq_true_of_le hh] at hfit; cases hfit
            split
            · rename_i old hg ho
              simp only [Bool.and_eq_true] at hg
              unfold growM killM
              split
              · rename_i s₁ hk
                split at hk
                · rename_i hev
                  cases hk
                  -- the capacity is known
                  cases hy with
                  | snil => exact append_grows h h0 h1 hs hd hi .snil hx hn (by omega) hg.1 ho ty (Ext.refl h) rfl
                  | sknown hb => exact append_grows h h0 h1 hs hd hi (.sknown hb) hx hn (by omega) hg.1 ho ty (Ext.refl h) rfl
                  | szero hb => exact append_grows h h0 h1 hs hd hi (.szero hb) hx hn (by omega) hg.1 ho ty (Ext.refl h) rfl
                  | sgrown hb _ _ => omega
                  | sempty hb _ => omega
                · rename_i hod
                  split at hk
                  · rename_i a
                    split at hk
                    · rename_i hmay
                      cases hk
                      have hodd : cap % 2 = 1 := (Nat.mod_two_eq_zero_or_one cap).resolve_left hod
                      cases hy with
                      | sknown hb => omega
                      | szero hb => omega
                      | @sgrown b off _ c cap' m hb hc hsz =>
                        obtain ⟨cc, hgb, hme⟩ := rowB_elem h hb hodd hg.2
                        have hcells : P.cellsOf m.elem = inf.size := by rw [← hme]; simp [Program.cellsOf, hi]
                        by_cases hin : sLen + n ≤ cap'
                        · exact append_moves h h0 h1 hs hd hi hb hx hgb hme hn hin (by rw [hcells] at hsz; exact ⟨by omega, hsz⟩) hg.1 ho (.inr rfl) hmay ty
                        · exact append_grows h h0 h1 hs hd hi (.sgrown hb hc hsz) hx hn hin hg.1 ho ty (Ext.kill h (h.lt hgb) hmay) rfl
                      | @sempty b off off' cap' m hb hsz =>
                        obtain ⟨cc, hgb, hme⟩ := rowB_elem h hb hodd hg.2
                        have hcells : P.cellsOf m.elem = inf.size := by rw [← hme]; simp [Program.cellsOf, hi]
                        by_cases hin : 0 + n ≤ cap'
                        · exact append_moves h h0 h1 hs hd hi hb hx hgb hme hn hin (by rw [hcells] at hsz; exact hsz) hg.1 ho (.inl rfl) hmay ty
                        · exact append_grows h h0 h1 hs hd hi (.sempty hb hsz) hx hn hin hg.1 ho ty (Ext.kill h (h.lt hgb) hmay) rfl
                    · cases hk
                  · cases hk
              · exact .stuck
            · exact .stuck
        · exact .stuck
      · exact .stuck
    · exact .stuck
  · exact .stuck
end
end Go.M
namespace Go.M
section
variable {P : Program} {β : Ren} {s : St} {w : World}

theorem types0 {argTypes : Array TypeId} {t : TypeId} {l : List TypeId} (h : argTypes.toList = t :: l) : argTypes[0]? = some t := by
  rw [← Array.getElem?_toList, h]; rfl

theorem cap_sound (h : Rel P β s w) {argTypes : Array TypeId} {args args' : List Value} (ha : LRel P β args args') (ty : TypeId) :
    OpS P β s w (capM P argTypes.toList args s) ((valued (Builtin.cap_ argTypes ty ⟨args'⟩)).run P w) := by
  unfold capM
  split
  · rename_i t rest a len c htypes
    have h0 := types0 htypes
    cases ha with
    | @cons _ y' _ _ hy ha =>
    cases ha
    split
    · rename_i e hu hc
      have key : ∀ (a' : Option Addr) (len' c' : Nat), (valued (Builtin.cap_ argTypes ty ⟨[.slice a' len' c']⟩)).run P w = .ok (.value (.int .i64 (c' : Int))) w := by
        intro a' len' c'
        refine valued_ok ?_
        simp [Builtin.cap_, h0, run_underlying hu, goInt]
      cases hy with
      | snil => exact .value h (.int _ _) (key _ _ _)
      | @sknown _ _ _ c' _ hb =>
        have : 2 * c' / 2 = c' := by omega
        rw [this]
        exact .value h (.int _ _) (key _ _ _)
      | szero hb => exact .value h (.int _ _) (key _ _ _)
      | sgrown hb _ _ => omega
      | sempty hb _ => omega
    · exact .stuck
  · exact .stuck

theorem len_sound (h : Rel P β s w) {argTypes : Array TypeId} {args args' : List Value} (ha : LRel P β args args') (ty : TypeId) :
    OpS P β s w (lenM P argTypes.toList args s) ((valued (Builtin.len_ argTypes ty ⟨args'⟩)).run P w) := by
  unfold lenM
  split
  · rename_i t rest x htypes
    have h0 := types0 htypes
    cases ha with
    | @cons _ y' _ _ hy ha =>
    cases ha
    split
    · rename_i e a n c hu
      have key : ∀ (a' : Option Addr) (c' : Nat), (valued (Builtin.len_ argTypes ty ⟨[.slice a' n c']⟩)).run P w = .ok (.value (.int .i64 (n : Int))) w := fun a' c' =>
        valued_ok (by simp [Builtin.len_, h0, run_underlying hu, goInt])
      cases hy <;> exact .value h (.int _ _) (key _ _)
    · rename_i b hu
      cases hy
      exact .value h (.int _ _) (valued_ok (by simp [Builtin.len_, h0, run_underlying hu, goInt]))
    · rename_i n e hu
      exact .value h (.int _ _) (valued_ok (by simp [Builtin.len_, h0, run_underlying hu, goInt]))
    · rename_i k e hu
      cases hy
      exact .value h (.int _ _) (valued_ok (by simp [Builtin.len_, h0, run_underlying hu, goInt]))
    · rename_i k e r hu
      cases hy with
      | mref hb =>
        split
        · rename_i es c hg
          obtain ⟨o', ho, hor⟩ := h.obj _ _ _ hb (h.lt hg) hg
          cases hor with
          | map hlen he =>
            refine .value h (.int _ _) (valued_ok ?_)
            simp [Builtin.len_, h0, run_underlying hu, goInt, getObj, Sem.run, ho, hlen]
        · exact .stuck
    · exact .stuck
  · exact .stuck

theorem min_sound (h : Rel P β s w) {argTypes : Array TypeId} {args args' : List Value} (ha : LRel P β args args') (ty : TypeId) :
    OpS P β s w (minM args s) ((valued (Builtin.min_ argTypes ty ⟨args'⟩)).run P w) := by
  unfold minM
  split
  · rename_i k x k' y
    cases ha with
    | @cons _ _ _ _ hx ha => cases ha with
      | @cons _ _ _ _ hy ha =>
        cases ha; cases hx; cases hy
        refine .value h (.int _ _) (valued_ok ?_)
        simp only [Builtin.min_, List.foldlM, Builtin.min2, ile_eq]
        by_cases hxy : x ≤ y
        · have : ¬ y < x := by omega
          simp [hxy, this]
        · have : y < x := by omega
          simp [hxy, this]
  · exact .stuck

theorem max_sound (h : Rel P β s w) {argTypes : Array TypeId} {args args' : List Value} (ha : LRel P β args args') (ty : TypeId) :
    OpS P β s w (maxM args s) ((valued (Builtin.max_ argTypes ty ⟨args'⟩)).run P w) := by
  unfold maxM
  split
  · rename_i k x k' y
    cases ha with
    | @cons _ _ _ _ hx ha => cases ha with
      | @cons _ _ _ _ hy ha =>
        cases ha; cases hx; cases hy
        refine .value h (.int _ _) (valued_ok ?_)
        simp only [Builtin.max_, List.foldlM, Builtin.max2, ile_eq]
        by_cases hxy : y ≤ x
        · have : ¬ y > x := by omega
          simp [hxy, this]
        · have : y > x := by omega
          simp [hxy, this]
  · exact .stuck

theorem copy_sound (h : Rel P β s w) {argTypes : Array TypeId} {args args' : List Value} (ha : LRel P β args args') (ty : TypeId) :
    OpS P β s w (copyM P argTypes.toList args s) ((valued (Builtin.copy_ argTypes ty ⟨args'⟩)).run P w) := by
  unfold copyM
  split
  · rename_i dType rest base dLen dCap src htypes
    have h0 := types0 htypes
    cases ha with
    | @cons _ y' _ _ hy ha => cases ha with
      | @cons _ src' _ _ hx ha =>
        cases ha
        split
        · rename_i e hu
          split
          · rename_i inf n hi hlen
            obtain ⟨g1, g2⟩ := lenV_sound (P := P) hx hlen
            split
            · rename_i new hnew
              obtain ⟨new', g3, g4⟩ := firstL_sound h hx hnew (fun a len cap e => by
                have := g2 a len cap e
                have := Nat.min_le_left n dLen
                show Nat.min n dLen ≤ len
                exact Nat.le_trans this (by omega))
              split
              · rename_i b off
                split
                · rename_i nx s₁ hst
                  intro _
                  have key : ∀ (m : Img) (o' cap' : Nat) (w' : World), (storeCells ⟨m.blk, o', none⟩ new').run P w = .ok () w' →
                      (valued (Builtin.copy_ argTypes ty ⟨[.slice (some ⟨m.blk, o', none⟩) dLen cap', src']⟩)).run P w = .ok (.value (.int .i64 ((Nat.min n dLen : Nat) : Int))) w' := fun m o' cap' w' hs =>
                    valued_ok (by simp [Builtin.copy_, h0, run_underlying hu, g1, run_sizeOf' hi, g3, hs, goInt])
                  have zero : ∀ (m : Img) (o' cap' : Nat), β b = some m → dLen = 0 → ∃ w', (valued (Builtin.copy_ argTypes ty ⟨[.slice (some ⟨m.blk, o', none⟩) dLen cap', src']⟩)).run P w = .ok (.value (.int .i64 ((Nat.min n dLen : Nat) : Int))) w' ∧ Ext P β s w β s₁ w' := by
                    intro m o' cap' hb hz
                    have hn0 : Nat.min n dLen = 0 := by rw [hz]; exact Nat.min_zero n
                    have hl : new = [] := by
                      cases src with
                      | slice a l c =>
                        apply List.eq_nil_of_length_eq_zero
                        have hx' := hx
                        rw [firstL_length hnew (fun _ => hn0), hn0, Nat.zero_mul]
                      | string t =>
                        unfold firstL at hnew
                        simp only at hnew
                        split at hnew
                        · rename_i hsz
                          have hsz := Nat.eq_of_beq_eq_true hsz
                          rw [hn0] at hsz
                          cases hnew
                          have : t.data.toList = [] := by
                            apply List.eq_nil_of_length_eq_zero
                            rw [Array.length_toList]; exact hsz.symm
                          rw [this]; rfl
                        · cases hnew
                      | _ => simp [lenV] at hlen
                    subst hl
                    cases g4
                    obtain ⟨_, w', q1, q2⟩ := storeCells_sound h hb .nil hst
                    have : w' = w := by
                      have : (storeCells ⟨m.blk, off + m.sh, none⟩ []).run P w = .ok () w := rfl
                      rw [this] at q1; cases q1; rfl
                    subst this
                    exact ⟨w', key m o' cap' w' rfl, q2⟩
                  cases hy with
                  | sknown hb =>
                    obtain ⟨_, w', q1, q2⟩ := storeCells_sound h hb g4 hst
                    exact ⟨β, w', _, key _ _ _ w' q1, q2, _, rfl, .int _ _⟩
                  | sgrown hb _ _ =>
                    obtain ⟨_, w', q1, q2⟩ := storeCells_sound h hb g4 hst
                    exact ⟨β, w', _, key _ _ _ w' q1, q2, _, rfl, .int _ _⟩
                  | sempty hb _ =>
                    obtain ⟨w', q1, q2⟩ := zero _ _ _ hb rfl
                    exact ⟨β, w', _, q1, q2, _, rfl, .int _ _⟩
                  | szero hb =>
                    obtain ⟨w', q1, q2⟩ := zero _ _ _ hb rfl
                    exact ⟨β, w', _, q1, q2, _, rfl, .int _ _⟩
                · exact .stuck
              · exact .stuck
            · exact .stuck
          · exact .stuck
        · exact .stuck
  · exact .stuck

theorem map_rel {ρ ρ' : Operand → Value} {l : List Operand} (h : ∀ x ∈ l, VRel P β (ρ x) (ρ' x)) : LRel P β (mapL ρ l) (l.map ρ') := by
  induction l with
  | nil => exact .nil
  | cons x l ih => exact .cons (h x (by simp)) (ih fun y hy => h y (by simp [hy]))

theorem array_map {ρ : Operand → Value} (a : Array Operand) : a.map ρ = ⟨a.toList.map ρ⟩ := by apply Array.ext'; simp

theorem call_sound (h : Rel P β s w) {f f' : Value} {args args' : List Value} (hf : VRel P β f f') (ha : LRel P β args args') :
    OpS P β s w (callV P f args s) ((Deferred.ofValue f' ⟨args'⟩ >>= fun d => invoke d.target d.args).run P w) := by
  unfold callV
  split
  · rename_i n first captured
    split
    · rename_i hfn
      cases hf with
      | @func _ f1 f1' c1 c1' h1 h2 =>
        intro _
        refine ⟨β, w, .enter n ⟨f1' ++ args' ++ c1'⟩, ?_, Ext.refl h, _, rfl, (h1.append ha).append h2⟩
        unfold funcF at hfn
        split at hfn
        · rename_i fn hq
          simp only [Bool.and_eq_true, Bool.not_eq_true'] at hfn
          have hb : ¬ fn.body = none := fun hbb => by simp [hbb] at hfn
          have hnm : ¬ fn.name = "runtime.NumGoroutine" := fun hbb => by simp [hbb] at hfn
          simp [Deferred.ofValue, invoke, callFunc, hq, hnm, hb]
        · cases hfn
    · exact .stuck
  · exact .stuck

/-! ### Conversions -/

theorem bytesL_spec : ∀ (l : List Value) (acc bs : List UInt8), bytesL l acc = some bs → ∃ ns : List Int, l = ns.map (Value.int .u8) ∧ bs = acc.reverse ++ ns.map (fun n => UInt8.ofNat n.toNat)
  | [], acc, bs, h => by simp [bytesL] at h; exact ⟨[], rfl, by simp [h]⟩
  | v :: l, acc, bs, h => by
    cases v
    case int k n =>
      cases k
      case u8 =>
        obtain ⟨ns, h1, h2⟩ := bytesL_spec l _ bs h
        exact ⟨n :: ns, by simp [h1], by simp [h2]⟩
      all_goals simp [bytesL] at h
    all_goals simp [bytesL] at h

theorem foldl_push (ns : List Int) : ∀ b : ByteArray, (ns.foldl (fun r n => r.push (UInt8.ofNat n.toNat)) b).data.toList = b.data.toList ++ ns.map (fun n => UInt8.ofNat n.toNat) := by
  induction ns with
  | nil => intro b; simp
  | cons n ns ih => intro b; simp [ih]

theorem int_list {ns : List Int} {l' : List Value} (h : LRel P β (ns.map (Value.int .u8)) l') : l' = ns.map (Value.int .u8) := by
  induction ns generalizing l' with
  | nil => cases h; rfl
  | cons n ns ih => cases h with
    | cons hv hl => cases hv; simp [ih hl]

theorem text_sound (h : Rel P β s w) {x x' : Value} (hx : VRel P β x x') : OpS P β s w (textM x s) ((valued (Conv.bytesToString x')).run P w) := by
  unfold textM
  split
  · cases hx
    exact .value h (.string _) rfl
  · rename_i b off len cap
    split
    · rename_i c e hg
      split
      · rename_i l hl
        split
        · rename_i bs hbs
          obtain ⟨ns, rfl, hbs'⟩ := bytesL_spec _ _ _ hbs
          have fin : ∀ (a : Addr) (cap' : Nat), (loadCells a len).run P w = .ok (ns.map (Value.int .u8)).toArray w →
              (valued (Conv.bytesToString (.slice (some a) len cap'))).run P w = .ok (.value (.string ⟨⟨bs⟩⟩)) w := fun a cap' hh => by
            refine valued_ok ?_
            rw [run_bytesToString w a len cap' ns hh]
            congr 2
            apply ByteArray.ext
            apply Array.ext'
            rw [foldl_push]
            simp only [List.reverse_nil, List.nil_append] at hbs'
            rw [hbs']
            rfl
          have main : ∀ m : Img, β b = some m → (loadCells ⟨m.blk, off + m.sh, none⟩ len).run P w = .ok (ns.map (Value.int .u8)).toArray w := fun m hb => by
            obtain ⟨l', h1, h2⟩ := loadCells_sound h hb hg hl
            rw [h1, int_list h2]
          have zero : len = 0 → ∀ a : Addr, (loadCells a len).run P w = .ok (ns.map (Value.int .u8)).toArray w := fun h0 a => by
            subst h0
            simp [ltake] at hl
            cases ns with
            | nil => simp [loadCells, loadCellsFrom]
            | cons _ _ => simp at hl
          cases hx with
          | sknown hb => exact .value h (.string _) (fin _ _ (main _ hb))
          | sgrown hb _ _ => exact .value h (.string _) (fin _ _ (main _ hb))
          | sempty hb _ => exact .value h (.string _) (fin _ _ (zero rfl _))
          | szero hb => exact .value h (.string _) (fin _ _ (zero rfl _))
        · exact .stuck
      · exact .stuck
    · exact .stuck
  · exact .stuck

theorem bytes_sound (h : Rel P β s w) {e : TypeId} {inf : TypeInfo} (hi : P.info? e = some inf) (hone : inf.size = 1) (b : ByteArray) :
    OpS P β s w (newS e (mapL (fun c => Value.int .u8 c.toNat) b.data.toList) b.size s) ((valued (Conv.stringToBytes e b)).run P w) := by
  unfold newS
  split
  · rename_i hroom
    intro hf
    have hnx := free_new hf
    let q := Question.appendCap b.size 0 e
    let nc := q.cut (w.tape w.drawn q)
    have hnc : b.size ≤ nc := by simp [nc, q, Question.cut]
    let c' : Array Value := (b.data.map fun b => Value.int .u8 b.toNat) ++ Array.replicate (nc - b.size) (.int .u8 0)
    have hx := Ext.row h hroom hnx (c := mapL (fun c => Value.int .u8 c.toNat) b.data.toList) (c' := c') e (c'.size, c'.size + 1) (by intro i hi'; simp only; omega) (fun i v hv => by
      rw [mapL_eq] at hv
      have hlt : i < b.data.size := by
        rcases Nat.lt_or_ge i b.data.size with hh | hh
        · exact hh
        · rw [List.getElem?_eq_none (by simpa using hh)] at hv; cases hv
      refine ⟨v, ?_, ?_⟩
      · simp only [c']
        rw [Array.getElem?_append_left (by simpa using hlt)]
        simpa using hv
      · simp only [List.getElem?_map, Option.map_eq_some_iff] at hv
        obtain ⟨_, _, rfl⟩ := hv
        exact .int _ _)
    refine ⟨_, { (drewW w) with heap := w.heap.push (.cells c' e (c'.size, c'.size + 1)) }, .value (.slice (some ⟨w.heap.size, 0, none⟩) b.size nc), ?_, hx.drew rfl rfl rfl rfl, _, rfl, ?_⟩
    · refine valued_ok ?_
      simp only [Conv.stringToBytes, Sem.run_bind, run_choose, Question.forced, Bool.false_eq_true, if_false, Result.andThen_ok, newRow, run_newObj, Sem.run_pure, markStringish, run_shape, World.shape?]
      simp only [Array.getElem?_push_size, run_freeze, World.freeze, Nat.one_ne_zero, if_false, Result.andThen_ok]
      congr 1
      simp only [World.mk.injEq, and_true]
      show _ = _
      apply Array.ext_getElem?
      intro r
      rw [Array.getElem?_modify]
      by_cases hr : w.heap.size = r
      · subst hr
        simp [c', nc, q]
      · simp only [hr, if_false, Array.getElem?_push]
        rw [if_neg (fun hh => hr hh.symm), if_neg (fun hh => hr hh.symm)]
    · refine VRel.sgrown (m := ⟨w.heap.size, 0, c'.size, e⟩) Ren.add_self hnc ?_
      simp only [Program.cellsOf, hi, Option.map_some, Option.getD_some, hone]
      have : c'.size = b.data.size + (nc - b.size) := by simp [c']
      rw [this]
      have : b.data.size = b.size := rfl
      omega
  · exact .stuck
end
end Go.M
namespace Go.M
section
variable {P : Program} {β : Ren} {s : St} {w : World}

theorem convert_sound (h : Rel P β s w) {src dst : TypeId} {x x' : Value} (hx : VRel P β x x') : OpS P β s w (convertM P src dst x s) ((valued (convert src dst x')).run P w) := by
  unfold convertM
  split
  · rename_i d k hs hd
    split
    · rename_i k' n
      cases hx
      exact .value h (.int _ _) (valued_ok (by simp [convert, run_underlying hs, run_underlying hd, Conv.intToInt]))
    · exact .stuck
  · rename_i e hs hd
    split
    · rename_i he
      have key : ∀ a l c, (valued (convert src dst (.slice a l c))).run P w = (valued (Conv.bytesToString (.slice a l c))).run P w := fun a l c => by
        simp only [valued, Sem.run_bind, run_convert_bytes_string w src dst e a l c hs he hd]
      have ht := text_sound (s := s) h hx
      cases hx <;> first | (rw [key]; exact ht) | (unfold textM; exact .stuck)
    · exact .stuck
  · rename_i d hn hs hd
    split
    · rename_i b
      cases hx
      refine .value h (.string _) (valued_ok ?_)
      simp only [convert, Sem.run_bind, run_underlying hs, run_underlying hd, Result.andThen_ok]
      cases d <;> rfl
    · exact .stuck
  · rename_i d e hs hd
    split
    · rename_i b inf he hi
      split
      · rename_i hone
        cases hx
        have := bytes_sound h hi (Nat.eq_of_beq_eq_true hone) b
        have e1 : (valued (convert src dst (.string b))).run P w = (valued (Conv.stringToBytes e b)).run P w := by
          simp only [valued, convert, Sem.run_bind, run_underlying hs, run_underlying hd, Result.andThen_ok]
          cases d <;> simp [run_underlying he]
        rw [e1]; exact this
      · exact .stuck
    · exact .stuck
  · exact .stuck

/-! ### Parts of aggregates -/

theorem cutL_sound {t : TypeId} {off : Nat} {c c' : List Value} {v : Value} (hc : LRel P β c c') (h : cutL (shapeOf P t) off c = some v) (w : World) :
    ∃ v', (part t ⟨c'⟩ off).run P w = .ok v' w ∧ VRel P β v v' := by
  unfold cutL at h
  split at h
  · rename_i hs
    rw [lget_eq] at h
    obtain ⟨v', h1, h2⟩ := hc.get h
    exact ⟨v', by simp [part, shapeOf_one hs, h1], h2⟩
  · rename_i n hs
    split at h
    · rename_i l hl
      cases h
      rw [ltake_eq, ldrop_eq] at hl
      split at hl
      · cases hl
        refine ⟨.agg ⟨(c'.drop off).take n⟩, ?_, .agg ((hc.drop off).take n)⟩
        simp only [part, Sem.run_bind, shapeOf_many hs, Result.andThen_ok, if_true, Sem.run_pure]
        congr 2
        apply Array.ext'
        simp [List.extract]
      · cases hl
    · cases h
  · cases h

theorem fieldV_sound (h : Rel P β s w) {t : TypeId} {x x' : Value} {f : Nat} (hx : VRel P β x x') : OpS P β s w (fieldV P t x f s) ((valued (Instr.field t x' f)).run P w) := by
  unfold fieldV
  split
  · rename_i cs fields hu
    split
    · rename_i fd hfd
      rw [lget_eq] at hfd
      have hfd' : fields[f]? = some fd := by simpa using hfd
      split
      · rename_i v hv
        cases hx with
        | agg hl =>
          obtain ⟨v', h1, h2⟩ := cutL_sound hl hv w
          exact .value h h2 (valued_ok (by simp [Instr.field, run_underlying hu, hfd', asAgg, h1]))
      · exact .stuck
    · exact .stuck
  · exact .stuck

theorem indexV_sound (h : Rel P β s w) {t : TypeId} {x x' i i' : Value} (hx : VRel P β x x') (hi : VRel P β i i') : OpS P β s w (indexV P t x i s) ((valued (Instr.index t x' i')).run P w) := by
  unfold indexV
  split
  · rename_i k n
    cases hi
    split
    · rename_i cs len e hu
      split
      · rename_i inf hlt hinf
        have hlt : n < len := by simpa [Nat.blt_eq] using hlt
        split
        · rename_i v hv
          cases hx with
          | agg hl =>
            obtain ⟨v', h1, h2⟩ := cutL_sound hl hv w
            refine .value h h2 (valued_ok ?_)
            simp only [Instr.index, asIntOf, Sem.run_bind, Sem.run_pure, Result.andThen_ok, run_underlying hu]
            rw [if_pos (by constructor; · exact Int.natCast_nonneg n
                           · exact Int.ofNat_lt.2 hlt)]
            simp [run_sizeOf' hinf, h1]
        · exact .stuck
      · exact .stuck
    · rename_i b hu
      split
      · rename_i c hc
        cases hx
        refine .value h (.int _ _) (valued_ok ?_)
        rw [lget_eq] at hc
        have hb : b[n]? = some c := by
          rw [Array.getElem?_toList] at hc
          have hlt : n < b.data.size := by
            rcases Nat.lt_or_ge n b.data.size with hh | hh
            · exact hh
            · rw [Array.getElem?_eq_none hh] at hc; cases hc
          have hlt' : n < b.size := hlt
          rw [getElem?_pos b n hlt']
          rw [Array.getElem?_eq_getElem hlt] at hc
          exact hc
        simp [Instr.index, asIntOf, run_underlying hu, hb]
      · exact .stuck
    · exact .stuck
  · exact .stuck

/-! ### Literals -/

theorem zeroL_spec {t : TypeId} {z : List Value} (h : zeroL P t = some z) : ∃ i v, P.info? t = some i ∧ i.zero = some v ∧ v.cells.toList = z ∧ v.cells.size = i.size ∧ z.all plain1 = true := by
  unfold zeroL at h
  split at h
  · rename_i i hi
    split at h
    · rename_i v hv
      split at h
      · rename_i hb
        cases h
        simp only [Bool.and_eq_true] at hb
        have h2 := Nat.eq_of_beq_eq_true hb.2
        rw [llen_eq] at h2
        refine ⟨i, v, hi, hv, cellsL_eq v, ?_, hb.1⟩
        rw [← Array.length_toList, cellsL_eq]
        omega
      · cases h
    · cases h
  · cases h

theorem foldl_set (off : Nat) : ∀ (vs : List Value) (k : Nat) (c : Array Value), off + k + vs.length ≤ c.size →
    ((vs.zipIdx k).foldl (fun cs (p : Value × Nat) => cs.setIfInBounds (off + p.2) p.1) c).toList = c.toList.take (off + k) ++ vs ++ c.toList.drop (off + k + vs.length)
  | [], k, c, h => by simp
  | v :: vs, k, c, h => by
    simp only [List.zipIdx_cons, List.foldl_cons]
    simp only [List.length_cons] at h
    rw [foldl_set off vs (k + 1) (c.setIfInBounds (off + k) v) (by simp; omega)]
    rw [Array.toList_setIfInBounds]
    have hlt : off + k < c.toList.length := by simp; omega
    rw [show off + (k + 1) = off + k + 1 by omega]
    rw [List.take_set, List.drop_set_of_lt (by omega)]
    rw [List.take_succ_eq_append_getElem hlt]
    rw [List.set_append_right _ _ (by simp; omega)]
    have e1 : off + k - (List.take (off + k) c.toList).length = 0 := by simp; omega
    rw [e1]
    simp only [List.set_cons_zero, List.length_cons, List.append_assoc, List.cons_append, List.nil_append]
    rw [show off + k + 1 + vs.length = off + k + (vs.length + 1) by omega]

theorem fill_sound {place : Nat → Option (Nat × Nat)} {ρ ρ' : Operand → Value} : ∀ (parts : List (Nat × Operand)) (c c' r : List Value), LRel P β c c' → (∀ p ∈ parts, VRel P β (ρ p.2) (ρ' p.2)) →
    fillL place ρ parts c = some r → ∃ r', Instr.fill place ⟨c'⟩ (parts.map fun p => (p.1, ρ' p.2)) = some ⟨r'⟩ ∧ LRel P β r r'
  | [], c, c', r, hc, _, h => by
    simp only [fillL, Option.some.injEq] at h
    subst h
    exact ⟨c', rfl, hc⟩
  | (i, x) :: rest, c, c', r, hc, hp, h => by
    unfold fillL at h
    split at h
    · rename_i off size hpl
      split at h
      · rename_i c₁ hsz hput
        have hx : LRel P β (cellsL (ρ x)) (ρ' x).cells.toList := (hp (i, x) (by simp)).cells
        have hsz := Nat.eq_of_beq_eq_true hsz
        rw [llen_eq] at hsz
        obtain ⟨hlen, rfl⟩ := lput_spec _ _ _ _ hput
        have hl1 := hx.length
        rw [Array.length_toList] at hl1
        have hl2 := hc.length
        have e1 : ((ρ' x).cells.size ≠ size || off + (ρ' x).cells.size > (⟨c'⟩ : Array Value).size) = false := by
          have h1 : (ρ' x).cells.size = size := by omega
          have h2 : ¬ off + (ρ' x).cells.size > c'.length := by omega
          simp [h1]
          omega
        have hset := foldl_set off (ρ' x).cells.toList 0 ⟨c'⟩ (by simp; omega)
        obtain ⟨r', g1, g2⟩ := fill_sound rest (c.take off ++ cellsL (ρ x) ++ c.drop (off + (cellsL (ρ x)).length)) (c'.take off ++ (ρ' x).cells.toList ++ c'.drop (off + (ρ' x).cells.toList.length)) r
          (((hc.take off).append hx).append (by rw [hx.length]; exact hc.drop _)) (fun p hpp => hp p (by simp [hpp])) h
        refine ⟨r', ?_, g2⟩
        rw [← g1]
        simp only [List.map_cons, Instr.fill, hpl]
        rw [if_neg (by rw [e1]; simp)]
        congr 1
        apply Array.ext'
        rw [← Array.foldl_toList, Array.toList_zipIdx]
        simpa using hset
      · cases h
    · cases h

theorem run_places : ∀ (fields : List Field) (w : World), fields.all (fun f => (P.info? f.type).isSome) = true →
    ∃ l : List (Nat × Nat), (fields.mapM fun f => do pure (f.offset, ← sizeOf f.type) : Sem (List (Nat × Nat))).run P w = .ok l w ∧ ∀ i p, placeF P fields i = some p → l[i]? = some p
  | [], w, _ => ⟨[], rfl, by simp [placeF, lget]⟩
  | f :: fs, w, h => by
    simp only [List.all_cons, Bool.and_eq_true] at h
    obtain ⟨l, h1, h2⟩ := run_places fs w h.2
    obtain ⟨inf, hinf⟩ := Option.isSome_iff_exists.1 h.1
    refine ⟨(f.offset, inf.size) :: l, ?_, fun i p hp => ?_⟩
    · simp only [List.mapM_cons, Sem.run_bind, run_sizeOf' hinf, Result.andThen_ok, Sem.run_pure, h1]
    · cases i with
      | zero => simpa [placeF, lget, hinf] using hp
      | succ i => simpa using h2 i p (by simpa [placeF, lget] using hp)

theorem fill_place {place place' : Nat → Option (Nat × Nat)} : ∀ (parts : List (Nat × Operand)) (ρ : Operand → Value) (c : List Value) (r : List Value), (∀ i p, place i = some p → place' i = some p) →
    fillL place ρ parts c = some r → fillL place' ρ parts c = some r
  | [], _, _, _, _, h => h
  | (i, x) :: rest, ρ, c, r, hp, h => by
    unfold fillL at h ⊢
    split at h
    · rename_i off size hpl
      rw [hp _ _ hpl]
      split at h
      · rename_i c₁ e1 e2
        simp only [e1, e2]
        exact fill_place rest ρ _ r hp h
      · cases h
    · cases h

theorem build_sound (h : Rel P β s w) {t : TypeId} {parts : Array (Nat × Operand)} {ρ ρ' : Operand → Value} (hp : ∀ p ∈ parts.toList, VRel P β (ρ p.2) (ρ' p.2)) :
    OpS P β s w (buildM P t parts.toList ρ s) ((valued (Instr.build t (parts.map fun (i, x) => (i, ρ' x)))).run P w) := by
  have hparts : (parts.map fun (i, x) => (i, ρ' x)).toList = parts.toList.map fun p => (p.1, ρ' p.2) := by simp
  unfold buildM
  split
  · rename_i z fields hz hu
    split
    · rename_i c hall hfill
      obtain ⟨i, v, h1, h2, h3, h4, h5⟩ := zeroL_spec hz
      obtain ⟨l, g1, g2⟩ := run_places fields.toList w hall
      have hfill' := fill_place _ _ _ _ (place' := fun i => (⟨l⟩ : Array (Nat × Nat))[i]?) (fun i p hp => by simpa using g2 i p hp) hfill
      obtain ⟨r', q1, q2⟩ := fill_sound _ _ _ _ (plainL_rel h5) hp hfill'
      refine .value h (.agg q2) (valued_ok ?_)
      have hzc : v.cells = ⟨z⟩ := by apply Array.ext'; rw [h3]
      have hm : (fields.mapM fun f => do pure (f.offset, ← sizeOf f.type) : Sem (Array (Nat × Nat))).run P w = .ok ⟨l⟩ w := by
        rw [Array.mapM_eq_mapM_toList, Sem.run_map, g1]
        rfl
      simp only [Instr.build, Sem.run_bind, run_zeroValue' h1 h2, Result.andThen_ok, run_underlying hu, hm, hzc, hparts, q1, Sem.run_pure]
    · exact .stuck
  · rename_i z n e hz hu
    split
    · rename_i inf hinf
      split
      · rename_i c hfill
        obtain ⟨i, v, h1, h2, h3, h4, h5⟩ := zeroL_spec hz
        obtain ⟨r', q1, q2⟩ := fill_sound _ _ _ _ (plainL_rel h5) hp hfill
        refine .value h (.agg q2) (valued_ok ?_)
        have hzc : v.cells = ⟨z⟩ := by apply Array.ext'; rw [h3]
        simp only [Instr.build, Sem.run_bind, run_zeroValue' h1 h2, Result.andThen_ok, run_underlying hu, run_sizeOf' hinf, hzc, hparts, q1, Sem.run_pure]
      · exact .stuck
    · exact .stuck
  · exact .stuck

theorem repL_length (l : List Value) : ∀ k, (repL l k).length = k * l.length
  | 0 => by simp [repL]
  | k + 1 => by simp [repL, repL_length l k, Nat.add_mul, Nat.add_comm]

theorem repL_get (l : List Value) : ∀ (k i : Nat), i < k * l.length → (repL l k)[i]? = l[i % l.length]?
  | 0, i, h => by simp at h
  | k + 1, i, h => by
    simp only [repL]
    rw [List.getElem?_append]
    split
    · rename_i hlt
      rw [Nat.mod_eq_of_lt hlt]
    · rename_i hge
      rw [repL_get l k (i - l.length) (by rw [Nat.add_mul, Nat.one_mul] at h; omega)]
      congr 1
      exact (Nat.mod_eq_sub_mod (a := i) (b := l.length) (by omega)).symm

theorem range_repL {z : Array Value} (n : Nat) (hz : n * z.size ≠ 0) : ((Array.range (n * z.size)).map fun i => z[i % z.size]!).toList = repL z.toList n := by
  have hpos : 0 < z.size := Nat.pos_of_ne_zero fun e => hz (by rw [e]; rfl)
  apply List.ext_getElem?
  intro i
  by_cases hi : i < n * z.size
  · rw [repL_get _ _ _ (by simpa using hi)]
    have hlt : i % z.size < z.size := Nat.mod_lt _ hpos
    simp [hi, hlt]
  · rw [List.getElem?_eq_none (by simp; omega), List.getElem?_eq_none (by rw [repL_length]; simpa using hi)]

theorem repL_plain {l : List Value} (h : l.all plain1 = true) : ∀ k, (repL l k).all plain1 = true
  | 0 => rfl
  | k + 1 => by simp [repL, h, repL_plain h k]

theorem newK_sound (h : Rel P β s w) {e : TypeId} {c c' : List Value} (hc : LRel P β c c') {len cap : Nat} {r' : Result Next}
    (hr : r' = .ok (.value (.slice (some ⟨w.heap.size, 0, none⟩) len cap)) { w with heap := w.heap.push (.cells ⟨c'⟩ e) }) : OpS P β s w (newK e c len cap s) r' := by
  unfold newK
  split
  · rename_i hroom
    intro hf
    have hnx := free_new hf
    have hx := Ext.row h hroom hnx (c := c) (c' := ⟨c'⟩) e (0, 0) (by simp) (fun i v hv => by
      obtain ⟨v', g1, g2⟩ := hc.get hv
      exact ⟨v', by simpa using g1, g2⟩)
    exact ⟨_, _, _, hr, hx, _, rfl, VRel.sknown (m := ⟨w.heap.size, 0, (⟨c'⟩ : Array Value).size, e⟩) Ren.add_self⟩
  · exact .stuck

/-- The zeros of a new row. -/
theorem zeros_eq {e : TypeId} {inf : TypeInfo} {z : List Value} (hi : P.info? e = some inf) (hz : zeroL P e = some z) (n : Nat) :
    ∃ v, inf.zero = some v ∧ (n * inf.size = 0 → ((Array.range (n * inf.size)).map ((#[] : Array Value)[· % (#[] : Array Value).size]!)) = ⟨repL z n⟩) ∧
      (n * inf.size ≠ 0 → ((Array.range (n * inf.size)).map (v.cells[· % v.cells.size]!)) = ⟨repL z n⟩) := by
  obtain ⟨i, v, h1, h2, h3, h4, h5⟩ := zeroL_spec hz
  rw [hi] at h1; cases h1
  refine ⟨v, h2, fun h0 => ?_, fun h0 => ?_⟩
  · apply Array.ext'
    have : repL z n = [] := by
      apply List.eq_nil_of_length_eq_zero
      rw [repL_length, ← h3, Array.length_toList, h4, h0]
    simp [h0, this]
  · apply Array.ext'
    rw [← h4] at h0 ⊢
    rw [range_repL n h0, h3]

theorem buildSlice_sound (h : Rel P β s w) {t : TypeId} {len : Nat} {parts : Array (Nat × Operand)} {ρ ρ' : Operand → Value} (hp : ∀ p ∈ parts.toList, VRel P β (ρ p.2) (ρ' p.2)) :
    OpS P β s w (buildSliceM P t len parts.toList ρ s) ((valued (Instr.buildSlice t len (parts.map fun (i, x) => (i, ρ' x)))).run P w) := by
  have hparts : (parts.map fun (i, x) => (i, ρ' x)).toList = parts.toList.map fun p => (p.1, ρ' p.2) := by simp
  unfold buildSliceM
  split
  · rename_i e hu
    split
    · rename_i inf z hinf hz
      split
      · rename_i c hle hfill
        obtain ⟨_, _, _, _, _, _, h5⟩ := zeroL_spec hz
        obtain ⟨v, q0, q1, q2⟩ := zeros_eq hinf hz len
        obtain ⟨r', q3, q4⟩ := fill_sound _ _ _ _ (plainL_rel (repL_plain h5 len)) hp hfill
        refine newK_sound h q4 (valued_ok ?_)
        have hle' : ¬ len * inf.size > 2 ^ 24 := by simp only [Nat.ble_eq] at hle; omega
        by_cases h0 : len * inf.size = 0
        · simp only [Instr.buildSlice, Sem.run_bind, run_underlying hu, Result.andThen_ok, run_sizeOf' hinf, hle', if_false]
          rw [if_pos h0]
          simp only [Sem.run_pure, Sem.run_bind, Result.andThen_ok, q1 h0, hparts, q3]
          simp [newRow]
        · simp only [Instr.buildSlice, Sem.run_bind, run_underlying hu, Result.andThen_ok, run_sizeOf' hinf, hle', if_false]
          rw [if_neg h0]
          simp only [Sem.run_pure, Sem.run_bind, Result.andThen_ok, run_zeroValue' hinf q0, q2 h0, hparts, q3]
          simp [newRow]
      · exact .stuck
    · exact .stuck
  · exact .stuck

theorem makeSlice_sound (h : Rel P β s w) {t : TypeId} {l c l' c' : Value} (hl : VRel P β l l') (hc : VRel P β c c') : OpS P β s w (makeSliceM P t l c s) ((valued (Instr.makeSlice t l' c')).run P w) := by
  unfold makeSliceM
  split
  · rename_i e hu
    split
    · rename_i inf z hinf hz
      split
      · rename_i k a k' b
        split
        · rename_i hb
          simp only [Bool.and_eq_true, Nat.ble_eq] at hb
          cases hl; cases hc
          obtain ⟨v, q0, q1, q2⟩ := zeros_eq hinf hz b
          obtain ⟨_, _, _, _, _, _, h5⟩ := zeroL_spec hz
          refine newK_sound h (plainL_rel (repL_plain h5 b)) (valued_ok ?_)
          have hbs : b ≤ 1073741824 := Nat.le_trans (Nat.le_mul_of_pos_right _ (by omega)) hb.2
          have w1 : IntKind.i64.wrap (a : Int) = a := IntWalk.i64_in _ (by omega)
          have w2 : IntKind.i64.wrap (b : Int) = b := IntWalk.i64_in _ (by omega)
          have hbb : b * inf.bytes ≤ 1073741824 := Nat.le_trans (Nat.mul_le_mul_left _ (by omega)) hb.2
          have c1 : ((decide ((b : Int) < 0) || decide ((inf.bytes : Int) * (b : Int) > 2 ^ 48)) || decide ((a : Int) < 0) || decide ((a : Int) > (b : Int))) = false := by
            have h1 : ((b * inf.bytes : Nat) : Int) ≤ 1073741824 := by omega
            rw [Int.natCast_mul, Int.mul_comm] at h1
            simp only [Bool.or_eq_false_iff, decide_eq_false_iff_not]
            exact ⟨⟨⟨by omega, by omega⟩, by omega⟩, by omega⟩
          simp only [Instr.makeSlice, Sem.run_bind, run_underlying hu, Result.andThen_ok, asInt, asIntOf, Sem.run_pure, run_typeInfo hinf, Int.ofNat_eq_natCast, w1, w2, c1, Bool.false_eq_true, if_false, run_askRoom, Int.toNat_natCast, run_sizeOf' hinf]
          by_cases h0 : b * inf.size = 0
          · rw [if_pos h0]
            simp only [Sem.run_pure, Sem.run_bind, Result.andThen_ok, q1 h0]
            simp [newRow]
          · rw [if_neg h0]
            simp only [Sem.run_pure, Sem.run_bind, Result.andThen_ok, run_zeroValue' hinf q0, q2 h0]
            simp [newRow]
        · exact .stuck
      · exact .stuck
    · exact .stuck
  · exact .stuck
end
end Go.M
