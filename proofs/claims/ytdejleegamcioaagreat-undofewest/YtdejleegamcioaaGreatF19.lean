/- Maps from sets to what is known of them: rules. -/
/- The least cleaning of a set: what the program's recursion comes to. -/
/- Which sets come about from a set by splits of sets that need work. -/
/- The state in which the recursion runs. -/
/- The recursion of the least cleaning: what it returns and what it keeps. -/
import Derived.Test.YtdejleegamcioaaGreatF18
namespace Go.Proofs.YtdejleegamcioaaGreat
open Go Go.M
structure Ent where
 k : Int
 n : Int
 x : Sp
def Ent.val (e : Ent) : Value := .agg ⟨.int .i64 e.n :: e.x.cells⟩
def ents : Nat → List Ent → List MapEntry
 | _, [] => []
 | i, e :: E => { key := .int .i64 e.k, val := e.val, born := i } :: ents (i + 1) E
def qq (E : List Ent) : MObj := .map ⟨ents 0 E⟩ E.length
def q8 (E : List Ent) (k : Int) : Option Ent := E.find? fun e => decide (e.k = k)
theorem ents_append : ∀ (i : Nat) (E : List Ent) (e : Ent), ents i (E ++ [e]) = ents i E ++ [{ key := .int .i64 e.k, val := e.val, born := i + E.length }]
 | i, [], e => rfl
 | i, a :: E, e => by
  simp only [List.cons_append, ents, ents_append (i + 1) E e, List.length_cons]
  congr 4
  omega
theorem same_int (a b : Int) : Instr.sameNow (.int .i64) (.int .i64 a) (.int .i64 b) = some (decide (a = b)) := by
 simp only [Instr.sameNow, if_true]
 congr 1
theorem find_none {k : Int} : ∀ {E : List Ent} (i j : Nat), q8 E k = none → Instr.findNow (.int .i64) (.int .i64 k) (ents i E) j = some none
 | [], _, _, _ => rfl
 | e :: E, i, j, h => by
  simp only [q8, List.find?_cons] at h
  split at h
  ·cases h
  ·next hk =>
   simp only [ents, Instr.findNow, same_int]
   have : decide (k = e.k) = false := by
    simp only [decide_eq_false_iff_not] at hk ⊢
    omega
   rw [this]
   exact find_none (i + 1) (j + 1) h
theorem find_some {k : Int} {e : Ent} : ∀ {E : List Ent} (i j : Nat), q8 E k = some e → ∃ m, Instr.findNow (.int .i64) (.int .i64 k) (ents i E) j = some (some (m, e.val))
 | [], _, _, h => by cases h
 | a :: E, i, j, h => by
  simp only [q8, List.find?_cons] at h
  split at h
  ·next hk =>
   rw [Option.some.injEq] at h
   subst h
   simp only [ents, Instr.findNow, same_int]
   have : decide (k = a.k) = true := by
    simp only [decide_eq_true_eq] at hk ⊢
    omega
   rw [this]
   exact ⟨j, rfl⟩
  ·next hk =>
   simp only [ents, Instr.findNow, same_int]
   have : decide (k = a.k) = false := by
    simp only [decide_eq_false_iff_not] at hk ⊢
    omega
   rw [this]
   exact find_some (i + 1) (j + 1) h
section
variable {P : Program} {I : yb} {F : FF} {s : St} {Q : FF → St → Prop} {d : Option Tmp} {ty : TypeId} {pos : String} {af : Array Edge} {g : Option (Nat × Bool)} {W : List Nat} {s0 : St} {L : Hp'} {n : Nat}
theorem op_lookupSome {t kt et : TypeId} {m k : Operand} {r : Nat} {E : List Ent} {x : Int} {e : Ent} {ok : Bool} (hu : P.underlying t = some (.map kt et)) (hk : P.underlying kt = some (.int .i64)) (hm : zH F m = .map (some r)) (hx : zH F k = .int .i64 x) (hg : s.get r = some (qq E)) (hf : q8 E x = some e)
  (h : Q (upd F d (if ok then .tuple ⟨[.agg ⟨.int .i64 e.n :: e.x.cells⟩, .bool true]⟩ else .agg ⟨.int .i64 e.n :: e.x.cells⟩)) s) : OpW P I ⟨d, .lookup t m k ok, ty, pos, af, g⟩ F s Q := by
 obtain ⟨j, hj⟩ := find_some (E := E) 0 0 hf
 refine yj (v := _) (s' := s) ?_ h
 simp only [zK, lookupM, hu, hk, entriesM, hm, hg, qq, hx, keyD, hj, okPair]
 cases ok <;> rfl
def zeroV (P : Program) (t : TypeId) : Option Value :=
 match P.info? t with
 | some i => match i.zero with
  | some z => match plainZ z with
   | true => some z
   | false => none
  | none => none
 | none => none
theorem op_lookupNone {t kt et : TypeId} {m k : Operand} {r : Nat} {E : List Ent} {x : Int} {z : Value} {ok : Bool} (hu : P.underlying t = some (.map kt et)) (hk : P.underlying kt = some (.int .i64)) (hz : zeroV P et = some z) (hm : zH F m = .map (some r)) (hx : zH F k = .int .i64 x) (hg : s.get r = some (qq E)) (hf : q8 E x = none)
  (h : Q (upd F d (if ok then .tuple ⟨[z, .bool false]⟩ else z)) s) : OpW P I ⟨d, .lookup t m k ok, ty, pos, af, g⟩ F s Q := by
 have hj := find_none (E := E) 0 0 hf
 refine yj (v := _) (s' := s) ?_ h
 simp only [zeroV] at hz
 split at hz
 ·next i hi =>
  split at hz
  ·next z' hz' =>
   split at hz
   ·next hp =>
    cases hz
    simp only [zK, lookupM, hu, hk, entriesM, hm, hg, qq, hx, keyD, hj, hi, hz', hp, okPair]
    cases ok <;> rfl
   ·cases hz
  ·cases hz
 ·cases hz
theorem update_new {t kt et : TypeId} {m k v : Operand} {r : Nat} {E : List Ent} {e : Ent} (hu : P.underlying t = some (.map kt et)) (hk : P.underlying kt = some (.int .i64)) (hm : zH F m = .map (some r)) (hx : zH F k = .int .i64 e.k) (hv : zH F v = .agg ⟨.int .i64 e.n :: e.x.cells⟩) (hg : s.get r = some (qq E)) (hmay : s.may r = true) (hf : q8 E e.k = none) :
  zK P (zH F) (.mapUpdate t m k v) s = .ok .skip (s.put r (some (qq (E ++ [e])))) := by
 have hj := find_none (E := E) 0 0 hf
 simp only [zK, updateM, hu, hm, hk, hg, qq, hx, keyD, hj, setM, hmay, hv, ents_append, List.length_append, List.length_singleton, Nat.zero_add, List.push_toArray, Ent.val]
theorem op_update1 {p0 : Nat × MObj} {t kt et : TypeId} {m k v : Operand} {r : Nat} {E : List Ent} {e : Ent} (H : HL W s0 s (p0 :: (r, qq E) :: L) n) (hu : P.underlying t = some (.map kt et)) (hk : P.underlying kt = some (.int .i64)) (hm : zH F m = .map (some r)) (hx : zH F k = .int .i64 e.k) (hv : zH F v = .agg ⟨.int .i64 e.n :: e.x.cells⟩) (hf : q8 E e.k = none) (hr : s0.next + n ≤ zo)
  (h : ∀ s', HL W s0 s' (p0 :: (r, qq (E ++ [e])) :: L) n → Q (upd F d undef) s') : OpW P I ⟨d, .mapUpdate t m k v, ty, pos, af, g⟩ F s Q :=
 qW (update_new hu hk hm hx hv H.own1 (H.own (r, qq E) (by simp)).2.2.1 hf) (h _ (H.put1 _ hr))
theorem op_update2 {p0 p1 : Nat × MObj} {t kt et : TypeId} {m k v : Operand} {r : Nat} {E : List Ent} {e : Ent} (H : HL W s0 s (p0 :: p1 :: (r, qq E) :: L) n) (hu : P.underlying t = some (.map kt et)) (hk : P.underlying kt = some (.int .i64)) (hm : zH F m = .map (some r)) (hx : zH F k = .int .i64 e.k) (hv : zH F v = .agg ⟨.int .i64 e.n :: e.x.cells⟩) (hf : q8 E e.k = none) (hr : s0.next + n ≤ zo)
  (h : ∀ s', HL W s0 s' (p0 :: p1 :: (r, qq (E ++ [e])) :: L) n → Q (upd F d undef) s') : OpW P I ⟨d, .mapUpdate t m k v, ty, pos, af, g⟩ F s Q :=
 qW (update_new hu hk hm hx hv H.own2 (H.own (r, qq E) (by simp)).2.2.1 hf) (h _ (H.put2 _ hr))
theorem _root_.Go.M.HL.callW {W W' : List Nat} {s0 s s' : St} {A L L' : Hp'} {n k : Nat} (H : HL W s0 s (A ++ L) n) (H' : HL W' s s' L' k) (hW : ∀ b, b ∈ W' → ∃ o, (b, o) ∈ A) (hA : ∀ p, p ∈ A → p.1 ∈ W') : HL W s0 s' (L' ++ L) (n + k) := by
 have hm := H.most
 have hm' := H'.most
 have hle := H.le
 have hle' := H'.le
 have hd := H.dist
 rw [List.pairwise_append] at hd
 have hnotW : ∀ p, p ∈ L → p.1 ∉ W' := fun p hp hw => by
  obtain ⟨o, ho⟩ := hW _ hw
  exact hd.2.2 (p.1, o) ho p hp rfl
 refine ⟨H'.bar.trans H.bar, H'.prot.trans H.prot, H.wfb, H.wfp, by omega, by omega, fun p hp => ?_, ?_, fun b hb hw => ?_⟩
 ·rcases List.mem_append.mp hp with hp | hp
  ·obtain ⟨h1, h2, h3, h4⟩ := H'.own p hp
   refine ⟨h1, h2, h3, ?_⟩
   rcases h4 with h | h
   ·exact .inl (by omega)
   ·obtain ⟨o, ho⟩ := hW _ h
    exact (H.own (p.1, o) (by simp [ho])).2.2.2
  ·obtain ⟨h1, h2, h3, h4⟩ := H.own p (by simp [hp])
   refine ⟨by rw [H'.kept _ h2 (hnotW p hp)]; exact h1, by omega, ?_, h4⟩
   rw [St.may_eq H'.bar H'.prot]; exact h3
 ·rw [List.pairwise_append]
  refine ⟨H'.dist, hd.2.1, fun a ha c hc => ?_⟩
  have h1 := (H'.own a ha).2.2.2
  have h2 := (H.own c (by simp [hc])).2.1
  rcases h1 with h | h
  ·omega
  ·intro e
   rw [e] at h
   exact hnotW c hc h
 ·rw [H'.kept b (by omega) (fun hw' => ?_)]
  ·exact H.kept b hb hw
  ·obtain ⟨o, ho⟩ := hW _ hw'
   have := (H.own (b, o) (by simp [ho])).2.2.2
   rcases this with h | h
   ·simp only at h; omega
   ·exact hw h
end
end Go.Proofs.YtdejleegamcioaaGreat
namespace Go.Proofs.YtdejleegamcioaaGreat
open Go Go.M
theorem bv_part {W P : BitVec 64} (h : P &&& ~~~ W = 0#64) (hw : W.toNat < 65536) : P.toNat + (W &&& ~~~ P).toNat = W.toNat := by
 have h1 : W &&& P = P := by
  have e : P = (P &&& W) ||| (P &&& ~~~ W) := by
   apply BitVec.eq_of_getLsbD_eq
   intro i hi
   simp only [BitVec.getLsbD_or, BitVec.getLsbD_and, BitVec.getLsbD_not, hi, decide_true, Bool.true_and]
   cases P.getLsbD i <;> cases W.getLsbD i <;> rfl
  rw [h] at e
  rw [BitVec.and_comm]
  conv => rhs; rw [e]
  simp
 have h2 : (W &&& P) + (W &&& ~~~ P) = W := by
  have hz : (W &&& P) &&& (W &&& ~~~ P) = 0#64 := by
   apply BitVec.eq_of_getLsbD_eq
   intro i hi
   simp only [BitVec.getLsbD_and, BitVec.getLsbD_not, hi, decide_true, Bool.true_and, BitVec.getLsbD_zero]
   cases P.getLsbD i <;> cases W.getLsbD i <;> rfl
  rw [BitVec.add_eq_or_of_and_eq_zero _ _ hz]
  apply BitVec.eq_of_getLsbD_eq
  intro i hi
  simp only [BitVec.getLsbD_or, BitVec.getLsbD_and, BitVec.getLsbD_not, hi, decide_true, Bool.true_and]
  cases P.getLsbD i <;> cases W.getLsbD i <;> rfl
 rw [h1] at h2
 have hP : P.toNat ≤ W.toNat := by
  rw [← h1, BitVec.toNat_and]; exact Nat.and_le_left
 have hR : (W &&& ~~~ P).toNat ≤ W.toNat := by rw [BitVec.toNat_and]; exact Nat.and_le_left
 have h3 : (P + (W &&& ~~~ P)).toNat = W.toNat := by rw [h2]
 rw [BitVec.toNat_add, Nat.mod_eq_of_lt (by omega)] at h3
 exact h3
theorem wrap_zero {n : Nat} (h : n < 18446744073709551616) (hz : IntKind.i64.wrap (n : Int) = 0) : n = 0 := by
 unfold IntKind.wrap at hz
 simp only [show IntKind.i64.bits = 64 from rfl, show IntKind.i64.signed = true from rfl, Bool.true_and] at hz
 split at hz <;> omega
theorem yP {w p : Int} (h : xl w p = true) (hp : p < 9223372036854775808) : 0 < p ∧ p < w ∧ 0 < zI w p ∧ zI w p < w ∧ w < 65536 ∧ zI w p = w - p := by
 simp only [xl, Bool.and_eq_true, decide_eq_true_eq] at h
 obtain ⟨⟨⟨⟨h1, h2⟩, h3⟩, h4⟩, h5⟩ := h
 obtain ⟨a, rfl⟩ := Int.eq_ofNat_of_zero_le (Int.le_of_lt h1)
 obtain ⟨b, rfl⟩ := Int.eq_ofNat_of_zero_le (Int.le_of_lt h3)
 have ha := x8 (a := a) (by omega)
 have hb := x8 (a := b) (by omega)
 have hz : BitVec.ofInt 64 (b : Int) &&& ~~~ BitVec.ofInt 64 (a : Int) = 0#64 := by
  have := wrap_zero (BitVec.isLt _) h4
  exact BitVec.eq_of_toNat_eq (by rw [this]; rfl)
 have hs := bv_part hz (by rw [ha]; omega)
 rw [ha, hb] at hs
 have hr : zI (a : Int) (b : Int) = ((a : Int) - b) := by
  unfold zI bitsI
  simp only
  rw [wrap_in ⟨by omega, by omega⟩]
  omega
 rw [hr]
 omega
section
variable (js : List (Int × Int)) (bad : Int) (may : List Sp)
def y4 (v : Int → Int) (S : Int) (acc : Int × Sp) (m : Sp) : Int × Sp :=
 if m.w ≠ S then acc
 else if v m.p < 65536 ∧ v (zI S m.p) < 65536 ∧ 1 + v m.p + v (zI S m.p) < acc.1 then (1 + v m.p + v (zI S m.p), m)
 else acc
def bst : Nat → Int → Int × Sp
 | 0, _ => (0, default)
 | f + 1, S => if yl S bad 0 js = true then may.foldl (y4 (fun x => (bst f x).1) S) (65536, default) else (0, default)
def bb (S : Int) : Int × Sp := bst js bad may (S.toNat + 1) S
def y0 : Prop := ∀ m ∈ may, xl m.w m.p = true ∧ m.p < 9223372036854775808
variable {js bad may}
theorem stepB_congr {v v' : Int → Int} {S : Int} {acc : Int × Sp} {m : Sp} (h : m.w = S → v m.p = v' m.p ∧ v (zI S m.p) = v' (zI S m.p)) : y4 v S acc m = y4 v' S acc m := by
 unfold y4
 by_cases hw : m.w = S
 ·rw [(h hw).1, (h hw).2]
 ·rw [if_pos hw, if_pos hw]
theorem foldl_congr {v v' : Int → Int} {S : Int} : ∀ {l : List Sp} {acc : Int × Sp}, (∀ m ∈ l, m.w = S → v m.p = v' m.p ∧ v (zI S m.p) = v' (zI S m.p)) → l.foldl (y4 v S) acc = l.foldl (y4 v' S) acc
 | [], _, _ => rfl
 | m :: l, acc, h => by
  simp only [List.foldl_cons]
  rw [stepB_congr (h m (by simp)), foldl_congr fun x hx => h x (by simp [hx])]
theorem bst_fuel (hm : y0 may) : ∀ (f f' : Nat) (S : Int), 0 < S → S.toNat < f → S.toNat < f' → bst js bad may f S = bst js bad may f' S
 | 0, _, S, _, h, _ => by omega
 | _, 0, S, _, _, h => by omega
 | f + 1, f' + 1, S, h0, h1, h2 => by
  simp only [bst]
  split
  ·refine foldl_congr fun m hmm hw => ?_
   obtain ⟨hs, hp⟩ := hm m hmm
   obtain ⟨a1, a2, a3, a4, a5, a6⟩ := yP hs hp
   subst hw
   exact ⟨by rw [bst_fuel hm f f' m.p a1 (by omega) (by omega)], by rw [bst_fuel hm f f' (zI m.w m.p) a3 (by omega) (by omega)]⟩
  ·rfl
theorem bb_eq (hm : y0 may) {S : Int} (h0 : 0 < S) : bb js bad may S = if yl S bad 0 js = true then may.foldl (y4 (fun x => (bb js bad may x).1) S) (65536, default) else (0, default) := by
 show bst js bad may (S.toNat + 1) S = _
 rw [bst]
 split
 ·refine foldl_congr fun m hmm hw => ?_
  obtain ⟨hs, hp⟩ := hm m hmm
  obtain ⟨a1, a2, a3, a4, a5, a6⟩ := yP hs hp
  subst hw
  exact ⟨by rw [bst_fuel hm m.w.toNat (m.p.toNat + 1) m.p a1 (by omega) (by omega)]; rfl, by rw [bst_fuel hm m.w.toNat ((zI m.w m.p).toNat + 1) (zI m.w m.p) a3 (by omega) (by omega)]; rfl⟩
 ·rfl
theorem stepB_range {v : Int → Int} {S : Int} {acc : Int × Sp} {m : Sp} (hv : ∀ x, 0 ≤ v x) (h : 0 ≤ acc.1 ∧ acc.1 ≤ 65536) : 0 ≤ (y4 v S acc m).1 ∧ (y4 v S acc m).1 ≤ 65536 := by
 unfold y4
 have h1 := hv m.p
 have h2 := hv (zI S m.p)
 split
 ·exact h
 ·split
  ·next hc => simp only; omega
  ·exact h
theorem foldl_range {v : Int → Int} {S : Int} (hv : ∀ x, 0 ≤ v x) : ∀ {l : List Sp} {acc : Int × Sp}, (0 ≤ acc.1 ∧ acc.1 ≤ 65536) → 0 ≤ (l.foldl (y4 v S) acc).1 ∧ (l.foldl (y4 v S) acc).1 ≤ 65536
 | [], _, h => h
 | m :: l, acc, h => by
  simp only [List.foldl_cons]
  exact foldl_range hv (stepB_range hv h)
theorem bst_range : ∀ (f : Nat) (S : Int), 0 ≤ (bst js bad may f S).1 ∧ (bst js bad may f S).1 ≤ 65536
 | 0, _ => by simp [bst]
 | f + 1, S => by
  simp only [bst]
  split
  ·exact foldl_range (fun x => (bst_range f x).1) (by simp)
  ·simp
theorem yR (S : Int) : 0 ≤ (bb js bad may S).1 ∧ (bb js bad may S).1 ≤ 65536 := bst_range _ _
def yH (E : List Ent) : List Int := E.map Ent.k
structure Good (js : List (Int × Int)) (bad : Int) (may : List Sp) (E : List Ent) : Prop where
 nodup : (yH E).Nodup
 val : ∀ e ∈ E, (e.n, e.x) = bb js bad may e.k
 clo : ∀ e ∈ E, yl e.k bad 0 js = true → ∀ m ∈ may, m.w = e.k → m.p ∈ yH E ∧ zI e.k m.p ∈ yH E
theorem find_of_key {E : List Ent} {k : Int} (h : k ∈ yH E) : ∃ e, q8 E k = some e := by
 obtain ⟨e, he, rfl⟩ := List.mem_map.mp h
 unfold q8
 cases hf : E.find? (fun x => decide (x.k = e.k)) with
 | some x => exact ⟨x, rfl⟩
 | none => rw [List.find?_eq_none] at hf; exact absurd (by simp) (hf e he)
theorem of_find {E : List Ent} {k : Int} {e : Ent} (h : q8 E k = some e) : e ∈ E ∧ e.k = k := by
 unfold q8 at h
 exact ⟨List.mem_of_find?_eq_some h, by simpa using List.find?_some h⟩
theorem not_key {E : List Ent} {k : Int} (h : q8 E k = none) : k ∉ yH E := fun hk => by
 obtain ⟨e, he⟩ := find_of_key hk
 rw [h] at he
 cases he
theorem find_none_of {E : List Ent} {k : Int} (h : k ∉ yH E) : q8 E k = none := by
 cases hf : q8 E k with
 | none => rfl
 | some e => exact absurd (List.mem_map.mpr ⟨e, (of_find hf).1, (of_find hf).2⟩) h
theorem Good.add {E : List Ent} (h : Good js bad may E) {e : Ent} (hn : e.k ∉ yH E) (hv : (e.n, e.x) = bb js bad may e.k) (hc : yl e.k bad 0 js = true → ∀ m ∈ may, m.w = e.k → m.p ∈ yH E ∧ zI e.k m.p ∈ yH E) : Good js bad may (E ++ [e]) := by
 have hk : yH (E ++ [e]) = yH E ++ [e.k] := by simp [yH]
 refine ⟨?_, fun x hx => ?_, fun x hx hnd m hm hw => ?_⟩
 ·rw [hk, List.nodup_append]
  refine ⟨h.nodup, by simp, fun a ha b hb => ?_⟩
  rw [List.mem_singleton] at hb
  subst hb
  exact fun e => hn (e ▸ ha)
 ·rcases List.mem_append.mp hx with hx | hx
  ·exact h.val x hx
  ·rw [List.mem_singleton] at hx; subst hx; exact hv
 ·rw [hk]
  rcases List.mem_append.mp hx with hx | hx
  ·obtain ⟨h1, h2⟩ := h.clo x hx hnd m hm hw
   exact ⟨List.mem_append_left _ h1, List.mem_append_left _ h2⟩
  ·rw [List.mem_singleton] at hx; subst hx
   obtain ⟨h1, h2⟩ := hc hnd m hm hw
   exact ⟨List.mem_append_left _ h1, List.mem_append_left _ h2⟩
def tbs (t : Int → Nat) (S : Int) : List Sp → Nat
 | [] => 0
 | m :: l => (if m.w = S then t m.p + t (zI S m.p) else 0) + tbs t S l
def tb (may : List Sp) : Nat → Int → Nat
 | 0, _ => 0
 | f + 1, S => 60 + may.length + tbs (tb may f) S may
theorem tbs_append (t : Int → Nat) (S : Int) : ∀ (l r : List Sp), tbs t S (l ++ r) = tbs t S l + tbs t S r
 | [], r => by simp [tbs]
 | m :: l, r => by simp only [List.cons_append, tbs, tbs_append t S l r]; omega
end
end Go.Proofs.YtdejleegamcioaaGreat
namespace Go.Proofs.YtdejleegamcioaaGreat
open Go Go.M
section
variable (js : List (Int × Int)) (bad : Int) (may : List Sp)
inductive Rch (w : Int) : Int → Prop
 | self : Rch w w
 | part {S : Int} {m : Sp} (h : Rch w S) (hn : yl S bad 0 js = true) (hm : m ∈ may) (hw : m.w = S) : Rch w m.p
 | rest {S : Int} {m : Sp} (h : Rch w S) (hn : yl S bad 0 js = true) (hm : m ∈ may) (hw : m.w = S) : Rch w (zI S m.p)
variable {js bad may}
theorem Rch.trans {a b c : Int} (h : Rch js bad may a b) (h' : Rch js bad may b c) : Rch js bad may a c := by
 induction h' with
 | self => exact h
 | part _ hn hm hw ih => exact .part ih hn hm hw
 | rest _ hn hm hw ih => exact .rest ih hn hm hw
end
end Go.Proofs.YtdejleegamcioaaGreat
namespace Go.Proofs.YtdejleegamcioaaGreat
open Go Go.M
abbrev ptr (b : Nat) : Value := .pointer (some ⟨b, 0, none⟩)
structure OfSt (s : St) (r bK bJ bB bM bF : Nat) (vj : Value) (bad : Int) (vm : Value) (js : List (Int × Int)) (may : List Sp) (E : List Ent) : Prop where
 gK : s.get bK = some (.cells [.map (some r)] 96)
 lK : bK < s.next
 gJ : s.get bJ = some (.cells [vj] 24)
 lJ : bJ < s.next
 gB : s.get bB = some (.cells [.int .i64 bad] 23)
 lB : bB < s.next
 gM : s.get bM = some (.cells [vm] 25)
 lM : bM < s.next
 gF : s.get bF = some (.cells [.func (.func 41) #[] #[ptr bK, ptr bJ, ptr bB, ptr bM, ptr bF]] 97)
 lF : bF < s.next
 gR : s.get r = some (qq E)
 lR : r < s.next
 mR : s.may r = true
 sJ : Sl s 30 2 vj (js.map jc)
 sM : Sl s 62 10 vm (may.map Sp.cells)
section
variable {s s' : St} {r bK bJ bB bM bF : Nat} {vj vm : Value} {bad : Int} {js : List (Int × Int)} {may : List Sp} {E E' : List Ent} {L : Hp'} {n : Nat}
theorem oldW (H : HL [r] s s' L n) (hr : s.get r = some (qq E)) {b : Nat} {c : List Value} {e : TypeId} (hb : b < s.next) (hg : s.get b = some (.cells c e)) : s'.get b = some (.cells c e) := by
 rw [H.kept b hb (by
  intro h
  rw [List.mem_singleton] at h
  subst h
  rw [hr] at hg
  cases hg)]
 exact hg
theorem Sl.keptW {e : TypeId} {sz : Nat} {v : Value} {es : List (List Value)} (h : Sl s e sz v es) (H : HL [r] s s' L n) (hr : s.get r = some (qq E)) : Sl s' e sz v es := by
 cases h with
 | nil c hv hl => exact .nil c hv hl
 | block b off cap c hv hg hb hcap hc => exact .block b off cap c hv (oldW H hr hb hg) (by have := H.le; omega) hcap hc
theorem OfSt.later (h : OfSt s r bK bJ bB bM bF vj bad vm js may E) (H : HL [r] s s' L n) (hE : (r, qq E') ∈ L) : OfSt s' r bK bJ bB bM bF vj bad vm js may E' := by
 have hle := H.le
 have ho := H.own _ hE
 exact ⟨oldW H h.gR h.lK h.gK, by have := h.lK; omega, oldW H h.gR h.lJ h.gJ, by have := h.lJ; omega, oldW H h.gR h.lB h.gB, by have := h.lB; omega, oldW H h.gR h.lM h.gM, by have := h.lM; omega, oldW H h.gR h.lF h.gF, by have := h.lF; omega, ho.1, ho.2.1, ho.2.2.1, h.sJ.keptW H h.gR, h.sM.keptW H h.gR⟩
theorem OfSt.hl (h : OfSt s r bK bJ bB bM bF vj bad vm js may E) (hf : Fine s) : HL [r] s s [(r, qq E)] 0 :=
 ⟨rfl, rfl, hf.wfb, hf.wfp, Nat.le_refl _, Nat.le_refl _, fun p hp => by
  rw [List.mem_singleton] at hp
  subst hp
  exact ⟨h.gR, h.lR, h.mR, .inr (by simp)⟩, by simp, fun _ _ _ => rfl⟩
theorem Sl.heap {s1 s2 : St} {e : TypeId} {sz : Nat} {v : Value} {es : List (List Value)} (h : Sl s1 e sz v es) (hh : s2.heap = s1.heap) (hn : s2.next = s1.next) : Sl s2 e sz v es := by
 cases h with
 | nil c hv hl => exact .nil c hv hl
 | block b off cap c hv hg hb hcap hc => exact .block b off cap c hv (by simp only [St.get, hh] at hg ⊢; exact hg) (by rw [hn]; exact hb) hcap hc
theorem OfSt.narrow (h : OfSt s r bK bJ bB bM bF vj bad vm js may E) {X : List Nat} (hX : r ∉ X) : OfSt { s with prot := X ++ s.prot } r bK bJ bB bM bF vj bad vm js may E := by
 refine ⟨h.gK, h.lK, h.gJ, h.lJ, h.gB, h.lB, h.gM, h.lM, h.gF, h.lF, h.gR, h.lR, ?_, h.sJ.heap rfl rfl, h.sM.heap rfl rfl⟩
 have hm := h.mR
 simp only [St.may, Bool.and_eq_true, Bool.not_eq_true', Bool.eq_false_iff, ne_eq, List.any_eq_true, not_exists, not_and] at hm ⊢
 refine ⟨hm.1, fun p hp he => ?_⟩
 rcases List.mem_append.mp hp with hp | hp
 ·exact hX ((Nat.eq_of_beq_eq_true he) ▸ hp)
 ·exact hm.2 p hp he
theorem Fine.narrow {s : St} (h : Fine s) {X : List Nat} (hX : ∀ p ∈ X, p < s.next) : Fine { s with prot := X ++ s.prot } :=
 ⟨h.wfb, fun p hp => by
  rcases List.mem_append.mp hp with hp | hp
  ·exact hX p hp
  ·exact h.wfp p hp⟩
end
end Go.Proofs.YtdejleegamcioaaGreat
namespace Go.Proofs.YtdejleegamcioaaGreat
open Go Go.M
theorem bf99 : buildF Tryz.prog 99 = some ([.int .i64 0, .int .i64 0, .int .i64 0, .bool false, .slice none 0 0, .bool false, .slice none 0 0, .bool false, .slice none 0 0, .bool false, .slice none 0 0], [(0, 1), (1, 10)]) := by kernel_rfl
theorem fb41 : yw Tryz.f41 (Tryz.f41.body.getD .skip) 6 = true := by kernel_rfl
theorem fc41 : yp Tryz.prog 41 = true := by kernel_rfl
theorem fc42 : yp Tryz.prog 42 = true := by kernel_rfl
theorem of99_0 : offF Tryz.prog 99 0 = some 0 := by kernel_rfl
theorem sh96 : ys Tryz.prog 96 = some (none) := by kernel_rfl
theorem sh97 : ys Tryz.prog 97 = some (none) := by kernel_rfl
theorem sh99 : ys Tryz.prog 99 = some (some 11) := by kernel_rfl
theorem sz99 : xe Tryz.prog 99 = some 11 := by kernel_rfl
theorem un23 : Tryz.prog.underlying 23 = some (.int .i64) := by kernel_rfl
theorem un96 : Tryz.prog.underlying 96 = some (.map 23 99) := by kernel_rfl
theorem zf99 : zeroF Tryz.prog 99 = some [.int .i64 0, .int .i64 0, .int .i64 0, .bool false, .slice none 0 0, .bool false, .slice none 0 0, .bool false, .slice none 0 0, .bool false, .slice none 0 0] := by kernel_rfl
theorem zv99 : zeroV Tryz.prog 99 = some (.agg ⟨[.int .i64 0, .int .i64 0, .int .i64 0, .bool false, .slice none 0 0, .bool false, .slice none 0 0, .bool false, .slice none 0 0, .bool false, .slice none 0 0]⟩) := by kernel_rfl
def OfC (I : yb) (js : List (Int × Int)) (bad : Int) (may : List Sp) (r bK bJ bB bM bF : Nat) (vj vm : Value) (f : Nat) : Prop :=
 ∀ (S : Int), 0 < S → S.toNat < f → ∀ (s : St) (E : List Ent), Fine s → OfSt s r bK bJ bB bM bF vj bad vm js may E → Good js bad may E → s.next + tb may f S ≤ zo →
  ∃ v' s', yI Tryz.prog I 41 #[.int .i64 S, ptr bK, ptr bJ, ptr bB, ptr bM, ptr bF] s v' s' ∧ (∃ E', v' = .int .i64 (bb js bad may S).1 ∧ HL [r] s s' [(r, qq E')] (tb may f S) ∧ Good js bad may E' ∧ S ∈ yH E' ∧ ∃ X, E' = E ++ X ∧ (∀ e ∈ X, (0 < e.k ∧ e.k ≤ S) ∧ Rch js bad may S e.k) ∧ X.length ≤ tb may f S)
theorem ql (E X : List Ent) : yH (E ++ X) = yH E ++ yH X := by simp [yH]
theorem key_of_find {E : List Ent} {k : Int} {e : Ent} (h : q8 E k = some e) : k ∈ yH E := by
 obtain ⟨h1, rfl⟩ := of_find h
 exact List.mem_map.mpr ⟨e, h1, rfl⟩
theorem foldl_take {may : List Sp} {v : Int → Int} {S : Int} {i : Nat} {a : Int × Sp} (h : i < may.length) : (may.take (i + 1)).foldl (y4 v S) a = y4 v S ((may.take i).foldl (y4 v S) a) (may.getD i default) := by
 rw [List.take_succ_eq_append_getElem h, List.foldl_append]
 simp [List.getD_eq_getElem?_getD, List.getElem?_eq_getElem h]
theorem yu {may : List Sp} {i : Nat} {m : Sp} (h : i < may.length) (hm : m ∈ may.take (i + 1)) : m ∈ may.take i ∨ m = may.getD i default := by
 rw [List.take_succ_eq_append_getElem h, List.mem_append, List.mem_singleton] at hm
 rcases hm with hm | hm
 ·exact .inl hm
 ·right; rw [hm]; simp [List.getD_eq_getElem?_getD, List.getElem?_eq_getElem h]
theorem qg {may : List Sp} {t : Int → Nat} {S : Int} {i : Nat} (h : i < may.length) : tbs t S (may.take (i + 1)) = tbs t S (may.take i) + (if (may.getD i default).w = S then t (may.getD i default).p + t (zI S (may.getD i default).p) else 0) := by
 rw [List.take_succ_eq_append_getElem h, tbs_append]
 simp [tbs, List.getD_eq_getElem?_getD, List.getElem?_eq_getElem h]
theorem tbs_le {may : List Sp} {t : Int → Nat} {S : Int} (i : Nat) : tbs t S (may.take i) ≤ tbs t S may := by
 conv => rhs; rw [← List.take_append_drop i may]
 rw [tbs_append]
 omega
set_option maxHeartbeats 4000000 in
set_option maxRecDepth 10000 in
theorem of_step {I : yb} (hI : Plain I) {js : List (Int × Int)} {bad : Int} {may : List Sp} (hj : ∀ j ∈ js, joinB j) (hjl : js.length ≤ 16) (hm : y0 may) (hml : may.length ≤ 4096) {r bK bJ bB bM bF : Nat} {vj vm : Value} {f : Nat} (ih : OfC I js bad may r bK bJ bB bM bF vj vm f) : OfC I js bad may r bK bJ bB bM bF vj vm (f + 1) := by
 intro S hS hSf s E hf hst hg hroom
 have H := hst.hl hf
 have htb : tb may (f + 1) S = 60 + may.length + tbs (tb may f) S may := rfl
 rw [htb] at hroom
 rw [htb]
 obtain ⟨am, lenm, cm, rfl, hlm⟩ := hst.sM.isSlice
 rw [List.length_map] at hlm
 subst hlm
 refine yc 6 (hI 41 (by decide) (by decide)) Tryz.func41 rfl fb41 rfl ?_
 refine ze (za rfl (zh (zb (zx ?_))))
 rcases hfe : q8 E S with _ | e
 ·refine ze (za rfl (zl sh96 rfl (by exact oldW H hst.gR hst.lK hst.gK) rfl (za rfl (zf rfl (za rfl (op_lookupNone un96 un23 zv99 rfl rfl H.own0 hfe (za rfl (yq rfl (za rfl (zE rfl rfl (za rfl (zE rfl rfl (za rfl (z6 H zf99 (by omega) (fun b8 s1 H => ?_)))))))))))))))
  refine za rfl (zX (vs := [.int _ _, .int _ _, .int _ _, .bool _, .slice _ _ _, .bool _, .slice _ _ _, .bool _, .slice _ _ _, .bool _, .slice _ _ _]) H sz99 rfl rfl rfl rfl rfl (by omega) (fun s2 H => ?_))
  refine za rfl (zr rfl (zb (ze (za rfl (zi rfl (zb (zv rfl (zD (zj (ze (za rfl (yZ (c := [.int _ _, .int _ _, .int _ _, .bool _, .slice _ _ _, .bool _, .slice _ _ _, .bool _, .slice _ _ _, .bool _, .slice _ _ _]) bf99 rfl (za rfl (z6 H zf99 (by omega) (fun b10 s3 H => ?_)))))))))))))))
  refine za rfl (zX (vs := [.int _ _, .int _ _, .int _ _, .bool _, .slice _ _ _, .bool _, .slice _ _ _, .bool _, .slice _ _ _, .bool _, .slice _ _ _]) H sz99 rfl rfl rfl rfl rfl (by omega) (fun s4 H => ?_))
  refine zb (zx (ze (za rfl (zf rfl (za rfl (zl sh24 rfl (by exact oldW H hst.gR hst.lJ hst.gJ) rfl (za rfl (zl yx rfl (by exact oldW H hst.gR hst.lB hst.gB) rfl (za rfl (zy rfl fc42 rfl ?_))))))))))
  obtain ⟨_, s9, hr, rfl, Hc⟩ := needs_ok (x := S) (bad := bad) hI H.fine (hst.sJ.keptW H hst.gR) hj hjl (by have := H.most; omega)
  refine ⟨_, _, hr, ?_⟩
  clear hr
  have H := H.call0 Hc
  clear Hc
  cases hnd : yl S bad 0 js
  ·refine za rfl (yC rfl (zb (zq rfl (ze (za rfl (zg of99_0 rfl (za rfl (zX (vs := [.int _ _]) H sz3 rfl rfl rfl rfl rfl (by omega) (fun s5 H => ?_)))))))))
   refine zb (ze (za rfl (zl sh96 rfl (by exact oldW H hst.gR hst.lK hst.gK) rfl (za rfl (zf rfl (za rfl (ya sh99 rfl H.own0 rfl (za rfl (op_update2 (e := ⟨S, 0, default⟩) H un96 un23 rfl rfl rfl hfe (by omega) (fun s34 H => ?_))))))))))
   refine zb (ze (za rfl (zh (zb (zu (zn (zp (zQ ?_))))))))
   have hv : ((0 : Int), (default : Sp)) = bb js bad may S := by rw [bb_eq hm hS, if_neg (by rw [hnd]; simp)]
   refine ⟨E ++ [⟨S, 0, default⟩], ?_, (H.drop0.drop0).up (by omega), hg.add (e := ⟨S, 0, default⟩) (not_key hfe) hv (fun h => by rw [hnd] at h; cases h), by rw [ql]; simp [yH], [⟨S, 0, default⟩], rfl, ?_, by simp; omega⟩
   ·rw [← hv]
    rfl
   ·intro e he
    rw [List.mem_singleton] at he
    subst he
    exact ⟨⟨hS, Int.le_refl _⟩, .self⟩
  refine za rfl (yC rfl (zb (zv rfl (zD (zj (zx (ze (za rfl (zl sh25 rfl (by exact oldW H hst.gR hst.lM hst.gM) rfl (za rfl (z7 qF rfl rfl rfl (za rfl (xL (zb (zL ?_)))))))))))))))
  refine yB (fun k F s1 => ∃ (G : FF) (i : Nat) (E1 X1 : List Ent) (acc : Int × Sp) (cnt : Nat), F = lay G [(0, .int .i64 S), (1, ptr bK), (2, ptr bJ), (3, ptr bB), (4, ptr bM), (5, ptr bF), (10, ptr b10), (35, .slice am may.length cm), (36, .int .i64 (may.length : Int)), (37, .int .i64 (i : Int))] ∧ HL [r] s s1 [(b10, .cells (.int .i64 acc.1 :: acc.2.cells) 99), (r, qq E1)] cnt ∧ cnt ≤ 50 + i + tbs (tb may f) S (may.take i) ∧ Good js bad may E1 ∧ E1 = E ++ X1 ∧ (∀ e ∈ X1, (0 < e.k ∧ e.k < S) ∧ Rch js bad may S e.k) ∧ X1.length ≤ tbs (tb may f) S (may.take i) ∧ acc = (may.take i).foldl (y4 (fun y => (bb js bad may y).1) S) (65536, default) ∧ (∀ m ∈ may.take i, m.w = S → m.p ∈ yH E1 ∧ zI S m.p ∈ yH E1) ∧ i ≤ may.length ∧ k = may.length - i) ?_ may.length _ _ ?_
  rotate_left
  ·refine ⟨_, 0, E, [], (65536, default), _, yf ⟨rfl, rfl, rfl, rfl, rfl, rfl, rfl, rfl, rfl, rfl, trivial⟩, H.drop1, by simp [tbs], hg, by simp, (by intro e he; cases he), by simp, rfl, (by intro m hmm; simp at hmm), by omega, by omega⟩
  rintro k F s1 ⟨G, i, E1, X1, acc, cnt, rfl, H, hcnt, hg1, hE1, hX1, hXl, hacc, hcl, hi, rfl⟩
  have htk0 := tbs_le (may := may) (t := tb may f) (S := S) i
  refine ze (za rfl (yg rfl rfl (fun h => ?_) (fun h => ?_)))
  ·refine zb (zx (zq rfl (zD (zj (zx (zL ?_))))))
   obtain ⟨bm, ofm, cmm, rfl, hgm, hbm, hcm⟩ := (hst.sM.keptW H hst.gR).atS rfl (show i < may.length by omega)
   refine ze (za rfl (zB el25 rfl rfl (by omega) (by omega) (za rfl (ya sh62 rfl hgm hcm (za rfl (z6 H zf62 (by omega) (fun b12 s6 H => ?_)))))))
   refine za rfl (zX (vs := [.int _ _, .int _ _, .bool _, .slice _ _ _, .bool _, .slice _ _ _, .bool _, .slice _ _ _, .bool _, .slice _ _ _]) H sz62 rfl rfl rfl rfl rfl (by omega) (fun s7 H => ?_))
   refine zb (zx (ze (za rfl (zg xT rfl (za rfl (zl yx rfl H.own0 rfl (za rfl (zf rfl (za rfl (yM rfl rfl (fun h => ?_) (fun h => ?_)))))))))))
   ·refine zb (zq rfl (yi (zU (z8 (zj (zF (za rfl (zZ rfl rfl (by unfold zS; omega) (za rfl (zf rfl (zb (zO (⟨may.length - (i + 1), by omega, _, i + 1, E1, X1, acc, _, yf ⟨rfl, rfl, rfl, rfl, rfl, rfl, rfl, rfl, rfl, rfl, trivial⟩, H.drop0, ?_, hg1, hE1, hX1, by rw [qg (show i < may.length by omega), if_neg h]; omega, ?_, ?_, by omega, rfl⟩)))))))))))))
    ·rw [qg (show i < may.length by omega), if_neg h]
     omega
    ·rw [foldl_take (show i < may.length by omega), ← hacc, y4, if_pos h]
    ·intro m hmm hw
     rcases yu (show i < may.length by omega) hmm with hmm | hmm
     ·exact hcl m hmm hw
     ·subst hmm; exact absurd hw h
   refine zb (zv rfl (zD (zj ?_)))
   have hxS : (may.getD i default).w = S := by simpa using h
   obtain ⟨hsp, hpb⟩ := hm (may.getD i default) (zR (by omega))
   obtain ⟨hf1, hf2, hf3, hf4, hf5, hf6⟩ := yP hsp hpb
   rw [hxS] at hf2 hf3 hf4 hf5
   have htk := tbs_le (may := may) (t := tb may f) (S := S) (i + 1)
   rw [qg (show i < may.length by omega), if_pos hxS] at htk
   have hr1 := yR (js := js) (bad := bad) (may := may) (may.getD i default).p
   have hr2 := yR (js := js) (bad := bad) (may := may) (zI S (may.getD i default).p)
   refine yy [⟨0, 0, .light, [2, 4, 7]⟩, ⟨1, 0, .light, [0, 4, 7]⟩, ⟨2, 2, .light, [0, 4, 7]⟩, ⟨4, 0, .light, [0, 2, 7]⟩, ⟨5, 0, .light, [0, 2, 4, 7]⟩, ⟨6, 0, .light, [0, 2, 4]⟩, ⟨7, 64, .light, [0, 2, 4]⟩, ⟨8, 224, .light, [0, 2, 4]⟩, ⟨3, 7, .whole, [4, 7]⟩, ⟨9, 511, .whole, []⟩, ⟨10, 1023, .light, []⟩, ⟨11, 2047, .light, []⟩] (by kernel_rfl) (by kernel_rfl) (zG rfl rfl sh97 rfl (by exact oldW H hst.gR hst.lF hst.gF) (by (have := hst.lF; omega)) rfl (zd rfl rfl (zg y9 rfl ⟨rfl, (zG rfl rfl yx rfl H.own0 (by exact H.lim0 (by omega)) rfl (zG rfl rfl sh97 rfl (by exact oldW H hst.gR hst.lF hst.gF) (by (have := hst.lF; omega)) rfl (zd rfl rfl (zf rfl ⟨rfl, (zd rfl rfl (zg y9 rfl ⟨rfl, (zG rfl rfl yx rfl H.own0 (by exact H.lim0 (by omega)) rfl (zd rfl rfl (x7 rfl rfl ⟨rfl, (yn rfl rfl (zy rfl fc41 rfl ?_))⟩)))⟩))⟩))))⟩)))
   have hrF : r ≠ bF := fun e => by have h1 := hst.gR; have h2 := hst.gF; rw [e, h2] at h1; cases h1
   have hd := H.dist
   simp only [List.pairwise_cons, List.mem_cons, List.not_mem_nil, or_false, forall_eq_or_imp, forall_eq, false_imp_iff, implies_true] at hd
   have h12 := H.lt0
   have hlF := hst.lF
   have hle := H.le
   obtain ⟨_, s9, hr, E2, rfl, Hc, hg2, hk2, X2, hX2, hX2b, hX2l⟩ := ih (may.getD i default).p hf1 (by omega) _ E1 (Fine.narrow (X := [bF, b12]) H.fine (by intro p hp; simp only [List.mem_cons, List.not_mem_nil, or_false] at hp; omega)) (OfSt.narrow (X := [bF, b12]) (hst.later H (by simp)) (by simp only [List.mem_cons, List.not_mem_nil, or_false]; omega)) hg1 (by have := H.most; show _ + _ ≤ _; simp only; omega)
   refine ⟨_, _, hr, ?_⟩
   clear hr
   have H := HL.callW (A := [(r, qq E1)]) (L := [_, _]) (HL.swap (A := [_, _]) (B := [_]) H) (HL.wider H.fine (Nat.le_refl _) (fun _ h => List.mem_append_right _ h) Hc) (by intro b hb; rw [List.mem_singleton] at hb; subst hb; exact ⟨_, List.mem_singleton.mpr rfl⟩) (by intro p hp; rw [List.mem_singleton] at hp; subst hp; simp)
   clear Hc
   simp only [List.cons_append, List.nil_append] at H
   refine yn rfl rfl (zy rfl fc41 rfl ?_)
   obtain ⟨_, s9, hr, E3, rfl, Hc, hg3, hk3, X3, hX3, hX3b, hX3l⟩ := ih (zI S (may.getD i default).p) hf3 (by omega) _ E2 H.fine (hst.later H (by simp)) hg2 (by have := H.most; omega)
   refine ⟨_, _, hr, ?_⟩
   clear hr
   have H := HL.callW (A := [(r, qq E2)]) (L := [_, _]) H (HL.wider H.fine (Nat.le_refl _) (fun _ h => h) Hc) (by intro b hb; rw [List.mem_singleton] at hb; subst hb; exact ⟨_, List.mem_singleton.mpr rfl⟩) (by intro p hp; rw [List.mem_singleton] at hp; subst hp; simp)
   clear Hc
   simp only [List.cons_append, List.nil_append] at H
   subst hX3
   subst hX2
   subst hE1
   rw [List.append_assoc, List.append_assoc] at H hg3 hk3
   refine zd rfl rfl (zk rfl ⟨rfl, (zd rfl rfl (zk rfl ⟨rfl, (zV (ze (za rfl (zf rfl (za rfl (zZ rfl rfl (by unfold zS; omega) (za rfl (zf rfl (za rfl (zZ rfl rfl (by unfold zS; omega) (za rfl (zk rfl (zb (ze (za rfl (zf rfl ?_))))))))))))))))⟩))⟩)
   refine za rfl (yg rfl rfl (fun h => ?_) (fun h => ?_))
   ·refine za rfl (zi rfl (za rfl (zf rfl (za rfl (yg rfl rfl (fun h => ?_) (fun h => ?_))))))
    ·refine za rfl (zN rfl rfl (za rfl (zi rfl (za rfl (zf rfl (za rfl (zg of99_0 rfl (za rfl (zl sh3 rfl H.own2 rfl (za rfl (yg rfl rfl (fun h => ?_) (fun h => ?_))))))))))))
     ·refine za rfl (zN rfl rfl (zb (zq rfl (zF (za rfl (zf rfl (za rfl (ya sh62 rfl H.own1 rfl (za rfl (yZ (c := [.int _ _, .int _ _, .int _ _, .bool _, .slice _ _ _, .bool _, .slice _ _ _, .bool _, .slice _ _ _, .bool _, .slice _ _ _]) bf99 rfl (za rfl (qP (vs := [.int _ _, .int _ _, .int _ _, .bool _, .slice _ _ _, .bool _, .slice _ _ _, .bool _, .slice _ _ _, .bool _, .slice _ _ _]) H sz99 rfl rfl rfl rfl rfl (by omega) (fun s8 H => ?_)))))))))))))
      refine zb (zP (zj (zF (za rfl (zZ rfl rfl (by unfold zS; omega) (za rfl (zf rfl (zb (zO (⟨may.length - (i + 1), by omega, _, i + 1, E ++ (X1 ++ (X2 ++ X3)), X1 ++ (X2 ++ X3), (1 + (bb js bad may (may.getD i default).p).1 + (bb js bad may (zI S (may.getD i default).p)).1, (may.getD i default)), _, yf ⟨rfl, rfl, rfl, rfl, rfl, rfl, rfl, rfl, rfl, rfl, trivial⟩, (HL.swap (A := [_]) (B := [_]) H.drop1), ?_, hg3, rfl, ?_, by rw [qg (show i < may.length by omega), if_pos hxS]; simp only [List.length_append]; omega, ?_, ?_, by omega, rfl⟩))))))))))
      ·rw [qg (show i < may.length by omega), if_pos hxS]
       omega
      ·intro e he
       rcases List.mem_append.mp he with he | he
       ·exact hX1 e he
       ·rcases List.mem_append.mp he with he | he
        ·exact ⟨by have := (hX2b e he).1; omega, Rch.trans (Rch.part .self hnd (zR (by omega)) hxS) (hX2b e he).2⟩
        ·exact ⟨by have := (hX3b e he).1; omega, Rch.trans (Rch.rest .self hnd (zR (by omega)) hxS) (hX3b e he).2⟩
      ·rw [foldl_take (show i < may.length by omega), ← hacc, y4, if_neg (by simpa using hxS)]
       rw [if_pos ⟨by assumption, by assumption, by assumption⟩]
      ·intro m hmm hw
       rcases yu (show i < may.length by omega) hmm with hmm | hmm
       ·obtain ⟨q1, q2⟩ := hcl m hmm hw
        rw [← List.append_assoc, ql]
        exact ⟨List.mem_append_left _ q1, List.mem_append_left _ q2⟩
       ·subst hmm
        refine ⟨?_, hk3⟩
        rw [← List.append_assoc, ← List.append_assoc, ql]
        exact List.mem_append_left _ hk2
     refine za rfl (zN rfl rfl (zb (zv rfl (zD (zP (zj (zF (za rfl (zZ rfl rfl (by unfold zS; omega) (za rfl (zf rfl (zb (zO (⟨may.length - (i + 1), by omega, _, i + 1, E ++ (X1 ++ (X2 ++ X3)), X1 ++ (X2 ++ X3), acc, _, yf ⟨rfl, rfl, rfl, rfl, rfl, rfl, rfl, rfl, rfl, rfl, trivial⟩, (HL.swap (A := [_]) (B := [_]) H.drop1), ?_, hg3, rfl, ?_, by rw [qg (show i < may.length by omega), if_pos hxS]; simp only [List.length_append]; omega, ?_, ?_, by omega, rfl⟩))))))))))))))
     ·rw [qg (show i < may.length by omega), if_pos hxS]
      omega
     ·intro e he
      rcases List.mem_append.mp he with he | he
      ·exact hX1 e he
      ·rcases List.mem_append.mp he with he | he
       ·exact ⟨by have := (hX2b e he).1; omega, Rch.trans (Rch.part .self hnd (zR (by omega)) hxS) (hX2b e he).2⟩
       ·exact ⟨by have := (hX3b e he).1; omega, Rch.trans (Rch.rest .self hnd (zR (by omega)) hxS) (hX3b e he).2⟩
     ·rw [foldl_take (show i < may.length by omega), ← hacc, y4, if_neg (by simpa using hxS)]
      rw [if_neg (fun hh => by first | exact absurd hh.1 (by assumption) | exact absurd hh.2.1 (by assumption) | exact absurd hh.2.2 (by assumption))]
     ·intro m hmm hw
      rcases yu (show i < may.length by omega) hmm with hmm | hmm
      ·obtain ⟨q1, q2⟩ := hcl m hmm hw
       rw [← List.append_assoc, ql]
       exact ⟨List.mem_append_left _ q1, List.mem_append_left _ q2⟩
      ·subst hmm
       refine ⟨?_, hk3⟩
       rw [← List.append_assoc, ← List.append_assoc, ql]
       exact List.mem_append_left _ hk2
    refine za rfl (zN rfl rfl (za rfl (zi rfl (zc rfl (zc rfl (zc rfl (zc rfl (za rfl (zY rfl (zb (zv rfl (zD (zP (zj ?_))))))))))))))
    refine zF (za rfl (zZ rfl rfl (by unfold zS; omega) (za rfl (zf rfl (zb (zO (⟨may.length - (i + 1), by omega, _, i + 1, E ++ (X1 ++ (X2 ++ X3)), X1 ++ (X2 ++ X3), acc, _, yf ⟨rfl, rfl, rfl, rfl, rfl, rfl, rfl, rfl, rfl, rfl, trivial⟩, (HL.swap (A := [_]) (B := [_]) H.drop1), ?_, hg3, rfl, ?_, by rw [qg (show i < may.length by omega), if_pos hxS]; simp only [List.length_append]; omega, ?_, ?_, by omega, rfl⟩)))))))
    ·rw [qg (show i < may.length by omega), if_pos hxS]
     omega
    ·intro e he
     rcases List.mem_append.mp he with he | he
     ·exact hX1 e he
     ·rcases List.mem_append.mp he with he | he
      ·exact ⟨by have := (hX2b e he).1; omega, Rch.trans (Rch.part .self hnd (zR (by omega)) hxS) (hX2b e he).2⟩
      ·exact ⟨by have := (hX3b e he).1; omega, Rch.trans (Rch.rest .self hnd (zR (by omega)) hxS) (hX3b e he).2⟩
    ·rw [foldl_take (show i < may.length by omega), ← hacc, y4, if_neg (by simpa using hxS)]
     rw [if_neg (fun hh => by first | exact absurd hh.1 (by assumption) | exact absurd hh.2.1 (by assumption) | exact absurd hh.2.2 (by assumption))]
    ·intro m hmm hw
     rcases yu (show i < may.length by omega) hmm with hmm | hmm
     ·obtain ⟨q1, q2⟩ := hcl m hmm hw
      rw [← List.append_assoc, ql]
      exact ⟨List.mem_append_left _ q1, List.mem_append_left _ q2⟩
     ·subst hmm
      refine ⟨?_, hk3⟩
      rw [← List.append_assoc, ← List.append_assoc, ql]
      exact List.mem_append_left _ hk2
   refine za rfl (zi rfl (zc rfl (zc rfl (za rfl (zY rfl (za rfl (zi rfl (zc rfl (zc rfl (zc rfl (zc rfl (za rfl (zY rfl (zb (zv rfl ?_)))))))))))))))
   refine zD (zP (zj (zF (za rfl (zZ rfl rfl (by unfold zS; omega) (za rfl (zf rfl (zb (zO (⟨may.length - (i + 1), by omega, _, i + 1, E ++ (X1 ++ (X2 ++ X3)), X1 ++ (X2 ++ X3), acc, _, yf ⟨rfl, rfl, rfl, rfl, rfl, rfl, rfl, rfl, rfl, rfl, trivial⟩, (HL.swap (A := [_]) (B := [_]) H.drop1), ?_, hg3, rfl, ?_, by rw [qg (show i < may.length by omega), if_pos hxS]; simp only [List.length_append]; omega, ?_, ?_, by omega, rfl⟩))))))))))
   ·rw [qg (show i < may.length by omega), if_pos hxS]
    omega
   ·intro e he
    rcases List.mem_append.mp he with he | he
    ·exact hX1 e he
    ·rcases List.mem_append.mp he with he | he
     ·exact ⟨by have := (hX2b e he).1; omega, Rch.trans (Rch.part .self hnd (zR (by omega)) hxS) (hX2b e he).2⟩
     ·exact ⟨by have := (hX3b e he).1; omega, Rch.trans (Rch.rest .self hnd (zR (by omega)) hxS) (hX3b e he).2⟩
   ·rw [foldl_take (show i < may.length by omega), ← hacc, y4, if_neg (by simpa using hxS)]
    rw [if_neg (fun hh => by first | exact absurd hh.1 (by assumption) | exact absurd hh.2.1 (by assumption) | exact absurd hh.2.2 (by assumption))]
   ·intro m hmm hw
    rcases yu (show i < may.length by omega) hmm with hmm | hmm
    ·obtain ⟨q1, q2⟩ := hcl m hmm hw
     rw [← List.append_assoc, ql]
     exact ⟨List.mem_append_left _ q1, List.mem_append_left _ q2⟩
    ·subst hmm
     refine ⟨?_, hk3⟩
     rw [← List.append_assoc, ← List.append_assoc, ql]
     exact List.mem_append_left _ hk2
  refine zb (zx (zv rfl (yi (zU (ye (z8 (zj ?_)))))))
  have hnf : q8 E1 S = none := by
   refine find_none_of fun hk => ?_
   rw [hE1, ql, List.mem_append] at hk
   rcases hk with hk | hk
   ·exact not_key hfe hk
   ·obtain ⟨e, he, hek⟩ := List.mem_map.mp hk
    have := (hX1 e he).1
    omega
  refine ze (za rfl (zl sh96 rfl (by exact oldW H hst.gR hst.lK hst.gK) rfl (za rfl (zf rfl (za rfl (ya sh99 rfl H.own0 rfl (za rfl (op_update1 (e := ⟨S, acc.1, acc.2⟩) H un96 un23 rfl rfl rfl hnf (by have := tbs_le (may := may) (t := tb may f) (S := S) i; omega) (fun s77 H => ?_)))))))))
  refine zb (ze (za rfl (zg of99_0 rfl (za rfl (zl sh3 rfl H.own0 rfl (za rfl (zk rfl (zb (zu (zp (zQ ?_)))))))))))
  have hi2 : i = may.length := by omega
  rw [hi2, List.take_length] at hacc hcl
  have hv : (acc.1, acc.2) = bb js bad may S := by rw [bb_eq hm hS, if_pos hnd, ← hacc]
  refine ⟨E1 ++ [⟨S, acc.1, acc.2⟩], ?_, H.drop0.up (by have := tbs_le (may := may) (t := tb may f) (S := S) i; omega), hg1.add (e := ⟨S, acc.1, acc.2⟩) (not_key hnf) hv (fun _ m hmm hw => hcl m hmm hw), by rw [ql]; simp [yH], X1 ++ [⟨S, acc.1, acc.2⟩], by rw [hE1, List.append_assoc], ?_, by have := tbs_le (may := may) (t := tb may f) (S := S) i; simp only [List.length_append, List.length_singleton]; omega⟩
  ·rw [← hv]
   rfl
  ·intro e he
   rcases List.mem_append.mp he with he | he
   ·exact ⟨by have := (hX1 e he).1; omega, (hX1 e he).2⟩
   ·rw [List.mem_singleton] at he
    subst he
    exact ⟨⟨hS, Int.le_refl _⟩, .self⟩
 refine ze (za rfl (zl sh96 rfl (by exact oldW H hst.gR hst.lK hst.gK) rfl (za rfl (zf rfl (za rfl (op_lookupSome (e := e) un96 un23 rfl rfl H.own0 hfe (za rfl (yq rfl (za rfl (zE rfl rfl (za rfl (zE rfl rfl (za rfl (z6 H zf99 (by omega) (fun b8 s9 H => ?_)))))))))))))))
 refine za rfl (zX (vs := [.int _ _, .int _ _, .int _ _, .bool _, .slice _ _ _, .bool _, .slice _ _ _, .bool _, .slice _ _ _, .bool _, .slice _ _ _]) H sz99 rfl rfl rfl rfl rfl (by omega) (fun s10 H => ?_))
 refine za rfl (zr rfl (zb (ze (za rfl (zi rfl (zb (zq rfl (ze (za rfl (zg of99_0 rfl (za rfl (zl sh3 rfl H.own0 rfl (za rfl (zk rfl (zb (zu ?_))))))))))))))))
 refine zn (zp (zQ ?_))
 obtain ⟨he1, he2⟩ := of_find hfe
 have hv := hg.val e he1
 rw [he2] at hv
 refine ⟨E, ?_, H.drop0.up (by omega), hg, key_of_find hfe, [], by simp, (by intro e he; cases he), by simp⟩
 show Value.int .i64 e.n = _
 rw [← hv]
theorem of_ok {I : yb} (hI : Plain I) {js : List (Int × Int)} {bad : Int} {may : List Sp} (hj : ∀ j ∈ js, joinB j) (hjl : js.length ≤ 16) (hm : y0 may) (hml : may.length ≤ 4096) {r bK bJ bB bM bF : Nat} {vj vm : Value} : ∀ f, OfC I js bad may r bK bJ bB bM bF vj vm f
 | 0 => fun S _ h => by omega
 | f + 1 => of_step hI hj hjl hm hml (of_ok hI hj hjl hm hml f)
end Go.Proofs.YtdejleegamcioaaGreat
