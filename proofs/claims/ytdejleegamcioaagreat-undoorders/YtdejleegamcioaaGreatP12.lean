/- Rules for operations that make slices and structs; maps; drawn regions. -/
/- Bits of numbers. -/
/- More rules: results in cells; slices that a function owns. -/
import Derived.Test.YtdejleegamcioaaGreatP11
namespace Go.M
section
variable {P : Program} {I : zJ} {F : FF} {s : St} {Q : FF → St → Prop} {d : Option Tmp} {ty : TypeId} {pos : String} {af : Array Edge} {g : Option (Nat × Bool)}
variable {W : List Nat} {s0 : St} {L : Hp'} {n : Nat}
def placesL (P : Program) : List Field → List (Nat × Nat)
  | [] => []
  | f :: l => (f.offset, match P.info? f.type with
    | some i => i.size
    | none => 0) :: placesL P l
def rowL (sz : Nat) : Nat → Nat → List (Nat × Nat)
  | _, 0 => []
  | i, k + 1 => (i * sz, sz) :: rowL sz (i + 1) k
def buildF (P : Program) (t : TypeId) : Option (List Value × List (Nat × Nat)) :=
  match zeroL P t, P.underlying t with
  | some z, some (.struct fields) => match fields.toList.all (fun f => (P.info? f.type).isSome) with
    | true => some (z, placesL P fields.toList)
    | false => none
  | some z, some (.array n e) => match P.info? e with
    | some inf => some (z, rowL inf.size 0 n)
    | none => none
  | _, _ => none
theorem fillL_mono {p q : Nat → Option (Nat × Nat)} {ρ : Operand → Value} (h : ∀ i x, p i = some x → q i = some x) : ∀ (l : List (Nat × Operand)) (c r : List Value), xL p ρ l c = some r → xL q ρ l c = some r
  | [], _, _, e => e
  | (i, x) :: l, c, r, e => by
    simp only [xL] at e ⊢
    cases hp : p i with
    | none => rw [hp] at e; cases e
    | some y =>
      rw [hp] at e
      rw [h i y hp]
      simp only at e ⊢
      split at e
      · next c' h1 h2 =>
        exact fillL_mono h l c' r e
      · cases e
theorem places_ok {P : Program} : ∀ (l : List Field) (i : Nat) (x : Nat × Nat), l.all (fun f => (P.info? f.type).isSome) = true → yo (placesL P l) i = some x → placeF P l i = some x
  | [], i, x, _, h => by simp [placesL, yo] at h
  | f :: l, 0, x, ha, h => by
    simp only [List.all_cons, Bool.and_eq_true] at ha
    simp only [placesL, yo, Option.some.injEq] at h
    simp only [placeF, yo]
    cases hi : P.info? f.type with
    | none => rw [hi] at ha; simp at ha
    | some inf => rw [hi] at h; simp only at h ⊢; rw [h]
  | f :: l, i + 1, x, ha, h => by
    simp only [List.all_cons, Bool.and_eq_true] at ha
    simp only [placesL, yo] at h
    have := places_ok l i x (by simpa using ha.2) h
    simp only [placeF] at this ⊢
    simpa only [yo] using this
theorem row_ok {sz : Nat} : ∀ (k j i : Nat) (x : Nat × Nat), yo (rowL sz j k) i = some x → some x = some ((j + i) * sz, sz)
  | 0, j, i, x, h => by simp [rowL, yo] at h
  | k + 1, j, 0, x, h => by simp only [rowL, yo] at h; rw [← h]; simp
  | k + 1, j, i + 1, x, h => by
    simp only [rowL, yo] at h
    have := row_ok k (j + 1) i x h
    rw [this]
    congr 3
    omega
theorem yN {t : TypeId} {parts : Array (Nat × Operand)} {z c : List Value} {pl : List (Nat × Nat)} (hb : buildF P t = some (z, pl)) (hc : xL (yo pl) (zn F) parts.toList z = some c) (k : Q (upd F d (.agg ⟨c⟩)) s) :
    OpW P I ⟨d, .build t parts, ty, pos, af, g⟩ F s Q := by
  refine zS (v := .agg ⟨c⟩) (s' := s) ?_ k
  simp only [buildF] at hb
  split at hb
  · next z' fields hz hu =>
    split at hb
    · next ha =>
      simp only [Option.some.injEq, Prod.mk.injEq] at hb
      obtain ⟨rfl, rfl⟩ := hb
      have := fillL_mono (q := placeF P fields.toList) (fun i x h => places_ok _ i x ha h) _ _ _ hc
      simp only [zr, buildM, hz, hu, ha, this]
      rfl
    · cases hb
  · next z' m e hz hu =>
    cases hi : P.info? e with
    | none => rw [hi] at hb; cases hb
    | some inf =>
      rw [hi] at hb
      simp only [Option.some.injEq, Prod.mk.injEq] at hb
      obtain ⟨rfl, rfl⟩ := hb
      have := fillL_mono (q := fun i => some (i * inf.size, inf.size)) (fun i x h => by have := row_ok _ _ _ _ h; rw [Nat.zero_add] at this; exact this.symm) _ _ _ hc
      simp only [zr, buildM, hz, hu, hi, this]
      rfl
  · cases hb
def xG (P : Program) (t : TypeId) : Option (TypeId × Nat × Nat × List Value) :=
  match P.underlying t with
  | some (.slice e) => match P.info? e, zeroL P e with
    | some inf, some z => some (e, inf.size, inf.bytes, z)
    | _, _ => none
  | _ => none
theorem xp {t e : TypeId} {sz by_ : Nat} {z : List Value} (h : xG P t = some (e, sz, by_, z)) : P.underlying t = some (.slice e) ∧ ∃ inf z', P.info? e = some inf ∧ inf.size = sz ∧ inf.bytes = by_ ∧ zeroL P e = some z ∧ inf.zero = some z' ∧ yY (yv z') 0 = inf.size := by
  simp only [xG] at h
  split at h
  · next e' hu =>
    split at h
    · next inf z' hi hz =>
      simp only [Option.some.injEq, Prod.mk.injEq] at h
      obtain ⟨rfl, rfl, rfl, rfl⟩ := h
      refine ⟨hu, inf, ?_⟩
      have hz2 := hz
      simp only [zeroL, hi] at hz2
      cases hzz : inf.zero with
      | none => rw [hzz] at hz2; cases hz2
      | some zz =>
        rw [hzz] at hz2
        simp only at hz2
        split at hz2
        · next hp =>
          simp only [Bool.and_eq_true] at hp
          exact ⟨zz, hi, rfl, rfl, hz, rfl, Nat.eq_of_beq_eq_true hp.2⟩
        · cases hz2
    · cases h
  · cases h
theorem ya {t e : TypeId} {len : Nat} {parts : Array (Nat × Operand)} {sz by_ : Nat} {z c : List Value} (H : HL W s0 s L n) (hs : xG P t = some (e, sz, by_, z)) (hl : Nat.ble (len * sz) 16777216 = true)
    (hc : xL (fun i => some (i * sz, sz)) (zn F) parts.toList (repL z len) = some c) (hr : s0.next + n < zh)
    (k : ∀ b s', HL W s0 s' ((b, .cells c e) :: L) (n + 1) → Q (upd F d (.slice (some ⟨b, 0, none⟩) len (2 * len))) s') : OpW P I ⟨d, .buildSlice t len parts, ty, pos, af, g⟩ F s Q := by
  obtain ⟨hu, inf, z', hi, rfl, _, hz, _, _⟩ := xp hs
  refine zS (v := .slice (some ⟨s.next, 0, none⟩) len (2 * len)) (s' := s.new (.cells c e)) ?_ (k _ _ (H.new _ hr))
  have hroom := H.room hr
  simp only [zr, xq, hu, hi, hz, hl, hc, newK, hroom]
  rfl
theorem op_makeSlice {t e : TypeId} {l m : Operand} {sz by_ : Nat} {z : List Value} {a b : Nat} {k1 k2 : IntKind} (H : HL W s0 s L n) (hs : xG P t = some (e, sz, by_, z)) (hl : zn F l = .int k1 (a : Int)) (hm : zn F m = .int k2 (b : Int))
    (h1 : a ≤ b) (h2 : b * (by_ + 1) ≤ 1073741824) (hr : s0.next + n < zh)
    (k : ∀ bl s', HL W s0 s' ((bl, .cells (repL z b) e) :: L) (n + 1) → Q (upd F d (.slice (some ⟨bl, 0, none⟩) a (2 * b))) s') : OpW P I ⟨d, .makeSlice t l m, ty, pos, af, g⟩ F s Q := by
  obtain ⟨hu, inf, z', hi, rfl, rfl, hz, _, _⟩ := xp hs
  refine zS (v := .slice (some ⟨s.next, 0, none⟩) a (2 * b)) (s' := s.new (.cells (repL z b) e)) ?_ (k _ _ (H.new _ hr))
  have hroom := H.room hr
  have e1 : (Nat.ble a b && Nat.ble (b * (inf.bytes + 1)) 1073741824) = true := by
    rw [Bool.and_eq_true]; exact ⟨Nat.ble_eq_true_of_le h1, Nat.ble_eq_true_of_le h2⟩
  simp only [zr, makeSliceM, hu, hi, hz, hl, hm]
  show (match (Nat.ble a b && Nat.ble (b * (inf.bytes + 1)) 1073741824) with | true => newK e (repL z b) a b s | false => .stuck) = _
  simp only [e1, newK, hroom]
  rfl
def Elems (s : St) (sz : Nat) (v : Value) (m : Nat) (l : List Value) : Prop := (∃ a c, v = .slice a m c) ∧ xJ sz m v s = some l
theorem elems_nil {sz c : Nat} : Elems s sz (.slice none 0 c) 0 [] := ⟨⟨_, _, rfl⟩, rfl⟩
theorem elems_block {sz b off m cap : Nat} {c l : List Value} {e : TypeId} (hg : s.get b = some (.cells c e)) (hl : (c.drop off).take (m * sz) = l) (hm : off + m * sz ≤ c.length) : Elems s sz (.slice (some ⟨b, off, none⟩) m cap) m l := by
  refine ⟨⟨_, _, rfl⟩, ?_⟩
  simp only [xJ, hg, xX, qi, List.length_drop]
  rw [if_pos (by omega), hl]
theorem yH {sz b m cap : Nat} {c : List Value} {e : TypeId} (hg : s.get b = some (.cells c e)) (hm : m * sz = c.length) : Elems s sz (.slice (some ⟨b, 0, none⟩) m cap) m c := by
  refine elems_block hg ?_ (by omega)
  rw [List.drop_zero, hm, List.take_length]
theorem newL_ok {t e : TypeId} {inf : TypeInfo} {x : Value} {m : Nat} {l : List Value} (hu : P.underlying t = some (.slice e)) (he : Elems s inf.size x m l) : newL (P.underlying t) inf x s = some (m, l) := by
  obtain ⟨⟨a, c, rfl⟩, h⟩ := he
  simp only [newL, hu, lenV, h]
theorem growB_ok {t e : TypeId} {inf : TypeInfo} {z' : Value} {need m : Nat} {new : List Value} (hz : inf.zero = some z') (hz2 : yY (yv z') 0 = inf.size) (hb : need * (inf.bytes + 1) ≤ 1073741824) (hp : new.all plainCell = true) (hl : new.length = m * inf.size) :
    growB inf need m new = true := by
  simp only [growB, hz, Bool.and_eq_true]
  refine ⟨⟨⟨Nat.ble_eq_true_of_le hb, hp⟩, ?_⟩, ?_⟩
  · rw [y9, Nat.add_zero, hl]; exact Nat.beq_refl _
  · rw [hz2]; exact Nat.beq_refl _
theorem op_appendNil {as : Array Operand} {ts : Array TypeId} {t t2 e e2 : TypeId} {tr : List TypeId} {x y : Operand} {sz by_ m : Nat} {z l : List Value} (H : HL W s0 s L n) (hs : xG P t = some (e, sz, by_, z)) (hu2 : P.underlying t2 = some (.slice e2))
    (ht : ts.toList = t :: t2 :: tr) (ha : as.toList = [x, y]) (hx : zn F x = .slice none 0 0) (he : Elems s sz (zn F y) m l) (hm : 0 < m) (hp : l.all plainCell = true) (hl : l.length = m * sz) (hb : m * (by_ + 1) ≤ 1073741824) (hr : s0.next + n < zh)
    (k : ∀ b s', HL W s0 s' ((b, .cells l e) :: L) (n + 1) → Q (upd F d (.slice (some ⟨b, 0, none⟩) m (2 * m + 1))) s') : OpW P I ⟨d, .call ⟨.builtin .append, as, ts⟩, ty, pos, af, g⟩ F s Q := by
  obtain ⟨hu, inf, z', hi, rfl, rfl, hz, hz1, hz2⟩ := xp hs
  refine zS (v := .slice (some ⟨s.next, 0, none⟩) m (2 * m + 1)) (s' := s.new (.cells l e)) ?_ (k _ _ (H.new _ hr))
  have hroom := H.room hr
  have hf : Nat.ble (0 + m) (0 / 2) = false := by
    rw [Bool.eq_false_iff]; intro h; have := Nat.le_of_ble_eq_true h; omega
  have hgrow : growB inf (0 + m) m l = true := growB_ok (t := t) (e := e) hz1 hz2 (by rw [Nat.zero_add]; exact hb) hp hl
  simp only [zr, xn, xN, ht, ha, xx, hx, hu, hi, newL_ok hu2 he, appendS, hf, hgrow, rowB, xJ, growM, killM, newS, hroom, Bool.and_self, Nat.zero_mod, List.nil_append]
  rw [Nat.zero_add]
  rfl
theorem append_full {ts : List TypeId} {t t2 e e2 : TypeId} {tr : List TypeId} {y : Value} {sz by_ m b len cap : Nat} {z l c : List Value} (hs : xG P t = some (e, sz, by_, z)) (hu2 : P.underlying t2 = some (.slice e2))
    (ht : ts = t :: t2 :: tr) (he : Elems s sz y m l) (hg : s.get b = some (.cells c e)) (hmay : s.may b = true) (hlen : len * sz = c.length) (hcap : cap / 2 < len + m) (hp : l.all plainCell = true) (hl : l.length = m * sz) (hb : (len + m) * (by_ + 1) ≤ 1073741824) (hroom : s.room = true)
    : xN P ts [.slice (some ⟨b, 0, none⟩) len cap, y] s = .ok (.value (.slice (some ⟨s.next, 0, none⟩) (len + m) (2 * (len + m) + 1))) ((if cap % 2 = 0 then s else s.put b none).new (.cells (c ++ l) e)) := by
  obtain ⟨hu, inf, z', hi, rfl, rfl, hz, hz1, hz2⟩ := xp hs
  have hf : Nat.ble (len + m) (cap / 2) = false := by
    rw [Bool.eq_false_iff]; intro h; have := Nat.le_of_ble_eq_true h; omega
  have hgrow : growB inf (len + m) m l = true := growB_ok (t := t) (e := e) hz1 hz2 hb hp hl
  have hfirst : xJ inf.size len (.slice (some ⟨b, 0, none⟩) len cap) s = some c := (yH (cap := cap) hg hlen).2
  have hrow : rowB e (some ⟨b, 0, none⟩) cap s = true := by
    simp only [rowB, hg, Nat.beq_refl]
    split <;> rfl
  rw [ht]
  simp only [xN, hu, hi, newL_ok hu2 he, appendS, hf, hgrow, hrow, Bool.and_self, hfirst, growM, killM]
  rcases Nat.mod_two_eq_zero_or_one cap with h | h
  · rw [h]; simp only [newS, hroom, if_true]; rfl
  · rw [h]; simp only [hmay, newS, show (s.put b none).room = true from hroom, if_false, Nat.one_ne_zero]; rfl
theorem HL.appended (A : Hp') {B : Hp'} {b cap : Nat} {o o' : MObj} (H : HL W s0 s (A ++ (b, o) :: B) n) (hr : s0.next + n < zh) : HL W s0 ((if cap % 2 = 0 then s else s.put b none).new o') ((s.next, o') :: (A ++ B)) (n + 1) := by
  split
  · have H2 : HL W s0 s (A ++ B) n := H.sub (by simp)
    exact H2.new o' hr
  · exact (H.killAt A (by omega)).new o' hr
theorem op_append0 {as : Array Operand} {ts : Array TypeId} {t t2 e e2 : TypeId} {tr : List TypeId} {x y : Operand} {sz by_ m b len cap : Nat} {z l c : List Value} (H : HL W s0 s ((b, .cells c e) :: L) n) (hs : xG P t = some (e, sz, by_, z)) (hu2 : P.underlying t2 = some (.slice e2))
    (ht : ts.toList = t :: t2 :: tr) (ha : as.toList = [x, y]) (hx : zn F x = .slice (some ⟨b, 0, none⟩) len cap) (he : Elems s sz (zn F y) m l) (hlen : len * sz = c.length) (hcap : cap / 2 < len + m) (hp : l.all plainCell = true) (hl : l.length = m * sz) (hb : (len + m) * (by_ + 1) ≤ 1073741824) (hr : s0.next + n < zh)
    (k : ∀ b' s', HL W s0 s' ((b', .cells (c ++ l) e) :: L) (n + 1) → Q (upd F d (.slice (some ⟨b', 0, none⟩) (len + m) (2 * (len + m) + 1))) s') : OpW P I ⟨d, .call ⟨.builtin .append, as, ts⟩, ty, pos, af, g⟩ F s Q := by
  refine zS ?_ (k _ _ (HL.appended [] (cap := cap) H hr))
  simp only [zr, xn, ha, xx, hx]
  exact append_full hs hu2 ht he H.own0 (H.own (b, .cells c e) (by simp)).2.2.1 hlen hcap hp hl hb (H.room hr)
theorem op_append1 {p0 : Nat × MObj} {as : Array Operand} {ts : Array TypeId} {t t2 e e2 : TypeId} {tr : List TypeId} {x y : Operand} {sz by_ m b len cap : Nat} {z l c : List Value} (H : HL W s0 s (p0 :: (b, .cells c e) :: L) n) (hs : xG P t = some (e, sz, by_, z)) (hu2 : P.underlying t2 = some (.slice e2))
    (ht : ts.toList = t :: t2 :: tr) (ha : as.toList = [x, y]) (hx : zn F x = .slice (some ⟨b, 0, none⟩) len cap) (he : Elems s sz (zn F y) m l) (hlen : len * sz = c.length) (hcap : cap / 2 < len + m) (hp : l.all plainCell = true) (hl : l.length = m * sz) (hb : (len + m) * (by_ + 1) ≤ 1073741824) (hr : s0.next + n < zh)
    (k : ∀ b' s', HL W s0 s' ((b', .cells (c ++ l) e) :: p0 :: L) (n + 1) → Q (upd F d (.slice (some ⟨b', 0, none⟩) (len + m) (2 * (len + m) + 1))) s') : OpW P I ⟨d, .call ⟨.builtin .append, as, ts⟩, ty, pos, af, g⟩ F s Q := by
  refine zS ?_ (k _ _ (HL.appended [p0] (cap := cap) H hr))
  simp only [zr, xn, ha, xx, hx]
  exact append_full hs hu2 ht he H.own1 (H.own (b, .cells c e) (by simp)).2.2.1 hlen hcap hp hl hb (H.room hr)
theorem bound_nat {v : Option Value} {d m : Nat} (h : (v = none ∧ m = d) ∨ ∃ k, v = some (.int k (m : Int))) : boundM v d = some m := by
  rcases h with ⟨rfl, rfl⟩ | ⟨k, rfl⟩
  · rfl
  · rfl
theorem op_sliceHi {t e : TypeId} {x hi : Operand} {sz by_ b off len cap m : Nat} {z c : List Value} {kd : IntKind} {a : Int} (hs : xG P t = some (e, sz, by_, z)) (hx : zn F x = .slice (some ⟨b, off, none⟩) len cap) (hh : zn F hi = .int kd a) (hm : a = (m : Int)) (hg : s.get b = some (.cells c e)) (h1 : m ≤ cap / 2)
    (k : Q (upd F d (.slice (some ⟨b, off, none⟩) m cap)) s) : OpW P I ⟨d, .slice t x none (some hi) none, ty, pos, af, g⟩ F s Q := by
  obtain ⟨hu, inf, z', hi', rfl, rfl, hz, hz1, hz2⟩ := xp hs
  subst hm
  refine zS (v := .slice (some ⟨b, off, none⟩) m cap) (s' := s) ?_ k
  have hb : (Nat.ble 0 m && Nat.ble m (cap / 2) && Nat.ble (cap / 2) (cap / 2) && ((some (Value.int kd (m : Int))).isSome || !(none : Option Value).isSome)) = true := by
    simp only [Bool.and_eq_true]
    exact ⟨⟨⟨Nat.ble_eq_true_of_le (by omega), Nat.ble_eq_true_of_le h1⟩, Nat.ble_eq_true_of_le (Nat.le_refl _)⟩, rfl⟩
  have hrow : rowB e (some ⟨b, off, none⟩) cap s = true := by
    simp only [rowB, hg, Nat.beq_refl]
    split <;> rfl
  simp only [zr, sliceM, hu, hi', hx, Option.map_none, Option.map_some, hh]
  rcases Nat.mod_two_eq_zero_or_one cap with h | h
  · rw [h]
    simp only [sliceS, bound_nat (v := none) (d := 0) (m := 0) (.inl ⟨rfl, rfl⟩), bound_nat (v := some (.int kd (m : Int))) (d := len) (m := m) (.inr ⟨kd, rfl⟩), bound_nat (v := none) (d := cap / 2) (m := cap / 2) (.inl ⟨rfl, rfl⟩), hb, Bool.true_or, Nat.sub_zero]
    have hc : 2 * (cap / 2) = cap := by omega
    rw [hc]
    cases hq : Nat.beq (cap / 2) 0 with
    | true => rfl
    | false => simp [Addr.add, okV]
  · rw [h]
    simp only [hrow, sliceS, bound_nat (v := none) (d := 0) (m := 0) (.inl ⟨rfl, rfl⟩), bound_nat (v := some (.int kd (m : Int))) (d := len) (m := m) (.inr ⟨kd, rfl⟩), bound_nat (v := none) (d := cap / 2) (m := cap / 2) (.inl ⟨rfl, rfl⟩), hb, Bool.false_or, Nat.sub_zero]
    have hc : 2 * (cap / 2) + 1 = cap := by omega
    rw [hc]
    simp [Addr.add, okV]
def partF (P : Program) (t : TypeId) (f : Nat) : Option (Option (Option Nat) × Nat) :=
  match P.underlying t with
  | some (.struct fields) => match yo fields.toList f with
    | some fd => some (z1 P fd.type, fd.offset)
    | none => none
  | _ => none
theorem op_field {t : TypeId} {x : Operand} {f off : Nat} {sh : Option (Option Nat)} {cs : Array Value} {v : Value} (hp : partF P t f = some (sh, off)) (hx : zn F x = .agg cs) (hc : cutL sh off cs.toList = some v) (k : Q (upd F d v) s) : OpW P I ⟨d, .field t x f, ty, pos, af, g⟩ F s Q := by
  refine zS (v := v) (s' := s) ?_ k
  simp only [partF] at hp
  split at hp
  · next fields hu =>
    split at hp
    · next fd hf =>
      simp only [Option.some.injEq, Prod.mk.injEq] at hp
      obtain ⟨rfl, rfl⟩ := hp
      simp only [zr, fieldV, hx, hu, hf, hc]
      rfl
    · cases hp
  · cases hp
section draws
variable {ops : List Oper} {rest : List Drawn} {ix anc : Nat} {free : List Nat}
theorem only_get {s : St} {b : Nat} (h : b < zh) : ({ next := s.next, bar := s.next, prot := [], heap := only s (some b) } : St).get b = s.get b := by
  unfold zh at h
  show (Tr.put depth .nil b (s.get b)).get b = s.get b
  have := Tr.get_put depth (.nil : Tr MObj) b b (s.get b) (by have : (2 : Nat) ^ depth = 281474976710656 := by decide
                                                              omega)
  rw [this, if_pos rfl]
theorem zy {t : TypeId} {x : Operand} {b off : Nat} {c : List Value} {e : TypeId} {v : Value} (hg : yo ops ix = some ⟨d, .load t x, ty, pos, af, g⟩) (hw : yS ops F ⟨d, .load t x, ty, pos, af, g⟩ = true)
    (hs : z1 P t = some none) (hx : zn F x = .pointer (some ⟨b, off, none⟩)) (hgb : s.get b = some (.cells c e)) (hb : b < zh) (hc : yo c off = some v) (k : xe P I ops rest (upd F d v) s Q) :
    xe P I ops (⟨ix, anc, .light, free⟩ :: rest) F s Q := by
  refine ze hg hw ?_
  have e1 : yZ F ⟨d, .load t x, ty, pos, af, g⟩ = some b := by simp only [yZ, hx]
  rw [e1]
  exact zj hs hx (by rw [only_get hb]; exact hgb) hc ⟨rfl, k⟩
theorem yI {t : TypeId} {x : Operand} {b off m : Nat} {c : List Value} {e : TypeId} {l : List Value} (hg : yo ops ix = some ⟨d, .load t x, ty, pos, af, g⟩) (hw : yS ops F ⟨d, .load t x, ty, pos, af, g⟩ = true)
    (hs : z1 P t = some (some m)) (hx : zn F x = .pointer (some ⟨b, off, none⟩)) (hgb : s.get b = some (.cells c e)) (hb : b < zh) (hc : xd m (xy off c) = some l) (k : xe P I ops rest (upd F d (.agg ⟨l⟩)) s Q) :
    xe P I ops (⟨ix, anc, .light, free⟩ :: rest) F s Q := by
  refine ze hg hw ?_
  have e1 : yZ F ⟨d, .load t x, ty, pos, af, g⟩ = some b := by simp only [yZ, hx]
  rw [e1]
  exact z8 hs hx (by rw [only_get hb]; exact hgb) hc ⟨rfl, k⟩
theorem HL.wider {s1 : St} {W' : List Nat} {L' : Hp'} {m : Nat} {bar : Nat} {prot : List Nat} (hf : Fine s) (hb : s.bar ≤ bar) (hp : ∀ p, p ∈ s.prot → p ∈ prot) (H : HL W' { next := s.next, bar := bar, prot := prot, heap := s.heap } s1 L' m) :
    HL W' s { next := s1.next, bar := s.bar, prot := s.prot, heap := s1.heap } L' m := by
  refine ⟨rfl, rfl, hf.wfb, hf.wfp, H.le, H.most, fun p hpL => ?_, H.dist, H.kept⟩
  obtain ⟨h1, h2, h3, h4⟩ := H.own p hpL
  refine ⟨h1, h2, ?_, h4⟩
  have hbar : s1.bar = bar := H.bar
  have hprot : s1.prot = prot := H.prot
  simp only [St.may, Bool.and_eq_true, Bool.not_eq_true', hbar, hprot] at h3
  refine may_of ?_ fun hin => ?_
  · have := Nat.le_of_ble_eq_true h3.1
    show s.bar ≤ p.1
    omega
  · have h5 := h3.2
    rw [Bool.eq_false_iff] at h5
    apply h5
    rw [List.any_eq_true]
    exact ⟨p.1, hp _ hin, Nat.beq_refl _⟩
end draws
end
end Go.M
namespace Go.M
def bit (x : Int) (k : Nat) : Bool := decide ((x / 2 ^ k) % 2 = 1)
theorem ofInt_toNat (a : Int) : (((BitVec.ofInt 64 a).toNat : Nat) : Int) = a % 18446744073709551616 := by
 rw [BitVec.toNat_ofInt]
 have : (2 : Int) ^ 64 = 18446744073709551616 := by decide
 simp only [Nat.reducePow, Int.reducePow]
 omega
theorem andI_one (a : Int) : andI a 1 = a % 2 := by
 unfold andI bitsI
 have h1 : (BitVec.ofInt 64 a &&& BitVec.ofInt 64 1).toNat = (BitVec.ofInt 64 a).toNat % 2 := by
  rw [BitVec.toNat_and]
  have : (BitVec.ofInt 64 1).toNat = 1 := by decide
  rw [this, Nat.and_one_is_mod]
 rw [h1]
 have h2 := ofInt_toNat a
 rw [wrap_in ⟨by omega, by omega⟩]
 omega
theorem shr_bit {x : Int} {k : Nat} (hk : k ≤ 64) : andI (x.fdiv (2 ^ min ((k : Int)).toNat 64)) 1 = if bit x k then 1 else 0 := by
 rw [andI_one]
 have e : min ((k : Int)).toNat 64 = k := by omega
 rw [e]
 have hp : (0 : Int) ≤ 2 ^ k := Int.le_of_lt (Int.pow_pos (by decide))
 rw [Int.fdiv_eq_ediv_of_nonneg _ hp]
 unfold bit
 by_cases h : x / 2 ^ k % 2 = 1
 ·simp [h]
 ·simp only [h, decide_false, Bool.false_eq_true, if_false]
  omega
theorem shr_bit' {x a : Int} (h0 : 0 ≤ a) (h1 : a ≤ 64) : andI (x.fdiv (2 ^ min a.toNat 64)) 1 = if bit x a.toNat then 1 else 0 := by
 obtain ⟨k, rfl⟩ := Int.eq_ofNat_of_zero_le h0
 have := shr_bit (x := x) (k := k) (by omega)
 simpa using this
section
variable {P : Program} {I : zJ} {F : FF} {s : St} {Q : FF → St → Prop} {d : Option Tmp} {ty : TypeId} {pos : String} {af : Array Edge} {g : Option (Nat × Bool)}
theorem op_eqlBit {t : TypeId} {x y : Operand} {yt : TypeId} {X a : Int} (hx : zn F x = .int .i64 (andI (X.fdiv (2 ^ min a.toNat 64)) 1)) (hy : zn F y = .int .i64 1) (h0 : 0 ≤ a) (h1 : a ≤ 64)
  (k1 : bit X a.toNat = true → Q (upd F d (.bool true)) s) (k0 : bit X a.toNat = false → Q (upd F d (.bool false)) s) : OpW P I ⟨d, .binOp .eql t x y yt, ty, pos, af, g⟩ F s Q := by
 refine xf hx hy (fun h => ?_) (fun h => ?_)
 ·rw [shr_bit' h0 h1] at h
  cases hb : bit X a.toNat with
  | true => exact k1 hb
  | false => rw [hb] at h; simp at h
 ·rw [shr_bit' h0 h1] at h
  cases hb : bit X a.toNat with
  | true => rw [hb] at h; simp at h
  | false => exact k0 hb
end
theorem x7 {a : Nat} (h : a < 9223372036854775808) : (BitVec.ofInt 64 (a : Int)).toNat = a := by
 have := ofInt_toNat (a : Int)
 omega
theorem andI_nat {a b : Nat} (ha : a < 9223372036854775808) (hb : b < 9223372036854775808) : andI a b = ((a &&& b : Nat) : Int) := by
 unfold andI bitsI
 rw [BitVec.toNat_and, x7 ha, x7 hb]
 have : a &&& b ≤ a := Nat.and_le_left
 exact wrap_in ⟨by omega, by omega⟩
end Go.M
namespace Go.M
section
variable {P : Program} {I : zJ} {F : FF} {s : St} {Post : Value → St → Prop}
theorem loadN_of {t : TypeId} {v : Value} {b off n : Nat} {c l : List Value} {e : TypeId} (hs : z1 P t = some (some n)) (hx : v = .pointer (some ⟨b, off, none⟩)) (hg : s.get b = some (.cells c e)) (hc : xd n (xy off c) = some l) : loadV P t v s = some (.agg ⟨l⟩) := by
 subst hx
 simp only [loadV, hg, hs, cutL, hc]
theorem xB {t : Nat} {ty : TypeId} {b off n : Nat} {c l : List Value} {e : TypeId} (hs : z1 P ty = some (some n)) (hx : F t = .pointer (some ⟨b, off, none⟩)) (hg : s.get b = some (.cells c e)) (hc : xd n (xy off c) = some l) (h : Post (.agg ⟨l⟩) s) :
  endQ P [.cell t ty] Post F s := by
 simp only [endQ, xS, loadN_of hs hx hg hc]
 exact h
theorem end_cc {t t2 : Nat} {ty ty2 : TypeId} {b off n b2 off2 n2 : Nat} {c l c2 l2 : List Value} {e e2 : TypeId} (hs : z1 P ty = some (some n)) (hx : F t = .pointer (some ⟨b, off, none⟩)) (hg : s.get b = some (.cells c e)) (hc : xd n (xy off c) = some l)
  (hs2 : z1 P ty2 = some (some n2)) (hx2 : F t2 = .pointer (some ⟨b2, off2, none⟩)) (hg2 : s.get b2 = some (.cells c2 e2)) (hc2 : xd n2 (xy off2 c2) = some l2) (h : Post (.tuple ⟨[.agg ⟨l⟩, .agg ⟨l2⟩]⟩) s) :
  endQ P [.cell t ty, .cell t2 ty2] Post F s := by
 simp only [endQ, xS, loadN_of hs hx hg hc, loadN_of hs2 hx2 hg2 hc2]
 exact h
theorem end_tt {t t2 : Nat} {v w : Value} (h1 : F t = v) (h2 : F t2 = w) (h : Post (.tuple ⟨[v, w]⟩) s) : endQ P [.tmp t, .tmp t2] Post F s := by
 simp only [endQ, xS, h1, h2]
 exact h
theorem end_nil (h : Post (.tuple ⟨[]⟩) s) : endQ P [] Post F s := h
theorem end_ttct {t t2 t3 t4 : Nat} {ty : TypeId} {v w x : Value} {b off n : Nat} {c l : List Value} {e : TypeId} (h1 : F t = v) (h2 : F t2 = w) (hs : z1 P ty = some (some n)) (hx : F t3 = .pointer (some ⟨b, off, none⟩)) (hg : s.get b = some (.cells c e)) (hc : xd n (xy off c) = some l)
  (h4 : F t4 = x) (h : Post (.tuple ⟨[v, w, .agg ⟨l⟩, x]⟩) s) : endQ P [.tmp t, .tmp t2, .cell t3 ty, .tmp t4] Post F s := by
 simp only [endQ, xS, loadN_of hs hx hg hc, h1, h2, h4]
 exact h
end
section
variable {P : Program} {I : zJ} {F : FF} {s : St} {Q : FF → St → Prop} {d : Option Tmp} {ty : TypeId} {pos : String} {af : Array Edge} {g : Option (Nat × Bool)}
variable {W : List Nat} {s0 : St} {L : Hp'} {n : Nat}
inductive Own (e : TypeId) (sz : Nat) : Hp' → Value → List Value → Nat → Prop
 | nil : Own e sz [] (.slice none 0 0) [] 0
 | block (b cap : Nat) (c : List Value) (len : Nat) (hl : len * sz = c.length) (hcap : cap / 2 = len) : Own e sz [(b, .cells c e)] (.slice (some ⟨b, 0, none⟩) len cap) c len
theorem yT {D : Hp'} {as : Array Operand} {ts : Array TypeId} {t t2 e e2 : TypeId} {tr : List TypeId} {x y : Operand} {v : Value} {sz by_ m len : Nat} {z l c : List Value} (H : HL W s0 s (D ++ L) n) (ho : Own e sz D v c len) (hs : xG P t = some (e, sz, by_, z)) (hu2 : P.underlying t2 = some (.slice e2))
  (ht : ts.toList = t :: t2 :: tr) (ha : as.toList = [x, y]) (hx : zn F x = v) (he : Elems s sz (zn F y) m l) (hm : 0 < m) (hp : l.all plainCell = true) (hl : l.length = m * sz) (hb : (len + m) * (by_ + 1) ≤ 1073741824) (hr : s0.next + n < zh)
  (k : ∀ b s', HL W s0 s' ((b, .cells (c ++ l) e) :: L) (n + 1) → Own e sz [(b, .cells (c ++ l) e)] (.slice (some ⟨b, 0, none⟩) (len + m) (2 * (len + m) + 1)) (c ++ l) (len + m) → Q (upd F d (.slice (some ⟨b, 0, none⟩) (len + m) (2 * (len + m) + 1))) s') : OpW P I ⟨d, .call ⟨.builtin .append, as, ts⟩, ty, pos, af, g⟩ F s Q := by
 cases ho with
 | nil =>
  refine op_appendNil H hs hu2 ht ha hx he hm hp hl (by rw [Nat.zero_add] at hb; exact hb) hr (fun b s' H' => ?_)
  have := k b s' H'
  rw [Nat.zero_add] at this
  exact this (.block b _ _ _ (by rw [← hl]; rfl) (by omega))
 | block b cap c len hlc hcap =>
  refine op_append0 H hs hu2 ht ha hx he hlc (by omega) hp hl hb hr (fun b s' H' => ?_)
  exact k b s' H' (.block b _ _ _ (by rw [List.length_append, ← hlc, hl, Nat.add_mul]) (by omega))
theorem op_appendNone' {as : Array Operand} {ts : Array TypeId} {t t2 e e2 : TypeId} {tr : List TypeId} {x y : Operand} {sz by_ b cap len : Nat} {z c : List Value} (H : HL W s0 s ((b, .cells c e) :: L) n) (hs : xG P t = some (e, sz, by_, z)) (hu2 : P.underlying t2 = some (.slice e2))
  (ht : ts.toList = t :: t2 :: tr) (ha : as.toList = [x, y]) (hx : zn F x = .slice (some ⟨b, 0, none⟩) len cap) (he : Elems s sz (zn F y) 0 []) (hcap : len ≤ cap / 2) (hlen : len * sz ≤ c.length) (hr : s0.next + n ≤ zh)
  (k : ∀ s', HL W s0 s' ((b, .cells c e) :: L) n → Q (upd F d (.slice (some ⟨b, 0, none⟩) len cap)) s') : OpW P I ⟨d, .call ⟨.builtin .append, as, ts⟩, ty, pos, af, g⟩ F s Q := by
 obtain ⟨hu, inf, z', hi, rfl, rfl, hz, hz1, hz2⟩ := xp hs
 refine zS (v := .slice (some ⟨b, 0, none⟩) len cap) (s' := s.put b (some (.cells c e))) ?_ (k _ (H.put0 _ hr))
 have hf : Nat.ble len (cap / 2) = true := Nat.ble_eq_true_of_le hcap
 have hmay := (H.own (b, .cells c e) (by simp)).2.2.1
 simp only at hmay
 have hput : ∀ (m : Nat) (c : List Value), m ≤ c.length → lput m [] c = some c := by
  intro m
  induction m with
  | zero => intro c _; rfl
  | succ m ih =>
   intro c hc
   cases c with
   | nil => simp at hc
   | cons x c => simp only [lput, ih c (by simpa using hc)]
 simp only [zr, xn, xN, ht, ha, xx, hx, hu, hi, newL_ok hu2 he, appendS, hf, xF, Nat.zero_add, Nat.add_zero, H.own0, List.all_nil, Bool.true_and, hmay, hput _ _ hlen]
 rfl
theorem HL.callE (H : HL W s0 s L n) {s' : St} {L' : Hp'} {k : Nat} (H' : HL [] s s' L' k) : HL W s0 s' (L ++ L') (n + k) := by
 have h := H.call H'
 refine { h with own := fun p hp => h.own p (by simp only [List.mem_append] at hp ⊢; exact hp.symm), dist := ?_ }
 have hd := h.dist
 rw [List.pairwise_append] at hd ⊢
 exact ⟨hd.2.1, hd.1, fun a ha b hb => fun e => hd.2.2 b hb a ha e.symm⟩
theorem HL.ownA {A B : Hp'} {b : Nat} {o : MObj} (H : HL W s0 s (A ++ (b, o) :: B) n) : s.get b = some o := (H.own (b, o) (by simp)).1
theorem HL.left {A B : Hp'} (H : HL W s0 s (A ++ B) n) : HL W s0 s A n := H.sub (List.sublist_append_left _ _)
theorem HL.left2 {p q : Nat × MObj} {B : Hp'} (H : HL W s0 s (p :: q :: B) n) : HL W s0 s [p, q] n := H.sub (.cons_cons _ (.cons_cons _ (List.nil_sublist _)))
theorem op_storeA {A B : Hp'} {t : TypeId} {x v : Operand} {b off sz : Nat} {c c' : List Value} {e : TypeId} {vs : List Value} (H : HL W s0 s (A ++ (b, .cells c e) :: B) n) (hs : yR P t = some sz) (hx : zn F x = .pointer (some ⟨b, off, none⟩)) (hv : yv (zn F v) = vs)
  (hl : Nat.beq (yY vs 0) sz = true) (hp : vs.all plainCell = true) (hc : lput off vs c = some c') (hr : s0.next + n ≤ zh) (k : ∀ s', HL W s0 s' (A ++ (b, .cells c' e) :: B) n → Q (upd F d undef) s') : OpW P I ⟨d, .store t x v, ty, pos, af, g⟩ F s Q :=
 qk (xt hs hx hv hl hp H.ownA (H.own (b, .cells c e) (by simp)).2.2.1 hc) (k _ (H.putAt A _ hr))
theorem dr_storeAt {ops : List Oper} {rest : List Drawn} {ix anc : Nat} {free fr : List Nat} {t : TypeId} {x v : Operand} {b off sz : Nat} {c c' : List Value} {e : TypeId} {vs : List Value} (hgo : yo ops ix = some ⟨d, .store t x v, ty, pos, af, g⟩) (hw : yS ops F ⟨d, .store t x v, ty, pos, af, g⟩ = true)
  (hs : yR P t = some sz) (hx : zn F x = .pointer (some ⟨b, off, none⟩)) (hv : yv (zn F v) = vs) (hl : Nat.beq (yY vs 0) sz = true) (hp : vs.all plainCell = true) (hg : s.get b = some (.cells c e)) (hm : s.may b = true) (hc : lput off vs c = some c')
  (hfr : yB ops F free = fr) (hne : ∀ p, p ∈ fr → p ≠ b) (k : xe P I ops rest (upd F d undef) (s.put b (some (.cells c' e))) Q) : xe P I ops (⟨ix, anc, .whole, free⟩ :: rest) F s Q := by
 refine zU hgo hw ?_
 have hm' : ({ s with prot := yB ops F free ++ s.prot } : St).may b = true := by
  simp only [St.may, Bool.and_eq_true, Bool.not_eq_true', Bool.eq_false_iff, ne_eq, List.any_eq_true, not_exists, not_and] at hm ⊢
  refine ⟨hm.1, fun p hp2 he => ?_⟩
  rcases List.mem_append.mp hp2 with h | h
  ·rw [hfr] at h
   exact hne p h (Nat.eq_of_beq_eq_true he).symm
  ·exact hm.2 p h he
 exact qk (xt (s := { s with prot := yB ops F free ++ s.prot }) hs hx hv hl hp hg hm' hc) k
theorem y5 {p0 : Nat × MObj} {ops : List Oper} {rest : List Drawn} {ix anc : Nat} {free fr : List Nat} {t : TypeId} {x v : Operand} {b off sz : Nat} {c c' : List Value} {e : TypeId} {vs : List Value} (H : HL W s0 s (p0 :: (b, .cells c e) :: L) n) (hgo : yo ops ix = some ⟨d, .store t x v, ty, pos, af, g⟩) (hw : yS ops F ⟨d, .store t x v, ty, pos, af, g⟩ = true)
  (hs : yR P t = some sz) (hx : zn F x = .pointer (some ⟨b, off, none⟩)) (hv : yv (zn F v) = vs) (hl : Nat.beq (yY vs 0) sz = true) (hp : vs.all plainCell = true) (hc : lput off vs c = some c')
  (hfr : yB ops F free = fr) (hne : ∀ p, p ∈ fr → p ≠ b) (hr : s0.next + n ≤ zh) (k : ∀ s', HL W s0 s' (p0 :: (b, .cells c' e) :: L) n → xe P I ops rest (upd F d undef) s' Q) : xe P I ops (⟨ix, anc, .whole, free⟩ :: rest) F s Q :=
 dr_storeAt hgo hw hs hx hv hl hp H.own1 (H.own (b, .cells c e) (by simp)).2.2.1 hc hfr hne (k _ (H.put1 _ hr))
theorem dr_store2 {p0 p1 : Nat × MObj} {ops : List Oper} {rest : List Drawn} {ix anc : Nat} {free fr : List Nat} {t : TypeId} {x v : Operand} {b off sz : Nat} {c c' : List Value} {e : TypeId} {vs : List Value} (H : HL W s0 s (p0 :: p1 :: (b, .cells c e) :: L) n) (hgo : yo ops ix = some ⟨d, .store t x v, ty, pos, af, g⟩) (hw : yS ops F ⟨d, .store t x v, ty, pos, af, g⟩ = true)
  (hs : yR P t = some sz) (hx : zn F x = .pointer (some ⟨b, off, none⟩)) (hv : yv (zn F v) = vs) (hl : Nat.beq (yY vs 0) sz = true) (hp : vs.all plainCell = true) (hc : lput off vs c = some c')
  (hfr : yB ops F free = fr) (hne : ∀ p, p ∈ fr → p ≠ b) (hr : s0.next + n ≤ zh) (k : ∀ s', HL W s0 s' (p0 :: p1 :: (b, .cells c' e) :: L) n → xe P I ops rest (upd F d undef) s' Q) : xe P I ops (⟨ix, anc, .whole, free⟩ :: rest) F s Q :=
 dr_storeAt hgo hw hs hx hv hl hp H.own2 (H.own (b, .cells c e) (by simp)).2.2.1 hc hfr hne (k _ (H.put2 _ hr))
theorem dr_store3 {p0 p1 p2 : Nat × MObj} {ops : List Oper} {rest : List Drawn} {ix anc : Nat} {free fr : List Nat} {t : TypeId} {x v : Operand} {b off sz : Nat} {c c' : List Value} {e : TypeId} {vs : List Value} (H : HL W s0 s (p0 :: p1 :: p2 :: (b, .cells c e) :: L) n) (hgo : yo ops ix = some ⟨d, .store t x v, ty, pos, af, g⟩) (hw : yS ops F ⟨d, .store t x v, ty, pos, af, g⟩ = true)
  (hs : yR P t = some sz) (hx : zn F x = .pointer (some ⟨b, off, none⟩)) (hv : yv (zn F v) = vs) (hl : Nat.beq (yY vs 0) sz = true) (hp : vs.all plainCell = true) (hc : lput off vs c = some c')
  (hfr : yB ops F free = fr) (hne : ∀ p, p ∈ fr → p ≠ b) (hr : s0.next + n ≤ zh) (k : ∀ s', HL W s0 s' (p0 :: p1 :: p2 :: (b, .cells c' e) :: L) n → xe P I ops rest (upd F d undef) s' Q) : xe P I ops (⟨ix, anc, .whole, free⟩ :: rest) F s Q :=
 dr_storeAt hgo hw hs hx hv hl hp H.own3 (H.own (b, .cells c e) (by simp)).2.2.1 hc hfr hne (k _ (H.put3 _ hr))
theorem dr_store5 {p0 p1 p2 p3 p4 : Nat × MObj} {ops : List Oper} {rest : List Drawn} {ix anc : Nat} {free fr : List Nat} {t : TypeId} {x v : Operand} {b off sz : Nat} {c c' : List Value} {e : TypeId} {vs : List Value} (H : HL W s0 s (p0 :: p1 :: p2 :: p3 :: p4 :: (b, .cells c e) :: L) n) (hgo : yo ops ix = some ⟨d, .store t x v, ty, pos, af, g⟩) (hw : yS ops F ⟨d, .store t x v, ty, pos, af, g⟩ = true)
  (hs : yR P t = some sz) (hx : zn F x = .pointer (some ⟨b, off, none⟩)) (hv : yv (zn F v) = vs) (hl : Nat.beq (yY vs 0) sz = true) (hp : vs.all plainCell = true) (hc : lput off vs c = some c')
  (hfr : yB ops F free = fr) (hne : ∀ p, p ∈ fr → p ≠ b) (hr : s0.next + n ≤ zh) (k : ∀ s', HL W s0 s' (p0 :: p1 :: p2 :: p3 :: p4 :: (b, .cells c' e) :: L) n → xe P I ops rest (upd F d undef) s' Q) : xe P I ops (⟨ix, anc, .whole, free⟩ :: rest) F s Q :=
 dr_storeAt hgo hw hs hx hv hl hp H.own5 (H.own (b, .cells c e) (by simp)).2.2.1 hc hfr hne (k _ (H.put5 _ hr))
theorem cw_unroll {b : Code} {Q : FOut → Prop} (h : y3 P I b F s (seqQ P I (.loop b) Q)) : y3 P I (.loop b) F s Q := by
 obtain ⟨o, hq, n, hn⟩ := h
 cases o with
 | normal F₁ s₁ =>
  obtain ⟨o₂, hq2, n₂, hn2⟩ := hq
  refine ⟨o₂, hq2, n + n₂ + 1, fun m hm => ?_⟩
  obtain ⟨m, rfl⟩ : ∃ k, m = k + 1 := ⟨m - 1, by omega⟩
  simp only [yJ, hn m (by omega)]
  exact hn2 m (by omega)
 | exit i F₁ s₁ =>
  refine ⟨_, hq, n + 1, fun m hm => ?_⟩
  obtain ⟨m, rfl⟩ : ∃ k, m = k + 1 := ⟨m - 1, by omega⟩
  simp only [yJ, hn m (by omega)]
 | ret F₁ s₁ =>
  refine ⟨_, hq, n + 1, fun m hm => ?_⟩
  obtain ⟨m, rfl⟩ : ∃ k, m = k + 1 := ⟨m - 1, by omega⟩
  simp only [yJ, hn m (by omega)]
 | stuck =>
  refine ⟨_, hq, n + 1, fun m hm => ?_⟩
  obtain ⟨m, rfl⟩ : ∃ k, m = k + 1 := ⟨m - 1, by omega⟩
  simp only [yJ, hn m (by omega)]
end
end Go.M
