/- The reference of cleanings: Check. -/
/- Rules for sums that may wrap, and for what is appended in place. -/
/- Rules: what is appended in a drawn order; cells that are numbers; digits that can be read. -/
/- How many splits a cleaning needs: more splits, more bad joins, levels and lists; in plain words. -/
import Derived.Test.YtdejleegamcioaaGreatF26
namespace Go.Proofs.YtdejleegamcioaaGreat
open Go Go.M
theorem fc23 : yp Tryz.prog 23 = true := by kernel_rfl
end Go.Proofs.YtdejleegamcioaaGreat
namespace Go.Proofs.YtdejleegamcioaaGreat
open Go Go.M
end Go.Proofs.YtdejleegamcioaaGreat
namespace Go.M
section
variable {P : Program} {I : yb} {F : FF} {s : St} {Q : FF → St → Prop} {d : Option Tmp} {ty : TypeId} {pos : String} {af : Array Edge} {g : Option (Nat × Bool)} {W : List Nat} {s0 : St} {L : Hp'} {n : Nat}
theorem op_addX {t : TypeId} {x y : Operand} {yt : TypeId} {a b : Int} (hx : zH F x = .int .i64 a) (hy : zH F y = .int .i64 b) (k : ∀ r, Q (upd F d (.int .i64 r)) s) : OpW P I ⟨d, .binOp .add t x y yt, ty, pos, af, g⟩ F s Q := by
 cases hb : inI64 (a + b) with
 | true => exact yj (v := .int .i64 (a + b)) (s' := s) (by simp only [zK, qn, hx, hy, qs, y7, fits, hb]; rfl) (k _)
 | false => exact yj (v := .int .i64 (IntKind.i64.wrap (a + b))) (s' := s) (by simp only [zK, qn, hx, hy, qs, y7, fits, hb]; rfl) (k _)
theorem op_subX {t : TypeId} {x y : Operand} {yt : TypeId} {a b : Int} (hx : zH F x = .int .i64 a) (hy : zH F y = .int .i64 b) (k : ∀ r, Q (upd F d (.int .i64 r)) s) : OpW P I ⟨d, .binOp .sub t x y yt, ty, pos, af, g⟩ F s Q := by
 cases hb : inI64 (a - b) with
 | true => exact yj (v := .int .i64 (a - b)) (s' := s) (by simp only [zK, qn, hx, hy, qs, y7, fits, hb]; rfl) (k _)
 | false => exact yj (v := .int .i64 (IntKind.i64.wrap (a - b))) (s' := s) (by simp only [zK, qn, hx, hy, qs, y7, fits, hb]; rfl) (k _)
end
end Go.M
namespace Go.Proofs.YtdejleegamcioaaGreat
open Go Go.M
end Go.Proofs.YtdejleegamcioaaGreat
namespace Go.M
section
variable {P : Program} {I : yb} {F : FF} {s : St} {Q : FF → St → Prop} {W : List Nat} {s0 : St} {L : Hp'} {n : Nat}
theorem dr_appendF {ops : List Oper} {ix anc : Nat} {free : List Nat} {rest : List Drawn} {d : Option Tmp} {ty : TypeId} {pos : String} {af : Array Edge} {g : Option (Nat × Bool)} {ag : Array Operand} {ts : Array TypeId} {t t2 e e2 : TypeId} {tr : List TypeId} {x y : Operand} {sz by_ m b : Nat} {z l : List Value}
  (hgo : yA ops ix = some ⟨d, .call ⟨.builtin .append, ag, ts⟩, ty, pos, af, g⟩) (hw : y5 ops F ⟨d, .call ⟨.builtin .append, ag, ts⟩, ty, pos, af, g⟩ = true)
  (H : HL W s0 s ((b, .cells [] e) :: L) n) (hs : xG P t = some (e, sz, by_, z)) (hu2 : P.underlying t2 = some (.slice e2)) (ht : ts.toList = t :: t2 :: tr) (ha : ag.toList = [x, y]) (hx : zH F x = .slice (some ⟨b, 0, none⟩) 0 0) (he : Elems s sz (zH F y) m l) (hp : l.all plainCell = true) (hl : l.length = m * sz) (hb : m * (by_ + 1) ≤ 1073741824) (hr : s0.next + n < zo)
  (k : ∀ b' cap' s', HL W s0 s' ((b', .cells l e) :: L) (n + 1) → cap' / 2 = m → xk P I ops rest (upd F d (.slice (some ⟨b', 0, none⟩) m cap')) s' Q) : xk P I ops (⟨ix, anc, .fresh, free⟩ :: rest) F s Q := by
 refine xb hgo hw ?_
 have hlt : b < s.next := H.lt0
 have hroom := H.room hr
 obtain ⟨hu, inf, z', hi, rfl, rfl, hz, hz1, hz2⟩ := y8 hs
 have hg2 : ({ s with bar := s.next } : St).get b = some (.cells [] e) := H.own0
 have he2 : Elems { s with bar := s.next } inf.size (zH F y) m l := he
 by_cases hm : m = 0
 ·subst hm
  have hl0 : l = [] := List.eq_nil_of_length_eq_zero (by omega)
  subst hl0
  refine yj (v := .slice (some ⟨b, 0, none⟩) 0 0) (s' := { s with bar := s.next }) ?_ (k b 0 s (H.up (by omega)) (by omega))
  have hbl : Nat.ble s.next b = false := by
   rw [Bool.eq_false_iff]; intro h; have := Nat.le_of_ble_eq_true h; omega
  have hmay : ({ s with bar := s.next } : St).may b = false := by
   simp only [St.may, hbl, Bool.false_and]
  simp only [zK, xj, xC, ht, ha, xM, hx, hu, hi, newL_ok hu2 he2, qu, xF, hg2, hmay, Bool.and_false, Nat.zero_mul, xI, lover]
  rfl
 ·refine yj (v := .slice (some ⟨s.next, 0, none⟩) m (2 * m + 1)) (s' := ({ s with bar := s.next } : St).new (.cells l e)) ?_ (k s.next (2 * m + 1) (s.new (.cells l e)) (H.drop0.new (.cells l e) hr) (by omega))
  have hf : Nat.ble (0 + m) (0 / 2) = false := by
   rw [Bool.eq_false_iff]; intro h; have := Nat.le_of_ble_eq_true h; omega
  have hgrow : growB inf (0 + m) m l = true := growB_ok (t := t) (e := e) hz1 hz2 (by rw [Nat.zero_add]; exact hb) hp hl
  have hfirst : xW inf.size 0 (.slice (some ⟨b, 0, none⟩) 0 0) { s with bar := s.next } = some [] := (xa (cap := 0) hg2 (by simp)).2
  have hroom2 : ({ s with bar := s.next } : St).room = true := hroom
  simp only [zK, xj, xC, ht, ha, xM, hx, hu, hi, newL_ok hu2 he2, qu, hf, hgrow, rowB, hfirst, growM, killM, newS, hroom2, Bool.and_self, Nat.zero_mod, List.nil_append]
  rw [Nat.zero_add]
  rfl
theorem qm {ops : List Oper} {ix anc : Nat} {free : List Nat} {o : Oper} {rest : List Drawn} (hg : yA ops ix = some o) (hw : y5 ops F o = true)
  (h : OpW P I o F { s with bar := s.next } fun F' s' => s' = { s with bar := s.next } ∧ xk P I ops rest F' s Q) : xk P I ops (⟨ix, anc, .fresh, free⟩ :: rest) F s Q :=
 xb hg hw (h.mono fun F' s' ⟨e, h⟩ => by subst e; exact h)
theorem dr_appendIn (A : Hp') {B : Hp'} {ops : List Oper} {ix anc : Nat} {free : List Nat} {rest : List Drawn} {d : Option Tmp} {ty : TypeId} {pos : String} {af : Array Edge} {g : Option (Nat × Bool)} {ag : Array Operand} {ts : Array TypeId} {t t2 e e2 : TypeId} {tr : List TypeId} {x y : Operand} {sz by_ m b len cap : Nat} {z l c c' : List Value}
  (hgo : yA ops ix = some ⟨d, .call ⟨.builtin .append, ag, ts⟩, ty, pos, af, g⟩) (hw : y5 ops F ⟨d, .call ⟨.builtin .append, ag, ts⟩, ty, pos, af, g⟩ = true) (hfr : yT ops F free = [])
  (H : HL W s0 s (A ++ (b, .cells c e) :: B) n) (hs : xG P t = some (e, sz, by_, z)) (hu2 : P.underlying t2 = some (.slice e2)) (ht : ts.toList = t :: t2 :: tr) (ha : ag.toList = [x, y]) (hx : zH F x = .slice (some ⟨b, 0, none⟩) len cap) (he : Elems s sz (zH F y) m l) (hcap : len + m ≤ cap / 2) (hp : l.all plainCell = true) (hc : xI (0 + len * sz) l c = some c') (hr : s0.next + n ≤ zo)
  (k : ∀ s', HL W s0 s' (A ++ (b, .cells c' e) :: B) n → xk P I ops rest (upd F d (.slice (some ⟨b, 0, none⟩) (len + m) cap)) s' Q) : xk P I ops (⟨ix, anc, .whole, free⟩ :: rest) F s Q := by
 refine yn hgo hw ?_
 rw [hfr, List.nil_append]
 obtain ⟨hu, inf, z', hi, rfl, rfl, hz, hz1, hz2⟩ := y8 hs
 refine yj (v := .slice (some ⟨b, 0, none⟩) (len + m) cap) (s' := s.put b (some (.cells c' e))) ?_ (k (s.put b (some (.cells c' e))) (HL.putAt A H _ hr))
 have hf : Nat.ble (len + m) (cap / 2) = true := Nat.ble_eq_true_of_le hcap
 have ho := H.own (b, .cells c e) (by simp)
 have hmay := ho.2.2.1
 have hg1 := ho.1
 simp only at hmay hg1
 simp only [zK, xj, xC, ht, ha, xM, hx, hu, hi, newL_ok hu2 he, qu, hf, xF, hg1, hp, Bool.true_and, hmay, hc]
 rfl
end
end Go.M
namespace Go.Proofs.YtdejleegamcioaaGreat
open Go Go.M
theorem lover_ints : ∀ (l1 l2 : List Int), l1.length ≤ l2.length → ∃ l3, lover (yo l1) (yo l2) = some (yo l3) ∧ l3.length = l2.length
 | [], l2, _ => ⟨l2, rfl, rfl⟩
 | _ :: _, [], h => by simp at h
 | a :: l1, b :: l2, h => by
  obtain ⟨l3, h1, h2⟩ := lover_ints l1 l2 (by simpa using h)
  refine ⟨a :: l3, ?_, by simp [h2]⟩
  simp only [yo, List.map_cons, lover] at h1 ⊢
  rw [h1]
theorem qI : ∀ (k : Nat) (l1 l2 : List Int), k + l1.length ≤ l2.length → ∃ l3, xI k (yo l1) (yo l2) = some (yo l3) ∧ l3.length = l2.length
 | 0, l1, l2, h => by
  obtain ⟨l3, h1, h2⟩ := lover_ints l1 l2 (by omega)
  refine ⟨l3, ?_, h2⟩
  cases hc : yo l2 with
  | nil => rw [hc] at h1; simpa [xI] using h1
  | cons a l => rw [hc] at h1; simpa [xI] using h1
 | k + 1, l1, [], h => by simp at h
 | k + 1, l1, b :: l2, h => by
  obtain ⟨l3, h1, h2⟩ := qI k l1 l2 (by simp at h; omega)
  refine ⟨b :: l3, ?_, by simp [h2]⟩
  simp only [yo, List.map_cons, xI] at h1 ⊢
  rw [h1]
theorem intsG {b cap : Nat} {e : TypeId} {l : List Int} (hcap : l.length ≤ cap / 2) : SlG [(b, .cells (yo l) e)] e 1 (.slice (some ⟨b, 0, none⟩) l.length cap) (l.map dc) := by
 rw [ints_flat]
 refine SlG.block b 0 cap ((l.map dc).flatten) (by simp) (by simp) (by simpa using hcap) fun k hk => ?_
 exact flat_get (by intro x hx; obtain ⟨y, _, rfl⟩ := List.mem_map.mp hx; rfl) hk
open Classical in
noncomputable def dgt (D : Hp') (sl : Slc) : List Int := if h : ∃ l, SlB D sl.v l then h.choose else []
theorem dgt_ok {D : Hp'} {sl : Slc} {l : List Int} (h : SlB D sl.v l) : SlB D sl.v (dgt D sl) := by
 unfold dgt
 rw [dif_pos ⟨l, h⟩]
 exact Exists.choose_spec (⟨l, h⟩ : ∃ l, SlB D sl.v l)
theorem DirIn.dig {D : Hp'} {x : Sp} (h : DirIn D x) {W : List Nat} {s0 s : St} {L : Hp'} {n : Nat} (H : HL W s0 s L n) (hs : D ⊆ L) : DigS s (dgt D) x := by
 obtain ⟨_, _, l1, l2, l3, l4, h1, h2, h3, h4⟩ := h
 exact ⟨⟨⟨(dgt_ok h1).1.sl H hs, (dgt_ok h1).2⟩, ⟨(dgt_ok h2).1.sl H hs, (dgt_ok h2).2⟩⟩, ⟨⟨(dgt_ok h3).1.sl H hs, (dgt_ok h3).2⟩, ⟨(dgt_ok h4).1.sl H hs, (dgt_ok h4).2⟩⟩⟩
theorem DirIn.same {D : Hp'} {x y : Sp} (h : DirIn D y) (e1 : x.s1 = y.s1) (e2 : x.s2 = y.s2) (e3 : x.s3 = y.s3) (e4 : x.s4 = y.s4) (e5 : x.n2 = y.n2) (e6 : x.n4 = y.n4) : DirIn D x := by
 unfold DirIn
 rw [e1, e2, e3, e4, e5, e6]
 exact h
end Go.Proofs.YtdejleegamcioaaGreat
namespace Go.Proofs.YtdejleegamcioaaGreat
open Go Go.M
def pcN (n : Nat) : Nat := n % 2 + (n / 2 % 2 + (n / 4 % 2 + (n / 8 % 2 + (n / 16 % 2 + n / 32 % 2))))
def pcChk : Bool := (List.range 64).all fun w => (List.range 64).all fun p => !(Nat.beq (p &&& w) p) || Nat.beq (pcN p + pcN (w - p)) (pcN w)
theorem pcChk_ok : pcChk = true := by kernel_rfl
theorem pc_parts {w p : Nat} (hw : w < 64) (hp : p < 64) (h : p &&& w = p) : pcN p + pcN (w - p) = pcN w := by
 have h0 := pcChk_ok
 unfold pcChk at h0
 have h1 := List.all_eq_true.mp h0 w (List.mem_range.mpr hw)
 have h2 := List.all_eq_true.mp h1 p (List.mem_range.mpr hp)
 rw [h, Nat.beq_refl] at h2
 simpa using h2
def pcChk1 : Bool := (List.range 64).all fun w => Nat.beq w 0 || Nat.ble 1 (pcN w)
theorem pcChk1_ok : pcChk1 = true := by kernel_rfl
theorem pc_one {w : Nat} (h0 : 0 < w) (hw : w < 64) : 1 ≤ pcN w := by
 have h1 := pcChk1_ok
 unfold pcChk1 at h1
 have h2 := List.all_eq_true.mp h1 w (List.mem_range.mpr hw)
 rw [Bool.or_eq_true] at h2
 rcases h2 with h2 | h2
 ·have := Nat.eq_of_beq_eq_true h2; omega
 ·exact Nat.le_of_ble_eq_true h2
theorem pc_six (w : Nat) : pcN w ≤ 6 := by unfold pcN; omega
theorem split_and {w p : Int} (h : xl w p = true) (hp : p < 9223372036854775808) : p.toNat &&& w.toNat = p.toNat := by
 simp only [xl, Bool.and_eq_true, decide_eq_true_eq] at h
 obtain ⟨⟨⟨⟨h1, h2⟩, h3⟩, h4⟩, h5⟩ := h
 obtain ⟨a, rfl⟩ := Int.eq_ofNat_of_zero_le (Int.le_of_lt h1)
 obtain ⟨b, rfl⟩ := Int.eq_ofNat_of_zero_le (Int.le_of_lt h3)
 have ha := x8 (a := a) (by omega)
 have hb := x8 (a := b) (by omega)
 have hz : BitVec.ofInt 64 (b : Int) &&& ~~~ BitVec.ofInt 64 (a : Int) = 0#64 := by
  have := wrap_zero (BitVec.isLt _) h4
  exact BitVec.eq_of_toNat_eq (by rw [this]; rfl)
 have e : BitVec.ofInt 64 (b : Int) &&& BitVec.ofInt 64 (a : Int) = BitVec.ofInt 64 (b : Int) := by
  apply BitVec.eq_of_getLsbD_eq
  intro i hi
  have hzi := congrArg (fun v => v.getLsbD i) hz
  simp only [BitVec.getLsbD_and, BitVec.getLsbD_not, hi, decide_true, Bool.true_and, BitVec.getLsbD_zero] at hzi ⊢
  revert hzi
  cases (BitVec.ofInt 64 (b : Int)).getLsbD i <;> cases (BitVec.ofInt 64 (a : Int)).getLsbD i <;> simp
 have := congrArg BitVec.toNat e
 rw [BitVec.toNat_and, ha, hb] at this
 simpa using this
section
variable {js : List (Int × Int)} {bad : Int} {may : List Sp}
theorem bb_none (hm : y0 may) {S : Int} (h0 : 0 < S) (hp : ¬ 0 < (bb js bad may S).1) : yl S bad 0 js = false := by
 cases h : yl S bad 0 js with
 | false => rfl
 | true => exact absurd (bb_pos hm h0 h) hp
theorem bb_zero (hm : y0 may) {S : Int} (h0 : 0 < S) (hn : yl S bad 0 js = false) : (bb js bad may S).1 = 0 := by
 rw [bb_num hm h0, if_neg (by rw [hn]; simp)]
theorem bb_pc (hm : y0 may) : ∀ (f : Nat) (S : Int), 0 < S → S ≤ 63 → S.toNat < f → (bb js bad may S).1 < 65536 → (bb js bad may S).1 + 1 ≤ (pcN S.toNat : Int)
 | 0, S, _, _, h, _ => by omega
 | f + 1, S, h0, h63, h1, h2 => by
  have hr := yR (js := js) (bad := bad) (may := may) S
  have hp1 := pc_one (w := S.toNat) (by omega) (by omega)
  by_cases hp : 0 < (bb js bad may S).1
  ·obtain ⟨hn, hx, hw, ha, hb, he⟩ := bb_split hm h0 hp h2
   obtain ⟨hs, hpb⟩ := hm _ hx
   obtain ⟨q1, q2, q3, q4, q5, q6⟩ := yP hs hpb
   have hand := split_and hs hpb
   rw [hw] at q2 q3 q4 q6 hand
   have i1 := bb_pc hm f (bb js bad may S).2.p q1 (by omega) (by omega) ha
   have i2 := bb_pc hm f (zI S (bb js bad may S).2.p) q3 (by omega) (by omega) hb
   have hpp := pc_parts (w := S.toNat) (p := (bb js bad may S).2.p.toNat) (by omega) (by omega) hand
   rw [show (zI S (bb js bad may S).2.p).toNat = S.toNat - (bb js bad may S).2.p.toNat by rw [q6]; omega] at i2
   omega
  ·omega
theorem bb_five (hm : y0 may) {S : Int} (h0 : 0 < S) (h63 : S ≤ 63) (h : (bb js bad may S).1 < 65536) : (bb js bad may S).1 ≤ 5 := by
 have h1 := bb_pc (js := js) (bad := bad) hm (S.toNat + 1) S h0 h63 (by omega) h
 have h2 := pc_six S.toNat
 omega
theorem foldN_leA {v : Int → Int} {S : Int} : ∀ {l : List Sp} {n : Int}, l.foldl (stepN v S) n ≤ n
 | [], _ => Int.le_refl _
 | m :: l, n => by
  rw [List.foldl_cons]
  refine Int.le_trans foldN_leA ?_
  unfold stepN
  split
  ·exact Int.le_refl _
  ·split <;> omega
theorem foldN_at {v : Int → Int} {S : Int} : ∀ {l : List Sp} {n : Int} {m : Sp}, m ∈ l → m.w = S → v m.p < 65536 → v (zI S m.p) < 65536 → l.foldl (stepN v S) n ≤ 1 + v m.p + v (zI S m.p)
 | [], _, _, h, _, _, _ => by simp at h
 | x :: l, n, m, h, hw, h1, h2 => by
  rw [List.foldl_cons]
  rcases List.mem_cons.mp h with rfl | h
  ·refine Int.le_trans foldN_leA ?_
   unfold stepN
   rw [if_neg (fun k => k hw), if_pos ⟨h1, h2⟩]
   omega
  ·exact foldN_at h hw h1 h2
theorem bb_le (hm : y0 may) {S : Int} (h0 : 0 < S) {m : Sp} (hmm : m ∈ may) (hw : m.w = S) : (bb js bad may S).1 ≤ 1 + (bb js bad may m.p).1 + (bb js bad may (zI S m.p)).1 := by
 have r0 := yR (js := js) (bad := bad) (may := may) S
 have r1 := yR (js := js) (bad := bad) (may := may) m.p
 have r2 := yR (js := js) (bad := bad) (may := may) (zI S m.p)
 cases hn : yl S bad 0 js with
 | true =>
  by_cases hc : (bb js bad may m.p).1 < 65536 ∧ (bb js bad may (zI S m.p)).1 < 65536
  ·have e := bb_num (js := js) (bad := bad) hm h0
   rw [if_pos hn] at e
   rw [e]
   exact foldN_at (v := fun x => (bb js bad may x).1) hmm hw hc.1 hc.2
  ·omega
 | false =>
  have e := bb_zero hm h0 hn
  omega
theorem bb_mono {bad' : Int} {may' : List Sp} (hm : y0 may) (hm' : y0 may') (hb : ∀ S, yl S bad 0 js = true → yl S bad' 0 js = true) (hs : ∀ m ∈ may', m ∈ may) : ∀ (f : Nat) (S : Int), 0 < S → S.toNat < f → (bb js bad may S).1 ≤ (bb js bad' may' S).1
 | 0, S, _, h => by omega
 | f + 1, S, h0, h1 => by
  have r1 := yR (js := js) (bad := bad) (may := may) S
  by_cases hp : 0 < (bb js bad' may' S).1
  ·by_cases hl : (bb js bad' may' S).1 < 65536
   ·obtain ⟨hn, hx, hw, ha, hb2, he⟩ := bb_split hm' h0 hp hl
    obtain ⟨q1, q2, q3, q4, q5, q6⟩ := yP (hm' _ hx).1 (hm' _ hx).2
    rw [hw] at q2 q3 q4
    have hle := bb_le (js := js) (bad := bad) hm h0 (hs _ hx) hw
    have i1 := bb_mono hm hm' hb hs f _ q1 (by omega)
    have i2 := bb_mono hm hm' hb hs f _ q3 (by omega)
    omega
   ·omega
  ·have hn := bb_none hm' h0 hp
   have hn2 : yl S bad 0 js = false := by
    cases h : yl S bad 0 js with
    | false => rfl
    | true => rw [hb S h] at hn; cases hn
   have e := bb_zero hm h0 hn2
   have r2 := yR (js := js) (bad := bad') (may := may') S
   omega
theorem lev_le (hm : y0 may) {ks ns : List Int} (hv : Lev js bad may ks ns) : ∀ (f : Nat) (S : Int), 0 < S → S.toNat < f → S ∈ ks → atP ks ns S ≤ (bb js bad may S).1
 | 0, S, _, h, _ => by omega
 | f + 1, S, h0, h1, hS => by
  have hln := hv.len
  have hat := hv.at hS
  obtain ⟨i, hi, hiS⟩ := idx_of_mem hS
  have ha := atP_idx (ns := ns) hv.inc hi (by omega)
  rw [hiS] at ha
  have r2 := yR (js := js) (bad := bad) (may := may) S
  by_cases hp : 0 < (bb js bad may S).1
  ·by_cases hl : (bb js bad may S).1 < 65536
   ·obtain ⟨hn, hx, hw, ha2, hb2, he⟩ := bb_split hm h0 hp hl
    obtain ⟨q1, q2, q3, q4, q5, q6⟩ := yP (hm _ hx).1 (hm _ hx).2
    rw [hw] at q2 q3 q4
    obtain ⟨z1, z2, z3⟩ := hv.low i hi (by rw [hiS]; exact hn) _ hx (by rw [hiS]; exact hw)
    rw [hw] at z2 z3
    have i1 := lev_le hm hv f _ q1 (by omega) z1
    have i2 := lev_le hm hv f _ q3 (by omega) z2
    omega
   ·omega
  ·have hn := bb_none hm h0 hp
   have := hv.none i hi (by rw [hiS]; exact hn)
   omega
theorem lev_most (hm : y0 may) {ks ns : List Int} (hv : Lev js bad may ks ns) {w : Int} (h0 : 0 < w) : atP ks ns w ≤ (bb js bad may w).1 := by
 have r := yR (js := js) (bad := bad) (may := may) w
 by_cases h : w ∈ ks
 ·exact lev_le hm hv (w.toNat + 1) w h0 (by omega) h
 ·rw [atP_none h]; omega
theorem lev_least (hm : y0 may) {w : Int} (hw0 : 0 < w) (hw1 : w < 65536) {ks : List Int} (hinc : Inc ks) (hks : ∀ k, k ∈ ks ↔ Rch js bad may w k) : Lev js bad may ks (ks.map (fun q => (bb js bad may q).1)) := by
 have hg : ∀ i, i < ks.length → (ks.map (fun q => (bb js bad may q).1)).getD i 0 = (bb js bad may (ks.getD i 0)).1 := fun i hi => getD_map hi
 have hpos : ∀ k ∈ ks, 0 < k ∧ k ≤ w := fun k hk => ((hks k).mp hk).range hm hw0
 refine ⟨by rw [List.length_map], hinc, fun k hk => ?_, fun n hn => ?_, fun i hi hn => ?_, fun i hi hn m hmm hw => ?_⟩
 ·have := hpos k hk; omega
 ·obtain ⟨q, _, rfl⟩ := List.mem_map.mp hn
  exact yR q
 ·rw [hg i hi]
  exact bb_zero hm (hpos _ (zR hi)).1 hn
 ·have hS : ks.getD i 0 ∈ ks := zR hi
  have h1 : m.p ∈ ks := (hks _).mpr (.part ((hks _).mp hS) hn hmm hw)
  have h2 : zI m.w m.p ∈ ks := by rw [hw]; exact (hks _).mpr (.rest ((hks _).mp hS) hn hmm hw)
  refine ⟨h1, h2, ?_⟩
  rw [hg i hi, atP_map h1, atP_map h2, hw]
  exact bb_le hm (hpos _ hS).1 hmm hw
theorem sameZ_refl {δ : Slc → List Int} (x : Sp) : sameZ δ x x = true := by
 simp [sameZ, eqZ, ratB]
theorem clean_tk {δ : Slc → List Int} (hm : y0 may) : ∀ (f : Nat) (S : Int) (r : List Sp), 0 < S → S.toNat < f → (bb js bad may S).1 < 65536 → y3 δ js bad may f S (tk js bad may f S ++ r) = some r
 | 0, S, _, _, h, _ => by omega
 | f + 1, S, r, h0, h1, h2 => by
  rw [tk]
  by_cases hp : 0 < (bb js bad may S).1
  ·obtain ⟨hn, hx, hw, ha, hb, he⟩ := bb_split hm h0 hp h2
   obtain ⟨q1, q2, q3, q4, q5, q6⟩ := yP (hm _ hx).1 (hm _ hx).2
   rw [hw] at q2 q3 q4
   rw [if_pos hp, List.cons_append, xB hn, if_pos ⟨hw, List.any_eq_true.mpr ⟨_, hx, sameZ_refl _⟩⟩, List.append_assoc, clean_tk hm f _ _ q1 (by omega) ha]
   exact clean_tk hm f _ r q3 (by omega) hb
  ·rw [if_neg hp, List.nil_append, cleanZ_no (bb_none hm h0 hp)]
theorem clean_low {δ : Slc → List Int} (hm : y0 may) : ∀ (f : Nat) (S : Int) (l r : List Sp), 0 < S → y3 δ js bad may f S l = some r → (bb js bad may S).1 + r.length ≤ l.length
 | 0, _, _, _, _, h => by simp [y3] at h
 | f + 1, S, l, r, h0, h => by
  cases hn : yl S bad 0 js with
  | false =>
   rw [cleanZ_no hn] at h
   cases h
   have e := bb_zero hm h0 hn
   omega
  | true =>
   cases l with
   | nil => rw [cleanZ_nil hn] at h; cases h
   | cons x l =>
    rw [xB hn] at h
    split at h
    ·next hc =>
     obtain ⟨m, hmm, hs⟩ := List.any_eq_true.mp hc.2
     simp only [sameZ, Bool.and_eq_true, decide_eq_true_eq] at hs
     obtain ⟨q1, q2, q3, q4, q5, q6⟩ := yP (hm m hmm).1 (hm m hmm).2
     have hw : m.w = S := hs.1.trans hc.1
     rw [hw] at q2 q3 q4
     rw [← hs.2.1] at h
     cases hc2 : y3 δ js bad may f m.p l with
     | none => rw [hc2] at h; cases h
     | some r' =>
      rw [hc2] at h
      have i1 := clean_low hm f _ l r' q1 hc2
      have i2 := clean_low hm f _ r' r q3 h
      have hle := bb_le (js := js) (bad := bad) hm h0 hmm hw
      simp only [List.length_cons]
      omega
    ·cases h
end
theorem or_bit {bad : Int} {n k : Nat} (h0 : 0 ≤ bad) (h1 : bad < 2 ^ n) (hn : n ≤ 16) (hk : k < n) : (0 ≤ orI bad (2 ^ k) ∧ orI bad (2 ^ k) < 2 ^ n) ∧ ∀ i, bit bad i = true → bit (orI bad (2 ^ k)) i = true := by
 obtain ⟨a, rfl⟩ := Int.eq_ofNat_of_zero_le h0
 have h2 := two_pow_le hn
 have h3 := two_pow_le (n := k) (by omega)
 have e : ((2 : Int) ^ k) = ((2 ^ k : Nat) : Int) := by simp
 have e2 : ((2 : Int) ^ n) = ((2 ^ n : Nat) : Int) := by simp
 have hk2 : (2 : Nat) ^ k < 2 ^ n := Nat.pow_lt_pow_right (by decide) hk
 have ha : a < 2 ^ n := by rw [e2] at h1; omega
 rw [e] at h3 ⊢
 rw [e2] at h2 ⊢
 rw [orI_nat (by omega) (by omega)]
 have hlt := Nat.or_lt_two_pow ha hk2
 refine ⟨⟨by omega, by omega⟩, fun i hi => ?_⟩
 rw [bit_nat] at hi ⊢
 rw [Nat.testBit_or, hi, Bool.true_or]
theorem needs_more {S bad bad' : Int} (h : ∀ i, bit bad i = true → bit bad' i = true) : ∀ (i : Nat) (js : List (Int × Int)), yl S bad i js = true → yl S bad' i js = true
 | _, [], hn => hn
 | i, j :: r, hn => by
  simp only [yl, Bool.or_eq_true, Bool.and_eq_true] at hn ⊢
  rcases hn with ⟨h1, h2⟩ | h1
  ·exact .inl ⟨h i h1, h2⟩
  ·exact .inr (needs_more h (i + 1) r h1)
theorem joins_ok {n : Nat} (hn : n ≤ 6) : ∀ {js : List (Int × Int)}, (∀ j ∈ js, (0 ≤ j.1 ∧ j.1 < (n : Nat)) ∧ (0 ≤ j.2 ∧ j.2 < (n : Nat)) ∧ j.1 ≠ j.2) → qb js = true
 | [], _ => rfl
 | j :: r, h => by
  obtain ⟨h1, h2, h3⟩ := h j (by simp)
  rw [qb, joins_ok hn fun x hx => h x (List.mem_cons_of_mem _ hx), Bool.and_true]
  simp only [Bool.not_eq_true', Bool.or_eq_false_iff, decide_eq_false_iff_not]
  omega
theorem err_okA {w bad : Int} {js : List (Int × Int)} {may : List Sp} (hw : 0 < w ∧ w < 65536) (hb : 0 ≤ bad ∧ bad < 2 ^ js.length) (hjl : js.length ≤ 16) (hml : may.length ≤ 4096) (hm : y0 may) (hj : qb js = true) : xK w js bad may = 0 := by
 unfold xK
 rw [if_neg (by omega), if_neg (by omega), if_neg ?_, if_pos hj]
 intro h
 obtain ⟨x, hx, hb⟩ := List.any_eq_true.mp h
 rw [(hm x hx).1] at hb
 cases hb
theorem whole_range {n : Nat} (h1 : 2 ≤ n) (h2 : n ≤ 6) : (3 : Int) ≤ 2 ^ n - 1 ∧ (2 : Int) ^ n - 1 ≤ 63 := by
 rcases (by omega : n = 2 ∨ n = 3 ∨ n = 4 ∨ n = 5 ∨ n = 6) with rfl | rfl | rfl | rfl | rfl <;> decide
theorem whole_one {n : Nat} (h1 : 2 ≤ n) (h2 : n ≤ 6) : xl ((2 : Int) ^ n - 1) 1 = true := by
 rcases (by omega : n = 2 ∨ n = 3 ∨ n = 4 ∨ n = 5 ∨ n = 6) with rfl | rfl | rfl | rfl | rfl <;> decide
end Go.Proofs.YtdejleegamcioaaGreat
