/- The reference of cleanings: Check. -/
/- Rules for sums that may wrap, and for what is appended in place. -/
/- Rules: what is appended in a drawn order; cells that are numbers; digits that can be read. -/
/- How many splits a cleaning needs: more splits, more bad joins, levels and lists; in plain words. -/
/- Maps from z7 to anything; words of 64 bits: rules. -/
/- order: sizes, sets, what is left of a split. -/
/- order: the arguments are examined. -/
/- order: has and fits. -/
/- order: slices that lie in a map; drawn appends. -/
import Derived.Test.YtdejleegamcioaaGreatP29
import Derived.Test.YtdejleegamcioaaGreatP17
namespace Go.Proofs.YtdejleegamcioaaGreat
open Go Go.M
end Go.Proofs.YtdejleegamcioaaGreat
namespace Go.Proofs.YtdejleegamcioaaGreat
open Go Go.M
end Go.Proofs.YtdejleegamcioaaGreat
namespace Go.M
section
variable {P : Program} {I : zJ} {F : FF} {s : St} {Q : FF → St → Prop} {d : Option Tmp} {ty : TypeId} {pos : String} {af : Array Edge} {g : Option (Nat × Bool)} {W : List Nat} {s0 : St} {L : Hp'} {n : Nat}
end
end Go.M
namespace Go.Proofs.YtdejleegamcioaaGreat
open Go Go.M
end Go.Proofs.YtdejleegamcioaaGreat
namespace Go.M
section
variable {P : Program} {I : zJ} {F : FF} {s : St} {Q : FF → St → Prop} {W : List Nat} {s0 : St} {L : Hp'} {n : Nat}
end
end Go.M
namespace Go.Proofs.YtdejleegamcioaaGreat
open Go Go.M
theorem intsG {b cap : Nat} {e : TypeId} {l : List Int} (hcap : l.length ≤ cap / 2) : SlG [(b, .cells (z7 l) e)] e 1 (.slice (some ⟨b, 0, none⟩) l.length cap) (l.map dc) := by
 rw [ints_flat]
 refine SlG.block b 0 cap ((l.map dc).flatten) (by simp) (by simp) (by simpa using hcap) fun k hk => ?_
 exact flat_get (by intro x hx; obtain ⟨y, _, rfl⟩ := List.mem_map.mp hx; rfl) hk
end Go.Proofs.YtdejleegamcioaaGreat
namespace Go.Proofs.YtdejleegamcioaaGreat
open Go Go.M
def pcN (n : Nat) : Nat := n % 2 + (n / 2 % 2 + (n / 4 % 2 + (n / 8 % 2 + (n / 16 % 2 + n / 32 % 2))))
def pcChk : Bool := (List.range 64).all fun w => (List.range 64).all fun p => !(Nat.beq (p &&& w) p) || Nat.beq (pcN p + pcN (w - p)) (pcN w)
theorem pcChk_ok : pcChk = true := by kernel_rfl
theorem pc_parts {w p : Nat} (hw : w < 64) (hp : p < 64) (h : p &&& w = p) : pcN p + pcN (w - p) = pcN w := by
 have h0 := pcChk_ok
 unfold pcChk at h0
 have h1 := List.all_eq_true.mp h0 w (List.mem_range.mpr hw)
 have h2 := List.all_eq_true.mp h1 p (List.mem_range.mpr hp)
 rw [h, Nat.beq_refl] at h2
 simpa using h2
def pcChk1 : Bool := (List.range 64).all fun w => Nat.beq w 0 || Nat.ble 1 (pcN w)
theorem pcChk1_ok : pcChk1 = true := by kernel_rfl
theorem pc_one {w : Nat} (h0 : 0 < w) (hw : w < 64) : 1 ≤ pcN w := by
 have h1 := pcChk1_ok
 unfold pcChk1 at h1
 have h2 := List.all_eq_true.mp h1 w (List.mem_range.mpr hw)
 rw [Bool.or_eq_true] at h2
 rcases h2 with h2 | h2
 ·have := Nat.eq_of_beq_eq_true h2; omega
 ·exact Nat.le_of_ble_eq_true h2
theorem pc_six (w : Nat) : pcN w ≤ 6 := by unfold pcN; omega
theorem split_and {w p : Int} (h : y0 w p = true) (hp : p < 9223372036854775808) : p.toNat &&& w.toNat = p.toNat := by
 simp only [y0, Bool.and_eq_true, decide_eq_true_eq] at h
 obtain ⟨⟨⟨⟨h1, h2⟩, h3⟩, h4⟩, h5⟩ := h
 obtain ⟨a, rfl⟩ := Int.eq_ofNat_of_zero_le (Int.le_of_lt h1)
 obtain ⟨b, rfl⟩ := Int.eq_ofNat_of_zero_le (Int.le_of_lt h3)
 have ha := x7 (a := a) (by omega)
 have hb := x7 (a := b) (by omega)
 have hz : BitVec.ofInt 64 (b : Int) &&& ~~~ BitVec.ofInt 64 (a : Int) = 0#64 := by
  have := wrap_zero (BitVec.isLt _) h4
  exact BitVec.eq_of_toNat_eq (by rw [this]; rfl)
 have e : BitVec.ofInt 64 (b : Int) &&& BitVec.ofInt 64 (a : Int) = BitVec.ofInt 64 (b : Int) := by
  apply BitVec.eq_of_getLsbD_eq
  intro i hi
  have hzi := congrArg (fun v => v.getLsbD i) hz
  simp only [BitVec.getLsbD_and, BitVec.getLsbD_not, hi, decide_true, Bool.true_and, BitVec.getLsbD_zero] at hzi ⊢
  revert hzi
  cases (BitVec.ofInt 64 (b : Int)).getLsbD i <;> cases (BitVec.ofInt 64 (a : Int)).getLsbD i <;> simp
 have := congrArg BitVec.toNat e
 rw [BitVec.toNat_and, ha, hb] at this
 simpa using this
section
variable {js : List (Int × Int)} {bad : Int} {may : List Sp}
theorem bb_zero (hm : xh may) {S : Int} (h0 : 0 < S) (hn : y7 S bad 0 js = false) : (bb js bad may S).1 = 0 := by
 rw [bb_num hm h0, if_neg (by rw [hn]; simp)]
theorem foldN_leA {v : Int → Int} {S : Int} : ∀ {l : List Sp} {n : Int}, l.foldl (stepN v S) n ≤ n
 | [], _ => Int.le_refl _
 | m :: l, n => by
  rw [List.foldl_cons]
  refine Int.le_trans foldN_leA ?_
  unfold stepN
  split
  ·exact Int.le_refl _
  ·split <;> omega
theorem foldN_at {v : Int → Int} {S : Int} : ∀ {l : List Sp} {n : Int} {m : Sp}, m ∈ l → m.w = S → v m.p < 65536 → v (zB S m.p) < 65536 → l.foldl (stepN v S) n ≤ 1 + v m.p + v (zB S m.p)
 | [], _, _, h, _, _, _ => by simp at h
 | x :: l, n, m, h, hw, h1, h2 => by
  rw [List.foldl_cons]
  rcases List.mem_cons.mp h with rfl | h
  ·refine Int.le_trans foldN_leA ?_
   unfold stepN
   rw [if_neg (fun k => k hw), if_pos ⟨h1, h2⟩]
   omega
  ·exact foldN_at h hw h1 h2
theorem bb_le (hm : xh may) {S : Int} (h0 : 0 < S) {m : Sp} (hmm : m ∈ may) (hw : m.w = S) : (bb js bad may S).1 ≤ 1 + (bb js bad may m.p).1 + (bb js bad may (zB S m.p)).1 := by
 have r0 := xD (js := js) (bad := bad) (may := may) S
 have r1 := xD (js := js) (bad := bad) (may := may) m.p
 have r2 := xD (js := js) (bad := bad) (may := may) (zB S m.p)
 cases hn : y7 S bad 0 js with
 | true =>
  by_cases hc : (bb js bad may m.p).1 < 65536 ∧ (bb js bad may (zB S m.p)).1 < 65536
  ·have e := bb_num (js := js) (bad := bad) hm h0
   rw [if_pos hn] at e
   rw [e]
   exact foldN_at (v := fun x => (bb js bad may x).1) hmm hw hc.1 hc.2
  ·omega
 | false =>
  have e := bb_zero hm h0 hn
  omega
end
theorem joins_ok {n : Nat} (hn : n ≤ 6) : ∀ {js : List (Int × Int)}, (∀ j ∈ js, (0 ≤ j.1 ∧ j.1 < (n : Nat)) ∧ (0 ≤ j.2 ∧ j.2 < (n : Nat)) ∧ j.1 ≠ j.2) → xI js = true
 | [], _ => rfl
 | j :: r, h => by
  obtain ⟨h1, h2, h3⟩ := h j (by simp)
  rw [xI, joins_ok hn fun x hx => h x (List.mem_cons_of_mem _ hx), Bool.and_true]
  simp only [Bool.not_eq_true', Bool.or_eq_false_iff, decide_eq_false_iff_not]
  omega
theorem err_okA {w bad : Int} {js : List (Int × Int)} {may : List Sp} (hw : 0 < w ∧ w < 65536) (hb : 0 ≤ bad ∧ bad < 2 ^ js.length) (hjl : js.length ≤ 16) (hml : may.length ≤ 4096) (hm : xh may) (hj : xI js = true) : x0 w js bad may = 0 := by
 unfold x0
 rw [if_neg (by omega), if_neg (by omega), if_neg ?_, if_pos hj]
 intro h
 obtain ⟨x, hx, hb⟩ := List.any_eq_true.mp h
 rw [(hm x hx).1] at hb
 cases hb
theorem whole_range {n : Nat} (h1 : 2 ≤ n) (h2 : n ≤ 6) : (3 : Int) ≤ 2 ^ n - 1 ∧ (2 : Int) ^ n - 1 ≤ 63 := by
 rcases (by omega : n = 2 ∨ n = 3 ∨ n = 4 ∨ n = 5 ∨ n = 6) with rfl | rfl | rfl | rfl | rfl <;> decide
end Go.Proofs.YtdejleegamcioaaGreat
namespace Go.Proofs.YtdejleegamcioaaGreat
open Go Go.M
abbrev yV := List (Int × Value)
def qb : Nat → yV → List MapEntry
 | _, [] => []
 | i, e :: E => { key := .int .i64 e.1, val := e.2, born := i } :: qb (i + 1) E
def yG (E : yV) : MObj := .map ⟨qb 0 E⟩ E.length
def yL : yV → Int → Option Value
 | [], _ => none
 | e :: E, k => if e.1 = k then some e.2 else yL E k
def setV : yV → Int → Value → yV
 | [], _, _ => []
 | e :: E, k, v => if e.1 = k then (k, v) :: E else e :: setV E k v
def putV (E : yV) (k : Int) (v : Value) : yV := match yL E k with
 | some _ => setV E k v
 | none => E ++ [(k, v)]
theorem entsV_append : ∀ (i : Nat) (E : yV) (e : Int × Value), qb i (E ++ [e]) = qb i E ++ [{ key := .int .i64 e.1, val := e.2, born := i + E.length }]
 | i, [], e => rfl
 | i, a :: E, e => by
  simp only [List.cons_append, qb, entsV_append (i + 1) E e, List.length_cons]
  congr 4
  omega
theorem entsV_length : ∀ (i : Nat) (E : yV), (qb i E).length = E.length
 | _, [] => rfl
 | i, _ :: E => by simp [qb, entsV_length (i + 1) E]
theorem setV_length : ∀ (E : yV) (k : Int) (v : Value), (setV E k v).length = E.length
 | [], _, _ => rfl
 | e :: E, k, v => by
  unfold setV
  split
  ·rfl
  ·simp [setV_length E k v]
theorem findV_none {k : Int} : ∀ {E : yV} (i j : Nat), yL E k = none → Instr.findNow (.int .i64) (.int .i64 k) (qb i E) j = some none
 | [], _, _, _ => rfl
 | e :: E, i, j, h => by
  simp only [yL] at h
  split at h
  ·cases h
  ·next hk =>
   simp only [qb, Instr.findNow, same_int]
   have : decide (k = e.1) = false := by
    simp only [decide_eq_false_iff_not]
    exact fun h => hk h.symm
   rw [this]
   exact findV_none (i + 1) (j + 1) h
theorem findV_some {k : Int} {v : Value} : ∀ {E : yV} (i j : Nat), yL E k = some v → ∃ m, Instr.findNow (.int .i64) (.int .i64 k) (qb i E) j = some (some (j + m, v)) ∧ ∀ w, (qb i E).modify m (fun e => { e with key := .int .i64 k, val := w }) = qb i (setV E k w)
 | [], _, _, h => by cases h
 | a :: E, i, j, h => by
  simp only [yL] at h
  split at h
  ·next hk =>
   cases h
   refine ⟨0, ?_, fun w => ?_⟩
   ·simp only [qb, Instr.findNow, same_int]
    have : decide (k = a.1) = true := by
     simp only [decide_eq_true_eq]
     exact hk.symm
    rw [this]
    rfl
   ·simp only [setV, if_pos hk, qb]
    rfl
  ·next hk =>
   obtain ⟨m, h1, h2⟩ := findV_some (i + 1) (j + 1) h
   refine ⟨m + 1, ?_, fun w => ?_⟩
   ·simp only [qb, Instr.findNow, same_int]
    have : decide (k = a.1) = false := by
     simp only [decide_eq_false_iff_not]
     exact fun h => hk h.symm
    rw [this]
    rw [show j + (m + 1) = j + 1 + m by omega]
    exact h1
   ·simp only [setV, if_neg hk, qb, List.modify_succ_cons, h2 w]
section
variable {P : Program} {I : zJ} {F : FF} {s : St} {Q : FF → St → Prop} {d : Option Tmp} {ty : TypeId} {pos : String} {af : Array Edge} {g : Option (Nat × Bool)} {W : List Nat} {s0 : St} {L : Hp'} {n : Nat}
theorem op_lookV {t kt et : TypeId} {m k : Operand} {r : Nat} {E : yV} {x : Int} {v : Value} {ok : Bool} (hu : P.underlying t = some (.map kt et)) (hk : P.underlying kt = some (.int .i64)) (hm : zn F m = .map (some r)) (hx : zn F k = .int .i64 x) (hg : s.get r = some (yG E)) (hf : yL E x = some v)
  (h : Q (upd F d (if ok then .tuple ⟨[v, .bool true]⟩ else v)) s) : OpW P I ⟨d, .lookup t m k ok, ty, pos, af, g⟩ F s Q := by
 obtain ⟨j, hj, _⟩ := findV_some (E := E) 0 0 hf
 refine zS (v := _) (s' := s) ?_ h
 simp only [zr, lookupM, hu, hk, entriesM, hm, hg, yG, hx, keyD, hj, okPair]
 cases ok <;> rfl
theorem op_lookN {t kt et : TypeId} {m k : Operand} {r : Nat} {E : yV} {x : Int} {z : Value} {ok : Bool} (hu : P.underlying t = some (.map kt et)) (hk : P.underlying kt = some (.int .i64)) (hz : zeroV P et = some z) (hm : zn F m = .map (some r)) (hx : zn F k = .int .i64 x) (hg : s.get r = some (yG E)) (hf : yL E x = none)
  (h : Q (upd F d (if ok then .tuple ⟨[z, .bool false]⟩ else z)) s) : OpW P I ⟨d, .lookup t m k ok, ty, pos, af, g⟩ F s Q := by
 have hj := findV_none (E := E) 0 0 hf
 refine zS (v := _) (s' := s) ?_ h
 simp only [zeroV] at hz
 split at hz
 ·next i hi =>
  split at hz
  ·next z' hz' =>
   split at hz
   ·next hp =>
    cases hz
    simp only [zr, lookupM, hu, hk, entriesM, hm, hg, yG, hx, keyD, hj, hi, hz', hp, okPair]
    cases ok <;> rfl
   ·cases hz
  ·cases hz
 ·cases hz
theorem op_lookV0 {t kt et : TypeId} {m k : Operand} {r : Nat} {E : yV} {x : Int} {v : Value} (hu : P.underlying t = some (.map kt et)) (hk : P.underlying kt = some (.int .i64)) (hm : zn F m = .map (some r)) (hx : zn F k = .int .i64 x) (hg : s.get r = some (yG E)) (hf : yL E x = some v)
  (h : Q (upd F d v) s) : OpW P I ⟨d, .lookup t m k false, ty, pos, af, g⟩ F s Q := op_lookV hu hk hm hx hg hf h
theorem op_lookV1 {t kt et : TypeId} {m k : Operand} {r : Nat} {E : yV} {x : Int} {v : Value} (hu : P.underlying t = some (.map kt et)) (hk : P.underlying kt = some (.int .i64)) (hm : zn F m = .map (some r)) (hx : zn F k = .int .i64 x) (hg : s.get r = some (yG E)) (hf : yL E x = some v)
  (h : Q (upd F d (.tuple ⟨[v, .bool true]⟩)) s) : OpW P I ⟨d, .lookup t m k true, ty, pos, af, g⟩ F s Q := op_lookV hu hk hm hx hg hf h
theorem op_lookN0 {t kt et : TypeId} {m k : Operand} {r : Nat} {E : yV} {x : Int} {z : Value} (hu : P.underlying t = some (.map kt et)) (hk : P.underlying kt = some (.int .i64)) (hz : zeroV P et = some z) (hm : zn F m = .map (some r)) (hx : zn F k = .int .i64 x) (hg : s.get r = some (yG E)) (hf : yL E x = none)
  (h : Q (upd F d z) s) : OpW P I ⟨d, .lookup t m k false, ty, pos, af, g⟩ F s Q := op_lookN hu hk hz hm hx hg hf h
theorem op_lookN1 {t kt et : TypeId} {m k : Operand} {r : Nat} {E : yV} {x : Int} {z : Value} (hu : P.underlying t = some (.map kt et)) (hk : P.underlying kt = some (.int .i64)) (hz : zeroV P et = some z) (hm : zn F m = .map (some r)) (hx : zn F k = .int .i64 x) (hg : s.get r = some (yG E)) (hf : yL E x = none)
  (h : Q (upd F d (.tuple ⟨[z, .bool false]⟩)) s) : OpW P I ⟨d, .lookup t m k true, ty, pos, af, g⟩ F s Q := op_lookN hu hk hz hm hx hg hf h
theorem update_V {t kt et : TypeId} {m k v : Operand} {r : Nat} {E : yV} {x : Int} {y : Value} (hu : P.underlying t = some (.map kt et)) (hk : P.underlying kt = some (.int .i64)) (hm : zn F m = .map (some r)) (hx : zn F k = .int .i64 x) (hv : zn F v = y) (hg : s.get r = some (yG E)) (hmay : s.may r = true) :
  zr P (zn F) (.mapUpdate t m k v) s = .ok .skip (s.put r (some (yG (putV E x y)))) := by
 unfold putV
 cases hf : yL E x with
 | none =>
  have hj := findV_none (E := E) 0 0 hf
  simp only [zr, updateM, hu, hm, hk, hg, yG, hx, keyD, hj, setM, hmay, hv, entsV_append, List.length_append, List.length_singleton, Nat.zero_add, List.push_toArray]
 | some old =>
  obtain ⟨j, hj, h2⟩ := findV_some (E := E) 0 0 hf
  simp only [zr, updateM, hu, hm, hk, hg, yG, hx, keyD, hj, setM, hmay, hv, Nat.zero_add, setV_length]
  rw [List.modify_toArray, h2]
theorem op_updV (A : Hp') {B : Hp'} {t kt et : TypeId} {m k v : Operand} {r : Nat} {E : yV} {x : Int} {y : Value} (H : HL W s0 s (A ++ (r, yG E) :: B) n) (hu : P.underlying t = some (.map kt et)) (hk : P.underlying kt = some (.int .i64)) (hm : zn F m = .map (some r)) (hx : zn F k = .int .i64 x) (hv : zn F v = y) (hr : s0.next + n ≤ zh)
  (h : ∀ s', HL W s0 s' (A ++ (r, yG (putV E x y)) :: B) n → Q (upd F d undef) s') : OpW P I ⟨d, .mapUpdate t m k v, ty, pos, af, g⟩ F s Q :=
 qk (update_V hu hk hm hx hv (H.own (r, yG E) (by simp)).1 (H.own (r, yG E) (by simp)).2.2.1) (h _ (H.putAt A _ hr))
theorem op_newMap {t : TypeId} (H : HL W s0 s L n) (hr : s0.next + n < zh)
  (h : ∀ b s', HL W s0 s' ((b, yG []) :: L) (n + 1) → Q (upd F d (.map (some b))) s') : OpW P I ⟨d, .makeMap t none, ty, pos, af, g⟩ F s Q :=
 zS (v := .map (some s.next)) (s' := s.new (yG [])) (by simp only [zr, mapM, H.room hr]; rfl) (h _ _ (H.new _ hr))
def shrU (a b : Int) : Int := a.fdiv (2 ^ min b.toNat 64)
def andU (a b : Int) : Int := IntKind.u64.wrap ((BitVec.ofInt 64 a &&& BitVec.ofInt 64 b).toNat : Int)
def addU (a b : Int) : Int := IntKind.u64.wrap (a + b)
theorem op_shrU {t : TypeId} {x y : Operand} {yt : TypeId} {a b : Int} (hx : zn F x = .int .u64 a) (hy : zn F y = .int .u64 b) (h : 0 ≤ b) (k : Q (upd F d (.int .u64 (shrU a b))) s) : OpW P I ⟨d, .binOp .shr t x y yt, ty, pos, af, g⟩ F s Q := by
 refine zS (v := .int .u64 (shrU a b)) (s' := s) ?_ k
 simp only [zr, qx, hx, hy, qr, x5, Go.binOp, Op.shift, if_neg (show ¬ b < 0 by omega), show IntKind.u64.bits = 64 from rfl]
 rfl
theorem op_andU {t : TypeId} {x y : Operand} {yt : TypeId} {a b : Int} (hx : zn F x = .int .u64 a) (hy : zn F y = .int .u64 b) (k : Q (upd F d (.int .u64 (andU a b))) s) : OpW P I ⟨d, .binOp .and t x y yt, ty, pos, af, g⟩ F s Q := by
 refine zS (v := .int .u64 (andU a b)) (s' := s) ?_ k
 simp only [zr, qx, hx, hy, qr, Go.binOp, Op.intBits]
 rfl
theorem op_addU {t : TypeId} {x y : Operand} {yt : TypeId} {a b : Int} (hx : zn F x = .int .u64 a) (hy : zn F y = .int .u64 b) (k : Q (upd F d (.int .u64 (addU a b))) s) : OpW P I ⟨d, .binOp .add t x y yt, ty, pos, af, g⟩ F s Q := by
 refine zS (v := .int .u64 (addU a b)) (s' := s) ?_ k
 simp only [zr, qx, hx, hy, qr, Go.binOp]
 rfl
theorem op_convertK {src dst : TypeId} {x : Operand} {kd kd' : IntKind} {a : Int} {u : TypeDesc} (hu : P.underlying src = some u) (hd : P.underlying dst = some (.int kd')) (hx : zn F x = .int kd a) (k : Q (upd F d (.int kd' (kd'.wrap a))) s) : OpW P I ⟨d, .convert src dst x, ty, pos, af, g⟩ F s Q := by
 refine zS (v := .int kd' (kd'.wrap a)) (s' := s) ?_ k
 simp only [zr, convertM, hu, hd, hx]
 cases u <;> rfl
end
end Go.Proofs.YtdejleegamcioaaGreat
namespace Go.Proofs.YtdejleegamcioaaGreat
open Go Go.M
theorem fb234 : yw Tryz.f234 (Tryz.f234.body.getD .skip) 1 = true := by kernel_rfl
theorem un235 : Tryz.prog.underlying 235 = some (.int .u64) := by kernel_rfl
theorem fb179 : yw Tryz.f179 (Tryz.f179.body.getD .skip) 1 = true := by kernel_rfl
theorem fc234 : yk Tryz.prog 234 = true := by kernel_rfl
theorem fb135 : yw Tryz.f135 (Tryz.f135.body.getD .skip) 1 = true := by kernel_rfl
theorem fc179 : yk Tryz.prog 179 = true := by kernel_rfl
theorem fb82 : yw Tryz.f82 (Tryz.f82.body.getD .skip) 1 = true := by kernel_rfl
theorem fb130 : yw Tryz.f130 (Tryz.f130.body.getD .skip) 1 = true := by kernel_rfl
theorem fb129 : yw Tryz.f129 (Tryz.f129.body.getD .skip) 1 = true := by kernel_rfl
theorem fc130 : yk Tryz.prog 130 = true := by kernel_rfl
def popI (n : Int) : Int :=
 let m1 := 6148914691236517205; let m2 := 3689348814741910323; let m4 := 1085102592571150095
 let a := addU (andU (shrU n 1) m1) (andU n m1)
 let b := addU (andU (shrU a 2) m2) (andU a m2)
 let c := andU (addU (shrU b 4) b) m4
 let d := addU c (shrU c 8)
 let e := addU d (shrU d 16)
 let f := addU e (shrU e 32)
 andI (IntKind.i64.wrap f) 127
def sizeI (s : Int) : Int := popI (IntKind.u64.wrap (andI s 65535))
def sizeChk : Bool := (List.range 64).all fun n => decide (sizeI (n : Int) = (pcN n : Int))
theorem sizeChk_ok : sizeChk = true := by kernel_rfl
theorem size_pc {s : Int} (h0 : 0 ≤ s) (h1 : s ≤ 63) : sizeI s = (pcN s.toNat : Int) := by
 obtain ⟨n, rfl⟩ := Int.eq_ofNat_of_zero_le h0
 have h := sizeChk_ok
 unfold sizeChk at h
 have h2 := List.all_eq_true.mp h n (List.mem_range.mpr (by omega))
 simpa using h2
set_option maxHeartbeats 4000000 in
set_option maxRecDepth 10000 in
theorem pop64_ok {I : zJ} (hI : Plain I) {s : St} {x : Int} : ∃ v s', yE Tryz.prog I 234 #[.int .u64 x] s v s' ∧ (v = .int .i64 (popI x) ∧ s' = s) := by
 refine zY 1 (hI 234 (by decide) (by decide) (by decide) (by decide)) Tryz.func234 rfl fb234 rfl ?_
 refine zc (za rfl (zk (zb (zc (za rfl (zd rfl (za rfl (op_shrU rfl rfl (by decide) (za rfl (op_andU rfl rfl (za rfl (zd rfl (za rfl (op_andU rfl rfl (za rfl (op_addU rfl rfl (za rfl (zm rfl (zb ?_)))))))))))))))))))
 refine zc (za rfl (zd rfl (za rfl (op_shrU rfl rfl (by decide) (za rfl (op_andU rfl rfl (za rfl (zd rfl (za rfl (op_andU rfl rfl (za rfl (op_addU rfl rfl (za rfl (zm rfl (zb (zc (za rfl (zd rfl (za rfl (op_shrU rfl rfl (by decide) ?_))))))))))))))))))))
 refine za rfl (zd rfl (za rfl (op_addU rfl rfl (za rfl (op_andU rfl rfl (za rfl (zm rfl (zb (zc (za rfl (zd rfl (za rfl (zd rfl (za rfl (op_shrU rfl rfl (by decide) (za rfl (op_addU rfl rfl (za rfl (zm rfl (zb ?_))))))))))))))))))))
 refine zc (za rfl (zd rfl (za rfl (zd rfl (za rfl (op_shrU rfl rfl (by decide) (za rfl (op_addU rfl rfl (za rfl (zm rfl (zb (zc (za rfl (zd rfl (za rfl (zd rfl (za rfl (op_shrU rfl rfl (by decide) (za rfl (op_addU rfl rfl ?_))))))))))))))))))))
 refine za rfl (zm rfl (zb (zc (za rfl (zd rfl (za rfl (op_convertK un235 un3 rfl (za rfl (op_and rfl rfl (za rfl (zm rfl (zb (zF (zt (z6 ?_)))))))))))))))
 exact ⟨rfl, rfl⟩
set_option maxHeartbeats 4000000 in
set_option maxRecDepth 10000 in
theorem pop_ok {I : zJ} (hI : Plain I) {s : St} {x : Int} : ∃ v s', yE Tryz.prog I 179 #[.int .u64 x] s v s' ∧ (v = .int .i64 (popI x) ∧ s' = s) := by
 refine zY 1 (hI 179 (by decide) (by decide) (by decide) (by decide)) Tryz.func179 rfl fb179 rfl ?_
 refine zc (za rfl (zk (zb (zq (zx rfl (zA (zi (zc (za rfl (zd rfl (za rfl (zo rfl fc234 rfl ?_))))))))))))
 obtain ⟨_, _, hr, rfl, rfl⟩ := pop64_ok (x := x) hI
 refine ⟨_, _, hr, ?_⟩
 clear hr
 refine za rfl (zm rfl (zb (zF (zt (z6 ?_)))))
 exact ⟨rfl, rfl⟩
set_option maxHeartbeats 4000000 in
set_option maxRecDepth 10000 in
theorem size_ok {I : zJ} (hI : Plain I) {s : St} {x : Int} : ∃ v s', yE Tryz.prog I 135 #[.int .i64 x] s v s' ∧ (v = .int .i64 (sizeI x) ∧ s' = s) := by
 refine zY 1 (hI 135 (by decide) (by decide) (by decide) (by decide)) Tryz.func135 rfl fb135 rfl ?_
 refine zc (za rfl (zk (zb (zc (za rfl (zd rfl (za rfl (op_and rfl rfl (za rfl (op_convertK un23 un173 rfl (za rfl (zo rfl fc179 rfl ?_))))))))))))
 obtain ⟨_, _, hr, rfl, rfl⟩ := pop_ok (x := IntKind.u64.wrap (andI x 65535)) hI
 refine ⟨_, _, hr, ?_⟩
 clear hr
 refine za rfl (zm rfl (zb (zF (zt (z6 ?_)))))
 exact ⟨rfl, rfl⟩
set_option maxHeartbeats 4000000 in
set_option maxRecDepth 10000 in
theorem orest_ok {I : zJ} (hI : Plain I) {s : St} (hf : Fine s) (hroom : s.next + 1 ≤ zh) {x : Sp} : ∃ v s', yE Tryz.prog I 82 #[.agg ⟨x.cells⟩] s v s' ∧ (v = .int .i64 (zB x.w x.p) ∧ HL [] s s' [] 1) := by
 have H := hf.hl
 refine zY 1 (hI 82 (by decide) (by decide) (by decide) (by decide)) Tryz.func82 rfl fb82 rfl ?_
 refine zc (za rfl (xc H rfl (by omega) (fun b1 s1 H => ?_)))
 refine za rfl (zk (zb (zc (za rfl (zf xW rfl (za rfl (zj y1 rfl H.own0 rfl (za rfl (zf xv rfl (za rfl (zj y1 rfl H.own0 rfl (za rfl (op_andNot rfl rfl (za rfl (zm rfl (zb (zF (zt ?_))))))))))))))))))
 refine z6 ?_
 exact ⟨rfl, H.drop0⟩
set_option maxHeartbeats 4000000 in
set_option maxRecDepth 10000 in
theorem is_ok {I : zJ} (hI : Plain I) {s : St} {x : Int} (h0 : 1 ≤ x) (h1 : x ≤ 65535) : ∃ v s', yE Tryz.prog I 130 #[.int .i64 x] s v s' ∧ (v = .bool true ∧ s' = s) := by
 refine zY 1 (hI 130 (by decide) (by decide) (by decide) (by decide)) Tryz.func130 rfl fb130 rfl ?_
 refine zc (za rfl (zk (zb (zc (za rfl (zd rfl (za rfl (qd rfl rfl (fun h => ?_) (fun h => False.elim (by omega))))))))))
 refine za rfl (zl rfl (za rfl (zd rfl (za rfl (op_leq rfl rfl (fun h => ?_) (fun h => False.elim (by omega)))))))
 refine za rfl (zK rfl rfl (za rfl (zw rfl (zb (zF (zt (z6 ?_)))))))
 exact ⟨rfl, rfl⟩
set_option maxHeartbeats 4000000 in
set_option maxRecDepth 10000 in
theorem no_ok {I : zJ} (hI : Plain I) {s : St} {x : Int} (h0 : 1 ≤ x) (h1 : x ≤ 65535) : ∃ v s', yE Tryz.prog I 129 #[.int .i64 x] s v s' ∧ (v = .bool false ∧ s' = s) := by
 refine zY 1 (hI 129 (by decide) (by decide) (by decide) (by decide)) Tryz.func129 rfl fb129 rfl ?_
 refine zc (za rfl (zk (zb (zc (za rfl (zd rfl (za rfl (zo rfl fc130 rfl ?_))))))))
 obtain ⟨_, _, hr, rfl, rfl⟩ := is_ok (x := x) hI h0 h1
 refine ⟨_, _, hr, ?_⟩
 clear hr
 refine za rfl (op_not rfl (za rfl (zw rfl (zb (zF (zt (z6 ?_)))))))
 exact ⟨rfl, rfl⟩
end Go.Proofs.YtdejleegamcioaaGreat
namespace Go.Proofs.YtdejleegamcioaaGreat
open Go Go.M
theorem fb131 : yw Tryz.f131 (Tryz.f131.body.getD .skip) 2 = true := by kernel_rfl
theorem fc129 : yk Tryz.prog 129 = true := by kernel_rfl
theorem fc82 : yk Tryz.prog 82 = true := by kernel_rfl
theorem sh169 : z1 Tryz.prog 169 = some (none) := by kernel_rfl
theorem x8 {W : List Nat} {s0 s s' : St} {L : Hp'} {n k : Nat} {X : List Nat} (H : HL W s0 s L n) (Hc : HL [] { s with prot := X ++ s.prot } s' [] k) : HL W s0 { s' with bar := s.bar, prot := s.prot } L (n + k) :=
 H.call0 (HL.wider H.fine (Nat.le_refl _) (fun _ h => List.mem_append_right _ h) Hc)
theorem and_not_self {w p : Int} (h : y0 w p = true) : zB p w = 0 := by
 simp only [y0, Bool.and_eq_true, decide_eq_true_eq] at h
 exact h.1.2
set_option maxHeartbeats 4000000 in
set_option maxRecDepth 10000 in
theorem bad_ok {I : zJ} (hI : Plain I) {s : St} (hf : Fine s) {b : Nat} {x : Sp} (hx : y0 x.w x.p = true) (hp : x.p < 9223372036854775808) (hlt : b < s.next) (hb : s.get b = some (.cells [Value.func (.func 129) ⟨[]⟩ ⟨[]⟩] 169)) (hroom : s.next + 2 ≤ zh) :
  ∃ v s', yE Tryz.prog I 131 #[.agg ⟨x.cells⟩, ptr b] s v s' ∧ (v = .bool false ∧ HL [] s s' [] 2) := by
 have H := hf.hl
 obtain ⟨f1, f2, f3, f4, f5, f6⟩ := yU hx hp
 refine zY 2 (hI 131 (by decide) (by decide) (by decide) (by decide)) Tryz.func131 rfl fb131 rfl ?_
 refine zc (za rfl (xc H rfl (by omega) (fun b2 s1 H => ?_)))
 refine za rfl (zk (zb (yC [⟨0, 0, .light, [2]⟩, ⟨1, 0, .light, [0]⟩, ⟨2, 2, .light, [0]⟩, ⟨3, 7, .whole, []⟩, ⟨4, 15, .light, []⟩, ⟨5, 31, .light, [7]⟩, ⟨6, 31, .light, [5]⟩, ⟨7, 95, .light, [5]⟩, ⟨8, 255, .whole, []⟩, ⟨9, 511, .light, []⟩, ⟨10, 1023, .light, []⟩, ⟨11, 2047, .light, [12]⟩, ⟨12, 2047, .light, [11]⟩, ⟨13, 6143, .whole, [11]⟩, ⟨14, 16383, .whole, []⟩, ⟨15, 32767, .light, []⟩, ⟨16, 65535, .light, []⟩, ⟨17, 131071, .light, [20]⟩, ⟨18, 262143, .light, [20]⟩, ⟨19, 131071, .light, [18]⟩, ⟨20, 655359, .light, [18]⟩, ⟨21, 2097151, .light, []⟩, ⟨22, 4194303, .light, []⟩, ⟨23, 8388607, .light, []⟩, ⟨24, 16777215, .light, []⟩] (by kernel_rfl) (by kernel_rfl) (zy rfl rfl sh169 rfl (by exact (H.kept _ hlt (by simp)).trans hb) (by omega) rfl (ze rfl rfl (zf xW rfl ⟨rfl, (zy rfl rfl y1 rfl H.own0 (by exact H.lim0 (by omega)) rfl (zU rfl rfl (zo rfl fc129 rfl ?_)))⟩))))))
 obtain ⟨_, _, hr, rfl, rfl⟩ := no_ok (x := x.w) hI (by omega) (by omega)
 refine ⟨_, _, hr, ?_⟩
 clear hr
 refine ze rfl rfl (zl rfl ⟨rfl, (zy rfl rfl sh169 rfl (by exact (H.kept _ hlt (by simp)).trans hb) (by omega) rfl (ze rfl rfl (zf xv rfl ⟨rfl, (zy rfl rfl y1 rfl H.own0 (by exact H.lim0 (by omega)) rfl (zU rfl rfl (zo rfl fc129 rfl ?_)))⟩)))⟩)
 obtain ⟨_, _, hr, rfl, rfl⟩ := no_ok (x := x.p) hI (by omega) (by omega)
 refine ⟨_, _, hr, ?_⟩
 clear hr
 refine ze rfl rfl (zW rfl rfl ⟨rfl, (ze rfl rfl (zl rfl ⟨rfl, (zy rfl rfl sh169 rfl (by exact (H.kept _ hlt (by simp)).trans hb) (by omega) rfl (yI rfl rfl sh62 rfl H.own0 (by exact H.lim0 (by omega)) rfl (zU rfl rfl (zo rfl fc82 rfl ?_))))⟩))⟩)
 obtain ⟨_, s9, hr, rfl, Hc⟩ := orest_ok (x := x) hI (Fine.narrow (X := [b]) H.fine (by intro p hp; simp only [List.mem_cons, List.not_mem_nil, or_false] at hp; have := H.le; omega)) (by have := H.most; show _ + _ ≤ _; simp only; omega)
 refine ⟨_, _, hr, ?_⟩
 clear hr
 have H := x8 H Hc
 clear Hc
 refine zU rfl rfl (zo rfl fc129 rfl ?_)
 obtain ⟨_, _, hr, rfl, rfl⟩ := no_ok (x := (zB x.w x.p)) hI (by omega) (by omega)
 refine ⟨_, _, hr, ?_⟩
 clear hr
 refine ze rfl rfl (zW rfl rfl ⟨rfl, (ze rfl rfl (zl rfl ⟨rfl, (ze rfl rfl (zf xv rfl ⟨rfl, (zy rfl rfl y1 rfl H.own0 (by exact H.lim0 (by omega)) rfl (ze rfl rfl (zf xW rfl ⟨rfl, (zy rfl rfl y1 rfl H.own0 (by exact H.lim0 (by omega)) rfl (ze rfl rfl (op_andNot rfl rfl ⟨rfl, (ze rfl rfl (op_neq rfl rfl (fun h => False.elim (by exact h (and_not_self hx))) (fun h => ⟨rfl, ?_⟩)))⟩)))⟩)))⟩))⟩))⟩)
 refine ze rfl rfl (zW rfl rfl ⟨rfl, (ze rfl rfl (zw rfl ⟨rfl, (z2 (zF (zt (z6 ?_))))⟩))⟩)
 exact ⟨rfl, H.drop0⟩
end Go.Proofs.YtdejleegamcioaaGreat
namespace Go.Proofs.YtdejleegamcioaaGreat
open Go Go.M
theorem fb132 : yw Tryz.f132 (Tryz.f132.body.getD .skip) 2 = true := by kernel_rfl
theorem fb133 : yw Tryz.f133 (Tryz.f133.body.getD .skip) 2 = true := by kernel_rfl
theorem fc131 : yk Tryz.prog 131 = true := by kernel_rfl
theorem fb77 : yw Tryz.f77 (Tryz.f77.body.getD .skip) 3 = true := by kernel_rfl
theorem fc132 : yk Tryz.prog 132 = true := by kernel_rfl
theorem fc133 : yk Tryz.prog 133 = true := by kernel_rfl
theorem sz169 : yR Tryz.prog 169 = some 1 := by kernel_rfl
theorem zf169 : xQ Tryz.prog 169 = some [.nilFunc] := by kernel_rfl
set_option maxHeartbeats 4000000 in
set_option maxRecDepth 10000 in
theorem hasI_ok {I : zJ} (hI : Plain I) {s : St} {v : Value} {l : List Int} (hl : Sl s 23 1 v (l.map dc)) (hin : ∀ x ∈ l, 1 ≤ x ∧ x ≤ 65535) (hlen : l.length ≤ 4096) : ∃ v' s', yE Tryz.prog I 132 #[v, Value.func (.func 129) ⟨[]⟩ ⟨[]⟩] s v' s' ∧ (v' = .bool false ∧ s' = s) := by
 obtain ⟨a, len, cap, rfl, hn⟩ := hl.isSlice
 rw [List.length_map] at hn
 subst hn
 refine zY 2 (hI 132 (by decide) (by decide) (by decide) (by decide)) Tryz.func132 rfl fb132 rfl ?_
 refine zc (za rfl (zk (zb (zq (zc (za rfl (zp rfl (za rfl (yf un31 rfl rfl rfl (za rfl (xV (zb (zI (yP (fun k F s1 => ∃ (G : FF) (i : Nat), F = lay G [(1, Value.func (.func 129) ⟨[]⟩ ⟨[]⟩), (7, .slice a l.length cap), (8, .int .i64 (l.length : Int)), (9, .int .i64 (i : Int))] ∧ s1 = s ∧ i ≤ l.length ∧ k = l.length - i) ?_ l.length _ _ ?_))))))))))))))
 rotate_left
 ·exact ⟨_, 0, yd ⟨rfl, rfl, rfl, rfl, trivial⟩, rfl, by omega, by omega⟩
 rintro k F s1 ⟨G, i, rfl, rfl, hi, rfl⟩
 refine zc (za rfl (yq rfl rfl (fun h => ?_) (fun h => ?_)))
 ·refine zb (zq (zE rfl (zA (zi (zq (zI (zc ?_)))))))
  obtain ⟨b, off, c, rfl, hg, hb, hc⟩ := hl.atD (i := (i : Int)) (k := i) rfl (by omega)
  have hx := hin (l.getD i 0) (yu (by omega))
  refine za rfl (zM el31 rfl rfl (by omega) (by omega) (za rfl (zj y1 rfl hg hc (za rfl (zm rfl (zb (zc (za rfl (op_moveF rfl (za rfl (zd rfl (za rfl (zo rfl fc129 rfl ?_)))))))))))))
  obtain ⟨_, _, hr, rfl, rfl⟩ := no_ok (x := (l.getD i 0)) hI hx.1 hx.2
  refine ⟨_, _, hr, ?_⟩
  clear hr
  refine zb (zx rfl (zA (zP (zi (zv (za rfl (zT rfl rfl (by unfold zQ; omega) (za rfl (zd rfl (zb (zN ?_)))))))))))
  exact ⟨l.length - (i + 1), by omega, _, i + 1, yd ⟨rfl, rfl, rfl, rfl, trivial⟩, rfl, by omega, rfl⟩
 refine zb (zq (zx rfl (yn (zX (yh (ye (zi (zc (za rfl (zk (zb (zF ?_))))))))))))
 refine zt (z6 ?_)
 exact ⟨rfl, rfl⟩
set_option maxHeartbeats 4000000 in
set_option maxRecDepth 10000 in
theorem hasS_ok {I : zJ} (hI : Plain I) {s : St} (hf : Fine s) {v : Value} {l : List Sp} {bn : Nat} (hl : Sl s 62 10 v (l.map Sp.cells)) (hin : xh l) (hlen : l.length ≤ 4096) (hlt : bn < s.next) (hb : s.get bn = some (.cells [Value.func (.func 129) ⟨[]⟩ ⟨[]⟩] 169)) (hroom : s.next + (10 + 3 * l.length) ≤ zh) : ∃ v' s', yE Tryz.prog I 133 #[v, Value.func (.func 131) ⟨[]⟩ ⟨[ptr bn]⟩] s v' s' ∧ (v' = .bool false ∧ HL [] s s' [] (3 * l.length)) := by
 have H := hf.hl
 obtain ⟨a, len, cap, rfl, hn⟩ := hl.isSlice
 rw [List.length_map] at hn
 subst hn
 refine zY 2 (hI 133 (by decide) (by decide) (by decide) (by decide)) Tryz.func133 rfl fb133 rfl ?_
 refine zc (za rfl (zk (zb (zq (zc (za rfl (zp rfl (za rfl (yf un25 rfl rfl rfl (za rfl (xV (zb (zI (yP (fun k F s1 => ∃ (G : FF) (i : Nat), F = lay G [(1, Value.func (.func 131) ⟨[]⟩ ⟨[ptr bn]⟩), (7, .slice a l.length cap), (8, .int .i64 (l.length : Int)), (9, .int .i64 (i : Int))] ∧ HL [] s s1 [] (3 * i) ∧ i ≤ l.length ∧ k = l.length - i) ?_ l.length _ _ ?_))))))))))))))
 rotate_left
 ·exact ⟨_, 0, yd ⟨rfl, rfl, rfl, rfl, trivial⟩, H, by omega, by omega⟩
 rintro k F s1 ⟨G, i, rfl, H, hi, rfl⟩
 refine zc (za rfl (yq rfl rfl (fun h => ?_) (fun h => ?_)))
 ·refine zb (zq (zE rfl (zA (zi (zq (zI (zc ?_)))))))
  obtain ⟨b, off, c, rfl, hg, hb2, hc⟩ := (hl.kept H).atS (i := (i : Int)) (k := i) rfl (by omega)
  have hx := hin (l.getD i default) (yu (by omega))
  refine za rfl (zM el25 rfl rfl (by omega) (by omega) (za rfl (z8 sh62 rfl hg hc (za rfl (zC H zf62 (by omega) (fun b6 s1 H => ?_))))))
  refine za rfl (zD (vs := [.int _ _, .int _ _, .bool _, .slice _ _ _, .bool _, .slice _ _ _, .bool _, .slice _ _ _, .bool _, .slice _ _ _]) H sz62 rfl rfl rfl rfl rfl (by omega) (fun s2 H => ?_))
  refine zb (zc (za rfl (op_moveF rfl (za rfl (z8 sh62 rfl H.own0 rfl (za rfl (zo rfl fc131 rfl ?_)))))))
  obtain ⟨_, s9, hr, rfl, Hc⟩ := bad_ok (b := bn) (x := l.getD i default) hI H.fine hx.1 hx.2 (by have := H.le; omega) ((H.kept _ hlt (by simp)).trans hb) (by have := H.most; omega)
  refine ⟨_, _, hr, ?_⟩
  clear hr
  have H := H.call0 Hc
  clear Hc
  refine zb (zx rfl (zA (zP (zi (zv (za rfl (zT rfl rfl (by unfold zQ; omega) (za rfl (zd rfl (zb (zN ?_)))))))))))
  exact ⟨l.length - (i + 1), by omega, _, i + 1, yd ⟨rfl, rfl, rfl, rfl, trivial⟩, H.drop0.up (by omega), by omega, rfl⟩
 refine zb (zq (zx rfl (yn (zX (yh (ye (zi (zc (za rfl (zk (zb (zF ?_))))))))))))
 refine zt (z6 ?_)
 exact ⟨rfl, H.up (by omega)⟩
set_option maxHeartbeats 4000000 in
set_option maxRecDepth 10000 in
theorem fits_ok {I : zJ} (hI : Plain I) {s : St} (hf : Fine s) {w : Int} {vm vs : Value} {may : List Sp} {st : List Int} (hm : Sl s 62 10 vm (may.map Sp.cells)) (hs : Sl s 23 1 vs (st.map dc)) (hmk : xh may) (hst : ∀ x ∈ st, 1 ≤ x ∧ x ≤ 65535) (hml : may.length ≤ 4096) (hsl : st.length ≤ 4096) (hw0 : 1 ≤ w) (hw1 : w ≤ 65535) (hroom : s.next + 20000 ≤ zh) : ∃ v' s', yE Tryz.prog I 77 #[.int .i64 w, vm, vs] s v' s' ∧ (v' = .int .i64 0 ∧ HL [] s s' [] 20000) := by
 have H := hf.hl
 obtain ⟨am, lm, cm, rfl, hn⟩ := hm.isSlice
 rw [List.length_map] at hn
 subst hn
 obtain ⟨as_, ls, cs, rfl, hn⟩ := hs.isSlice
 rw [List.length_map] at hn
 subst hn
 refine zY 3 (hI 77 (by decide) (by decide) (by decide) (by decide)) Tryz.func77 rfl fb77 rfl ?_
 refine zc (za rfl (zk (zb (zq (zc (za rfl (zp rfl (za rfl (yf un25 rfl rfl rfl (za rfl (qc rfl rfl (fun h => False.elim (by omega)) (fun h => ?_))))))))))))
 refine za rfl (zl rfl (za rfl (zp rfl (za rfl (yf un31 rfl rfl rfl (za rfl (qc rfl rfl (fun h => False.elim (by omega)) (fun h => ?_))))))))
 refine za rfl (zW rfl rfl (zb (zx rfl (zA (zi (zc (za rfl (zC H zf169 (by omega) (fun b7 s1 H => ?_)))))))))
 refine za rfl (zD (vs := [Value.func (.func 129) ⟨[]⟩ ⟨[]⟩]) H sz169 rfl rfl rfl rfl rfl (by omega) (fun s2 H => ?_))
 refine zb (zc (za rfl (op_makeFunc (za rfl (op_assignF rfl (zb (zq (zc (za rfl (zj sh169 rfl H.own0 rfl (za rfl (zd rfl (za rfl (zo rfl fc129 rfl ?_))))))))))))))
 obtain ⟨_, _, hr, rfl, rfl⟩ := no_ok (x := w) hI hw0 hw1
 refine ⟨_, _, hr, ?_⟩
 clear hr
 refine za rfl (zl rfl (za rfl (zp rfl (za rfl (zj sh169 rfl H.own0 rfl (za rfl (zo rfl fc132 rfl ?_)))))))
 obtain ⟨_, _, hr, rfl, rfl⟩ := hasI_ok hI (hs.kept H) hst hsl
 refine ⟨_, _, hr, ?_⟩
 clear hr
 refine za rfl (zW rfl rfl (za rfl (zl rfl (za rfl (zp rfl (za rfl (op_moveF rfl (za rfl (zo rfl fc133 rfl ?_)))))))))
 obtain ⟨_, s9, hr, rfl, Hc⟩ := hasS_ok (bn := b7) hI H.fine (hm.kept H) hmk hml H.lt0 H.own0 (by have := H.most; omega)
 refine ⟨_, _, hr, ?_⟩
 clear hr
 have H := H.call0 Hc
 clear Hc
 refine za rfl (zW rfl rfl (zb (zx rfl (zA (zi (zc (za rfl (zk (zb (zF (zt (z6 ?_))))))))))))
 exact ⟨rfl, H.drop0.up (by omega)⟩
end Go.Proofs.YtdejleegamcioaaGreat
namespace Go.M
section
variable {P : Program} {I : zJ} {F : FF} {s : St} {Q : FF → St → Prop} {W : List Nat} {s0 : St} {L : Hp'} {n : Nat}
theorem HL.narrow {D : Hp'} {X : List Nat} (H : HL W s0 s (D ++ L) n) (hne : ∀ q ∈ D, q.1 ∉ X) (hX : ∀ p ∈ X, p < s.next) :
  HL (D.map Prod.fst) { s with prot := X ++ s.prot } { s with prot := X ++ s.prot } D 0 where
 bar := rfl
 prot := rfl
 wfb := H.fine.wfb
 wfp := fun p hp => by
  rcases List.mem_append.mp hp with hp | hp
  ·exact hX p hp
  ·exact H.fine.wfp p hp
 le := Nat.le_refl _
 most := Nat.le_refl _
 own := fun p hp => by
  obtain ⟨h1, h2, h3, _⟩ := H.own p (List.mem_append_left _ hp)
  refine ⟨h1, h2, ?_, .inr (List.mem_map_of_mem hp)⟩
  have hn := hne p hp
  simp only [St.may, Bool.and_eq_true, Bool.not_eq_true', Bool.eq_false_iff, ne_eq, List.any_eq_true, not_exists, not_and] at h3 ⊢
  refine ⟨h3.1, fun q hq he => ?_⟩
  rcases List.mem_append.mp hq with hq | hq
  ·have := Nat.eq_of_beq_eq_true he
   exact hn (this ▸ hq)
  ·exact h3.2 q hq he
 dist := (List.pairwise_append.mp H.dist).1
 kept := fun _ _ _ => rfl
end
end Go.M
namespace Go.Proofs.YtdejleegamcioaaGreat
open Go Go.M
section
variable {P : Program} {I : zJ} {F : FF} {s : St} {Q : FF → St → Prop} {W : List Nat} {s0 : St} {L : Hp'} {n : Nat}
theorem dr_appendOwn {D : Hp'} {fr : List Nat} {ops : List Oper} {ix anc : Nat} {free : List Nat} {rest : List Drawn} {d : Option Tmp} {ty : TypeId} {pos : String} {af : Array Edge} {g : Option (Nat × Bool)} {ag : Array Operand} {ts : Array TypeId} {t t2 e e2 : TypeId} {tr : List TypeId} {x y : Operand} {v : Value} {sz by_ m len : Nat} {z l c : List Value}
  (hgo : yo ops ix = some ⟨d, .call ⟨.builtin .append, ag, ts⟩, ty, pos, af, g⟩) (hw : yS ops F ⟨d, .call ⟨.builtin .append, ag, ts⟩, ty, pos, af, g⟩ = true) (hfr : yB ops F free = fr)
  (H : HL W s0 s (D ++ L) n) (hne : ∀ q ∈ D, q.1 ∉ fr) (hX : ∀ p ∈ fr, p < s.next) (ho : Own e sz D v c len) (hs : xG P t = some (e, sz, by_, z)) (hu2 : P.underlying t2 = some (.slice e2))
  (ht : ts.toList = t :: t2 :: tr) (ha : ag.toList = [x, y]) (hx : zn F x = v) (he : Elems s sz (zn F y) m l) (hm : 0 < m) (hp : l.all Go.M.plainCell = true) (hl : l.length = m * sz) (hb : (len + m) * (by_ + 1) ≤ 1073741824) (hr : s0.next + n < zh)
  (k : ∀ b s', HL W s0 s' ((b, .cells (c ++ l) e) :: L) (n + 1) → xe P I ops rest (upd F d (.slice (some ⟨b, 0, none⟩) (len + m) (2 * (len + m) + 1))) s' Q) : xe P I ops (⟨ix, anc, .whole, free⟩ :: rest) F s Q := by
 refine zU hgo hw ?_
 rw [hfr]
 have H1 := HL.narrow H hne hX
 rw [← List.append_nil D] at H1
 refine yT (L := []) H1 ho hs hu2 ht ha hx he hm hp hl hb (by have := H.most; show s.next + 0 < zh; omega) (fun b s' H' _ => ?_)
 refine k b _ (HL.callW (A := D) (L := L) H (HL.wider H.fine (Nat.le_refl _) (fun _ h => List.mem_append_right _ h) (by rw [List.append_nil] at H'; exact H')) (fun b hb => ?_) (fun p hp => List.mem_map_of_mem hp))
 obtain ⟨p, hp, rfl⟩ := List.mem_map.mp hb
 exact ⟨p.2, hp⟩
theorem dr_new {ops : List Oper} {ix anc : Nat} {free : List Nat} {t : Tmp} {e : TypeId} {ty : TypeId} {pos : String} {af : Array Edge} {g : Option (Nat × Bool)} {c : List Value} {rest : List Drawn} (hgo : yo ops ix = some ⟨some t, .alloc e, ty, pos, af, g⟩) (hw : yS ops F ⟨some t, .alloc e, ty, pos, af, g⟩ = true)
  (H : HL W s0 s L n) (hz : xQ P e = some c) (hr : s0.next + n < zh) (k : ∀ b s', HL W s0 s' ((b, .cells c e) :: L) (n + 1) → xe P I ops rest (upd F (some t) (.pointer (some ⟨b, 0, none⟩))) s' Q) : xe P I ops (⟨ix, anc, .new, free⟩ :: rest) F s Q := by
 have hroom := H.room hr
 refine draw_new hgo hw hroom (ob := .cells c e) ?_ (k _ _ (H.new _ hr))
 have hroom2 : ({ next := s.next, bar := s.next, prot := [], heap := .nil } : St).room = true := hroom
 simp only [xQ] at hz
 split at hz
 ·next i hb hi =>
  split at hz
  ·next z hz2 =>
   cases hz
   simp only [zr, hb, guarded, allocM, hi, hz2, boxM, hroom2]
   rfl
  ·cases hz
 ·cases hz
end
abbrev OfE := List (Int × Nat × List Nat)
def idxC (l : List Nat) : List Value := l.map fun (i : Nat) => Value.int .i64 (i : Int)
def ofV (e : Int × Nat × List Nat) : Value := .slice (some ⟨e.2.1, 0, none⟩) e.2.2.length (2 * e.2.2.length + 1)
def ofM (E : OfE) : yV := E.map fun e => (e.1, ofV e)
def ofB (E : OfE) : Hp' := E.map fun e => (e.2.1, .cells (idxC e.2.2) 3)
def OfOK (may : List Sp) (m : Nat) (E : OfE) : Prop := ∀ e ∈ E, e.2.2.length ≤ m ∧ ∀ i ∈ e.2.2, i < may.length ∧ (may.getD i default).w = e.1
theorem OfOK.nil {may : List Sp} {m : Nat} : OfOK may m [] := fun _ h => by cases h
theorem ofM_find {w : Int} {v : Value} : ∀ {E : OfE}, yL (ofM E) w = some v → ∃ A e B, E = A ++ e :: B ∧ e.1 = w ∧ v = ofV e ∧ ∀ x, setV (ofM E) w (ofV (w, x)) = ofM (A ++ (w, x) :: B)
 | [], h => by cases h
 | e :: E, h => by
  simp only [ofM, List.map_cons, yL] at h
  split at h
  ·next hk =>
   cases h
   refine ⟨[], e, E, rfl, hk, rfl, fun x => ?_⟩
   simp only [ofM, List.map_cons, setV, if_pos hk, List.nil_append]
  ·next hk =>
   obtain ⟨A, e', B, rfl, h1, h2, h3⟩ := ofM_find (E := E) h
   refine ⟨e :: A, e', B, rfl, h1, h2, fun x => ?_⟩
   have h4 := h3 x
   simp only [ofM, List.map_cons, List.cons_append, List.map_append] at h4 ⊢
   simp only [setV, if_neg hk, h4]
theorem ofM_put0 {w : Int} {E : OfE} (h : yL (ofM E) w = none) (x : Nat × List Nat) : putV (ofM E) w (ofV (w, x)) = ofM (E ++ [(w, x)]) := by
 unfold putV
 rw [h]
 simp [ofM]
theorem ofB_app (A B : OfE) : ofB (A ++ B) = ofB A ++ ofB B := by simp [ofB]
theorem ofM_mem {w : Int} {v : Value} {E : OfE} (h : yL (ofM E) w = some v) : ∃ e ∈ E, e.1 = w ∧ v = ofV e := by
 obtain ⟨A, e, B, rfl, h1, h2, _⟩ := ofM_find h
 exact ⟨e, by simp, h1, h2⟩
theorem ofOwn (e : Int × Nat × List Nat) : Own 3 1 [(e.2.1, .cells (idxC e.2.2) 3)] (ofV e) (idxC e.2.2) e.2.2.length := .block _ _ _ _ (by simp [idxC]) (by omega)
theorem of_close0 {W : List Nat} {s0 s : St} {n : Nat} {p39 p10 p8 po p5 pf p2 : Nat × MObj} {b : Nat} {l : List Nat} {w : Int} {E : OfE} {c : List Value} (hc : c = idxC l) (H : HL W s0 s ((b, .cells c 3) :: p39 :: p10 :: p8 :: po :: p5 :: pf :: p2 :: ofB E) n) :
  HL W s0 s (p8 :: po :: p5 :: pf :: p2 :: ofB (E ++ [(w, b, l)])) n := by
 subst hc
 have h1 : ((b, MObj.cells (idxC l) 3) :: p39 :: p10 :: p8 :: po :: p5 :: pf :: p2 :: ofB E).Perm ((p39 :: p10 :: p8 :: po :: p5 :: pf :: p2 :: ofB E) ++ [(b, MObj.cells (idxC l) 3)]) := List.perm_append_comm (l₁ := [_])
 have H2 := H.perm h1
 rw [ofB_app]
 exact H2.sub (.cons _ (.cons _ (List.Sublist.refl _)))
theorem of_open {W : List Nat} {s0 s : St} {n : Nat} {p39 p10 p8 po p5 pf p2 : Nat × MObj} {A B : OfE} {e : Int × Nat × List Nat} (H : HL W s0 s (p39 :: p10 :: p8 :: po :: p5 :: pf :: p2 :: ofB (A ++ e :: B)) n) :
  HL W s0 s ([(e.2.1, .cells (idxC e.2.2) 3)] ++ (p39 :: p10 :: p8 :: po :: p5 :: pf :: p2 :: (ofB A ++ ofB B))) n := by
 rw [ofB_app] at H
 have h1 : (([p39, p10, p8, po, p5, pf, p2] ++ ofB A) ++ (e.2.1, MObj.cells (idxC e.2.2) 3) :: ofB B).Perm ((e.2.1, MObj.cells (idxC e.2.2) 3) :: (([p39, p10, p8, po, p5, pf, p2] ++ ofB A) ++ ofB B)) := List.perm_middle
 exact HL.perm H h1
theorem of_close1 {W : List Nat} {s0 s : St} {n : Nat} {p39 p10 p8 po p5 pf p2 : Nat × MObj} {b : Nat} {l : List Nat} {w : Int} {A B : OfE} {c : List Value} (hc : c = idxC l) (H : HL W s0 s ((b, .cells c 3) :: p39 :: p10 :: p8 :: po :: p5 :: pf :: p2 :: (ofB A ++ ofB B)) n) :
  HL W s0 s (p8 :: po :: p5 :: pf :: p2 :: ofB (A ++ (w, b, l) :: B)) n := by
 subst hc
 have h1 : (([p39, p10, p8, po, p5, pf, p2] ++ ofB A) ++ (b, MObj.cells (idxC l) 3) :: ofB B).Perm ((b, MObj.cells (idxC l) 3) :: (([p39, p10, p8, po, p5, pf, p2] ++ ofB A) ++ ofB B)) := List.perm_middle
 have H2 := HL.perm (L' := ([p39, p10, p8, po, p5, pf, p2] ++ ofB A) ++ (b, MObj.cells (idxC l) 3) :: ofB B) H h1.symm
 rw [ofB_app]
 exact H2.sub (.cons _ (.cons _ (List.Sublist.refl _)))
theorem OfOK.add0 {may : List Sp} {m : Nat} {E : OfE} (h : OfOK may m E) {w : Int} {b i : Nat} (hi : i < may.length) (hw : (may.getD i default).w = w) : OfOK may (m + 1) (E ++ [(w, b, [i])]) := fun e he => by
 rcases List.mem_append.mp he with he | he
 ·exact ⟨by have := (h e he).1; omega, (h e he).2⟩
 ·rw [List.mem_singleton] at he
  subst he
  refine ⟨by simp, fun j hj => ?_⟩
  simp only [List.mem_singleton] at hj
  subst hj
  exact ⟨hi, hw⟩
theorem OfOK.add1 {may : List Sp} {m : Nat} {A B : OfE} {e : Int × Nat × List Nat} (h : OfOK may m (A ++ e :: B)) {w : Int} {b i : Nat} (hi : i < may.length) (hw : (may.getD i default).w = w) (he : e.1 = w) : OfOK may (m + 1) (A ++ (w, b, e.2.2 ++ [i]) :: B) := fun x hx => by
 have h0 := h e (by simp)
 rcases List.mem_append.mp hx with hx | hx
 ·have := h x (by simp [hx]); exact ⟨by omega, this.2⟩
 ·rcases List.mem_cons.mp hx with rfl | hx
  ·refine ⟨by simp only [List.length_append, List.length_singleton]; omega, fun j hj => ?_⟩
   rcases List.mem_append.mp hj with hj | hj
   ·have := h0.2 j hj; rw [he] at this; exact this
   ·rw [List.mem_singleton] at hj; subst hj; exact ⟨hi, hw⟩
  ·have := h x (by simp [hx]); exact ⟨by omega, this.2⟩
def BoolM (E : yV) : Prop := ∀ e ∈ E, ∃ b, e.2 = .bool b
theorem findV_mem {E : yV} {k : Int} {v : Value} (h : yL E k = some v) : (k, v) ∈ E := by
 induction E with
 | nil => cases h
 | cons e E ih =>
  simp only [yL] at h
  split at h
  ·next hk => cases h; subst hk; exact List.mem_cons_self
  ·exact List.mem_cons_of_mem _ (ih h)
theorem setV_mem {E : yV} {k : Int} {v : Value} {e : Int × Value} (h : e ∈ setV E k v) : e ∈ E ∨ e = (k, v) := by
 induction E with
 | nil => cases h
 | cons x E ih =>
  simp only [setV] at h
  split at h
  ·rcases List.mem_cons.mp h with h | h
   ·exact .inr h
   ·exact .inl (List.mem_cons_of_mem _ h)
  ·rcases List.mem_cons.mp h with h | h
   ·exact .inl (by rw [h]; exact List.mem_cons_self)
   ·rcases ih h with h | h
    ·exact .inl (List.mem_cons_of_mem _ h)
    ·exact .inr h
theorem putV_mem {E : yV} {k : Int} {v : Value} {e : Int × Value} (h : e ∈ putV E k v) : e ∈ E ∨ e = (k, v) := by
 unfold putV at h
 split at h
 ·exact setV_mem h
 ·rcases List.mem_append.mp h with h | h
  ·exact .inl h
  ·exact .inr (by simpa using h)
theorem BoolM.put {E : yV} (h : BoolM E) (k : Int) (b : Bool) : BoolM (putV E k (.bool b)) := fun e he => by
 rcases putV_mem he with he | rfl
 ·exact h e he
 ·exact ⟨b, rfl⟩
end Go.Proofs.YtdejleegamcioaaGreat
