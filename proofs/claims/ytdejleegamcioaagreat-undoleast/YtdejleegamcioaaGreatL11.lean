/- Small functions of the program and of the reference. -/
/- Splits: the tests of the program and of the reference. -/
/- Joins: which sets need work; what arguments are proper. -/
import Derived.Test.YtdejleegamcioaaGreatProg
import Derived.KernelRfl
import Derived.Test.YtdejleegamcioaaGreatL10
namespace Go.Proofs.YtdejleegamcioaaGreat
open Go Go.M

theorem fb10 : funcB Tryz.f10 (Tryz.f10.body.getD .skip) 2 = true := by kernel_rfl
theorem el22 : elemF Tryz.prog 22 = some (true, 0, 1) := by kernel_rfl
theorem fb30 : funcB Tryz.f30 (Tryz.f30.body.getD .skip) 3 = true := by kernel_rfl
theorem fc10 : funcF Tryz.prog 10 = true := by kernel_rfl
theorem sh3 : shapeOf Tryz.prog 3 = some (none) := by kernel_rfl
theorem un22 : Tryz.prog.underlying 22 = some (.slice 3) := by kernel_rfl
theorem fb26 : funcB Tryz.f26 (Tryz.f26.body.getD .skip) 2 = true := by kernel_rfl

/-- The table replaces nothing but two functions. -/
def Plain (I : Table) : Prop := ∀ f, f ≠ 12 → f ≠ 17 → I f = none
/-- sherdref01.Around -/
def aroundZ (a n : Int) : Int := (if a < 0 then -(a + 1) else a).tmod n
/-- sherdref01.At -/
def atZ (l : List Int) (i n : Int) : Int := if i < 0 ∨ (l.length : Int) ≤ i then 0 else aroundZ (l.getD i.toNat 0) n
def ints (l : List Int) : List Value := l.map (Value.int .i64)
theorem lget_ints {l : List Int} {k : Nat} (h : k < l.length) : lget (ints l) k = some (.int .i64 (l.getD k 0)) := by
  rw [lget_eq]; simp [ints, List.getElem?_map, List.getD_eq_getElem?_getD, List.getElem?_eq_getElem h]
/-- The slice of these numbers. -/
inductive SlI (s : St) (v : Value) (l : List Int) : Prop
  | nil (c : Nat) (hv : v = .slice none 0 c) (hl : l = []) : SlI s v l
  | block (b off cap : Nat) (c : List Value) (e : TypeId) (hv : v = .slice (some ⟨b, off, none⟩) l.length cap) (hg : s.get b = some (.cells c e)) (hb : b < s.next) (hc : ∀ k, k < l.length → lget c (off + k) = some (.int .i64 (l.getD k 0))) : SlI s v l

set_option maxHeartbeats 4000000 in
set_option maxRecDepth 10000 in
theorem around_ok {I : Table} (hI : Plain I) {s : St} {a n : Int} (ha : In64 a) (hn : n ≠ 0) : ∃ v s', Rets Tryz.prog I 10 #[.int .i64 a, .int .i64 n] s v s' ∧ (v = .int .i64 (aroundZ a n) ∧ s' = s) := by
  obtain ⟨ha1, ha2⟩ := ha
  refine call_of 2 (hI 10 (by decide) (by decide)) Tryz.func10 rfl fb10 rfl ?_
  refine cR ?_
  refine oO rfl (aC ?_)
  refine ops_nil ?_
  refine cw_seq ?_
  refine cR ?_
  refine oO rfl (mI rfl ?_)
  refine oO rfl (op_lss rfl rfl (fun h => ?_) (fun h => ?_))
  · refine ops_nil ?_
    refine cT rfl ?_
    refine cG ?_
    refine oO rfl (mI rfl ?_)
    refine oO rfl (op_add rfl rfl (by unfold In64; omega) ?_)
    refine oO rfl (op_neg rfl ?_)
    refine oO rfl (aI rfl ?_)
    refine ops_nil ?_
    refine sN ?_
    refine cR ?_
    refine oO rfl (mI rfl ?_)
    refine oO rfl (mI rfl ?_)
    refine oO rfl (op_rem rfl rfl (by omega) ?_)
    refine oO rfl (aI rfl ?_)
    refine ops_nil ?_
    refine cw_ret ?_
    refine ret_end ?_
    refine end_t ?_
    refine ⟨congrArg (Value.int .i64) ?_, rfl⟩
    unfold aroundZ
    (rw [if_pos h, wrap_in ⟨by omega, by omega⟩]; congr 1; omega)
  · refine ops_nil ?_
    refine cE rfl ?_
    refine cw_skip ?_
    refine sN ?_
    refine cR ?_
    refine oO rfl (mI rfl ?_)
    refine oO rfl (mI rfl ?_)
    refine oO rfl (op_rem rfl rfl (by omega) ?_)
    refine oO rfl (aI rfl ?_)
    refine ops_nil ?_
    refine cw_ret ?_
    refine ret_end ?_
    refine end_t ?_
    refine ⟨congrArg (Value.int .i64) ?_, rfl⟩
    unfold aroundZ
    rw [if_neg h]

set_option maxHeartbeats 4000000 in
set_option maxRecDepth 10000 in
theorem at_ok {I : Table} (hI : Plain I) {s : St} {v : Value} {l : List Int} {i n : Int} (hl : SlI s v l) (hin : ∀ x ∈ l, In64 x) (hn : n ≠ 0) : ∃ v' s', Rets Tryz.prog I 30 #[v, .int .i64 i, .int .i64 n] s v' s' ∧ (v' = .int .i64 (atZ l i n) ∧ s' = s) := by
  obtain ⟨a, len, cap, rfl, hlen⟩ : ∃ a len cap, v = .slice a len cap ∧ len = l.length := by
    cases hl with
    | nil c hv hl => exact ⟨_, _, _, hv, by rw [hl]; rfl⟩
    | block b off cap c e hv => exact ⟨_, _, _, hv, rfl⟩
  refine call_of 3 (hI 30 (by decide) (by decide)) Tryz.func30 rfl fb30 rfl ?_
  refine cR ?_
  refine oO rfl (aC ?_)
  refine ops_nil ?_
  refine cw_seq ?_
  refine cR ?_
  refine oO rfl (mI rfl ?_)
  refine oO rfl (op_lss rfl rfl (fun h => ?_) (fun h => ?_))
  · refine oO rfl (mB rfl ?_)
    refine oF rfl ?_
    refine oF rfl ?_
    refine oF rfl ?_
    refine oF rfl ?_
    refine oO rfl (op_pick1C rfl ?_)
    refine ops_nil ?_
    refine cT rfl ?_
    refine cR ?_
    refine oO rfl (aC ?_)
    refine ops_nil ?_
    refine cw_ret ?_
    refine seq_ret ?_
    refine ret_end ?_
    refine end_t ?_
    refine ⟨congrArg (Value.int .i64) ?_, rfl⟩
    unfold atZ
    rw [if_pos (by omega)]
  · refine oO rfl (mB rfl ?_)
    refine oO rfl (mI rfl ?_)
    refine oO rfl (mS rfl ?_)
    refine oO rfl (op_len un22 rfl rfl rfl ?_)
    refine oO rfl (op_geq rfl rfl (fun h => ?_) (fun h => ?_))
    · refine oO rfl (k0B rfl rfl ?_)
      refine ops_nil ?_
      refine cT rfl ?_
      refine cR ?_
      refine oO rfl (aC ?_)
      refine ops_nil ?_
      refine cw_ret ?_
      refine seq_ret ?_
      refine ret_end ?_
      refine end_t ?_
      refine ⟨congrArg (Value.int .i64) ?_, rfl⟩
      unfold atZ
      rw [if_pos (by omega)]
    · refine oO rfl (k0B rfl rfl ?_)
      refine ops_nil ?_
      refine cE rfl ?_
      refine cw_skip ?_
      refine sN ?_
      refine cR ?_
      refine oO rfl (mS rfl ?_)
      refine oO rfl (mI rfl ?_)
      cases hl with
      | nil c hv hl2 => simp only [hl2, List.length_nil] at hlen; omega
      | block b off cap2 c e hv hg hb hc =>
      cases hv
      refine oO rfl (op_indexS el22 rfl rfl (by omega) (by omega) ?_)
      refine oO rfl (lO sh3 rfl hg (by rw [Nat.mul_one]; exact hc _ (by omega)) ?_)
      refine oO rfl (mI rfl ?_)
      refine oO rfl (oC rfl fc10 rfl ?_)
      obtain ⟨_, _, hr, rfl, rfl⟩ := around_ok (n := n) hI (hin (l.getD i.toNat 0) (by rw [List.getD_eq_getElem?_getD, List.getElem?_eq_getElem (by omega)]; simp)) hn
      refine ⟨_, _, hr, ?_⟩
      clear hr
      refine oO rfl (aI rfl ?_)
      refine ops_nil ?_
      refine cw_ret ?_
      refine ret_end ?_
      refine end_t ?_
      refine ⟨congrArg (Value.int .i64) ?_, rfl⟩
      unfold atZ
      rw [if_neg (by omega)]

set_option maxHeartbeats 4000000 in
set_option maxRecDepth 10000 in
theorem has_ok {I : Table} (hI : Plain I) {s : St} {x k : Int} : ∃ v s', Rets Tryz.prog I 26 #[.int .i64 x, .int .i64 k] s v s' ∧ (v = .bool (decide (0 ≤ k) && decide (k ≤ 15) && bit x k.toNat) ∧ s' = s) := by
  refine call_of 2 (hI 26 (by decide) (by decide)) Tryz.func26 rfl fb26 rfl ?_
  refine cR ?_
  refine oO rfl (aC ?_)
  refine ops_nil ?_
  refine cw_seq ?_
  refine cR ?_
  refine oO rfl (mI rfl ?_)
  refine oO rfl (op_lss rfl rfl (fun h => ?_) (fun h => ?_))
  · refine oO rfl (mB rfl ?_)
    refine oF rfl ?_
    refine oF rfl ?_
    refine oO rfl (op_pick1C rfl ?_)
    refine ops_nil ?_
    refine cT rfl ?_
    refine cR ?_
    refine oO rfl (aC ?_)
    refine ops_nil ?_
    refine cw_ret ?_
    refine seq_ret ?_
    refine ret_end ?_
    refine end_t ?_
    refine ⟨congrArg Value.bool ?_, rfl⟩
    (simp; omega)
  · refine oO rfl (mB rfl ?_)
    refine oO rfl (mI rfl ?_)
    refine oO rfl (op_gtr rfl rfl (fun h => ?_) (fun h => ?_))
    · refine oO rfl (k0B rfl rfl ?_)
      refine ops_nil ?_
      refine cT rfl ?_
      refine cR ?_
      refine oO rfl (aC ?_)
      refine ops_nil ?_
      refine cw_ret ?_
      refine seq_ret ?_
      refine ret_end ?_
      refine end_t ?_
      refine ⟨congrArg Value.bool ?_, rfl⟩
      (simp; omega)
    · refine oO rfl (k0B rfl rfl ?_)
      refine ops_nil ?_
      refine cE rfl ?_
      refine cw_skip ?_
      refine sN ?_
      refine cR ?_
      obtain ⟨m, rfl⟩ := Int.eq_ofNat_of_zero_le (show 0 ≤ k by omega)
      refine oO rfl (mI rfl ?_)
      refine oO rfl (mI rfl ?_)
      refine oO rfl (op_shr rfl rfl (by omega) ?_)
      refine oO rfl (op_and rfl rfl ?_)
      refine oO rfl (op_eql' rfl rfl ?_)
      refine oO rfl (aB rfl ?_)
      refine ops_nil ?_
      refine cw_ret ?_
      refine ret_end ?_
      refine end_t ?_
      refine ⟨congrArg Value.bool ?_, rfl⟩
      (rw [shr_bit (by omega)]; simp only [Int.toNat_natCast]; cases hb : bit x m <;> simp <;> omega)

end Go.Proofs.YtdejleegamcioaaGreat
namespace Go.Proofs.YtdejleegamcioaaGreat
open Go Go.M

theorem fb83 : funcB Tryz.f83 (Tryz.f83.body.getD .skip) 1 = true := by kernel_rfl
theorem fb39 : funcB Tryz.f39 (Tryz.f39.body.getD .skip) 1 = true := by kernel_rfl
theorem fc83 : funcF Tryz.prog 83 = true := by kernel_rfl
theorem of62_0 : offF Tryz.prog 62 0 = some 0 := by kernel_rfl
theorem of62_1 : offF Tryz.prog 62 1 = some 1 := by kernel_rfl
theorem sh23 : shapeOf Tryz.prog 23 = some (none) := by kernel_rfl
theorem fb86 : funcB Tryz.f86 (Tryz.f86.body.getD .skip) 1 = true := by kernel_rfl
theorem fb85 : funcB Tryz.f85 (Tryz.f85.body.getD .skip) 1 = true := by kernel_rfl
theorem fc86 : funcF Tryz.prog 86 = true := by kernel_rfl
theorem sh62 : shapeOf Tryz.prog 62 = some (some 10) := by kernel_rfl
theorem el30 : elemF Tryz.prog 30 = some (false, 2, 1) := by kernel_rfl
theorem fb59 : funcB Tryz.f59 (Tryz.f59.body.getD .skip) 2 = true := by kernel_rfl

structure Slc where
  a : Option Addr
  n : Nat
  c : Nat
def Slc.v (x : Slc) : Value := .slice x.a x.n x.c
/-- A split: its sets; what its direction is made of. -/
structure Sp where
  w : Int
  p : Int
  n1 : Bool
  s1 : Slc
  n2 : Bool
  s2 : Slc
  n3 : Bool
  s3 : Slc
  n4 : Bool
  s4 : Slc
def Sp.cells (x : Sp) : List Value := [.int .i64 x.w, .int .i64 x.p, .bool x.n1, x.s1.v, .bool x.n2, x.s2.v, .bool x.n3, x.s3.v, .bool x.n4, x.s4.v]
/-- A join's cells. -/
def jc (j : Int × Int) : List Value := [.int .i64 j.1, .int .i64 j.2]
/-- sherdref27.Valid -/
def validB (w p : Int) : Bool := decide (1 ≤ w) && decide (w ≤ 65535) && (decide (1 ≤ p) && decide (p ≤ 65535)) && decide (andI p w = p) && decide (p ≠ w)
/-- undo.splits -/
def splitB (w p : Int) : Bool := decide (0 < w) && decide (w < 65536) && decide (0 < p) && decide (andNotI p w = 0) && decide (p ≠ w)
/-- A slice of elements of sz cells each. -/
inductive Sl (s : St) (e : TypeId) (sz : Nat) (v : Value) (es : List (List Value)) : Prop
  | nil (c : Nat) (hv : v = .slice none 0 c) (hl : es = []) : Sl s e sz v es
  | block (b off cap : Nat) (c : List Value) (hv : v = .slice (some ⟨b, off, none⟩) es.length cap) (hg : s.get b = some (.cells c e)) (hb : b < s.next) (hcap : es.length ≤ cap / 2) (hc : ∀ k, k < es.length → ltake sz (ldrop (off + k * sz) c) = some (es.getD k [])) : Sl s e sz v es
theorem Sl.isSlice {s : St} {e : TypeId} {sz : Nat} {v : Value} {es : List (List Value)} (h : Sl s e sz v es) : ∃ a len cap, v = .slice a len cap ∧ len = es.length := by
  cases h with
  | nil c hv hl => exact ⟨_, _, _, hv, by rw [hl]; rfl⟩
  | block b off cap c hv => exact ⟨_, _, _, hv, rfl⟩
theorem Sl.kept {s s' : St} {e : TypeId} {sz : Nat} {v : Value} {es : List (List Value)} {L : Hp'} {n : Nat} (h : Sl s e sz v es) (H : HL [] s s' L n) : Sl s' e sz v es := by
  cases h with
  | nil c hv hl => exact .nil c hv hl
  | block b off cap c hv hg hb hcap hc => exact .block b off cap c hv (H.old hb hg) (by have := H.le; omega) hcap hc
theorem Sl.cap {s : St} {e : TypeId} {sz : Nat} {a : Option Addr} {len cap : Nat} {es : List (List Value)} (h : Sl s e sz (.slice a len cap) es) : len ≤ cap / 2 := by
  cases h with
  | nil c hv hl => cases hv; omega
  | block b off cap c hv hg hb hcap hc => cases hv; exact hcap
theorem Sl.at {s : St} {e : TypeId} {sz : Nat} {a : Option Addr} {len cap : Nat} {es : List (List Value)} (h : Sl s e sz (.slice a len cap) es) {i : Int} {k : Nat} (hi : i = (k : Int)) (hk : k < es.length) : ∃ b off c, a = some ⟨b, off, none⟩ ∧ s.get b = some (.cells c e) ∧ b < s.next ∧ ltake sz (ldrop (off + i.toNat * sz) c) = some (es.getD k []) := by
  subst hi
  cases h with
  | nil c hv hl => rw [hl] at hk; simp at hk
  | block b off cap c hv hg hb hcap hc =>
    cases hv
    exact ⟨b, off, c, rfl, hg, hb, by simpa using hc k hk⟩
theorem getD_map {α β : Type} {f : α → β} {l : List α} {k : Nat} {x : β} {y : α} (h : k < l.length) : (l.map f).getD k x = f (l.getD k y) := by
  simp [List.getD_eq_getElem?_getD, List.getElem?_map, List.getElem?_eq_getElem h]
theorem getD_mem {α : Type} {l : List α} {k : Nat} {y : α} (h : k < l.length) : l.getD k y ∈ l := by
  simp [List.getD_eq_getElem?_getD, List.getElem?_eq_getElem h]
theorem drop_getD {α : Type} {l : List α} {k : Nat} (y : α) (h : k < l.length) : l.drop k = l.getD k y :: l.drop (k + 1) := by
  rw [List.drop_eq_getElem_cons h]; simp [List.getD_eq_getElem?_getD, List.getElem?_eq_getElem h]
theorem Sl.atJ {s : St} {a : Option Addr} {len cap : Nat} {js : List (Int × Int)} (h : Sl s 30 2 (.slice a len cap) (js.map jc)) {i : Int} {k : Nat} (hi : i = (k : Int)) (hk : k < js.length) : ∃ b off c, a = some ⟨b, off, none⟩ ∧ s.get b = some (.cells c 30) ∧ b < s.next ∧ ltake 2 (ldrop (off + i.toNat * 2) c) = some (jc (js.getD k (0, 0))) := by
  obtain ⟨b, off, c, h1, h2, h3, h4⟩ := h.at hi (k := k) (by simpa using hk)
  exact ⟨b, off, c, h1, h2, h3, by rw [h4, getD_map hk]⟩
instance : Inhabited Slc := ⟨⟨none, 0, 0⟩⟩
instance : Inhabited Sp := ⟨⟨0, 0, false, default, false, default, false, default, false, default⟩⟩
theorem Sl.atS {s : St} {a : Option Addr} {len cap : Nat} {l : List Sp} (h : Sl s 62 10 (.slice a len cap) (l.map Sp.cells)) {i : Int} {k : Nat} (hi : i = (k : Int)) (hk : k < l.length) : ∃ b off c, a = some ⟨b, off, none⟩ ∧ s.get b = some (.cells c 62) ∧ b < s.next ∧ ltake 10 (ldrop (off + i.toNat * 10) c) = some (l.getD k default).cells := by
  obtain ⟨b, off, c, h1, h2, h3, h4⟩ := h.at hi (k := k) (by simpa using hk)
  exact ⟨b, off, c, h1, h2, h3, by rw [h4, getD_map hk]⟩
/-- The first two cells of a split in its slice. -/
theorem Sl.gotS {s : St} {b off len cap : Nat} {l : List Sp} (h : Sl s 62 10 (.slice (some ⟨b, off, none⟩) len cap) (l.map Sp.cells)) {k : Nat} (hk : k < l.length) : ∃ c, s.get b = some (.cells c 62) ∧ lget c (off + ((k : Int)).toNat * 10 + 0) = some (.int .i64 (l.getD k default).w) ∧ lget c (off + ((k : Int)).toNat * 10 + 1) = some (.int .i64 (l.getD k default).p) := by
  obtain ⟨b', off', c, h1, h2, h3, h4⟩ := h.atS (i := (k : Int)) rfl hk
  cases h1
  refine ⟨c, h2, ?_⟩
  rw [ltake_eq, ldrop_eq] at h4
  split at h4
  · next hle =>
    rw [Option.some.injEq] at h4
    rw [List.length_drop] at hle
    have e : ∀ j, j < 10 → lget c (off + ((k : Int)).toNat * 10 + j) = (l.getD k default).cells[j]? := by
      intro j hj
      rw [lget_eq, ← h4, List.getElem?_take, if_pos hj, List.getElem?_drop]
    exact ⟨e 0 (by omega), e 1 (by omega)⟩
  · cases h4

set_option maxHeartbeats 4000000 in
set_option maxRecDepth 10000 in
theorem isSet_ok {I : Table} (hI : Plain I) {s : St} {x : Int} : ∃ v s', Rets Tryz.prog I 83 #[.int .i64 x] s v s' ∧ (v = .bool (decide (1 ≤ x) && decide (x ≤ 65535)) ∧ s' = s) := by
  refine call_of 1 (hI 83 (by decide) (by decide)) Tryz.func83 rfl fb83 rfl ?_
  refine cR ?_
  refine oO rfl (aC ?_)
  refine ops_nil ?_
  refine cR ?_
  refine oO rfl (mI rfl ?_)
  refine oO rfl (op_geq rfl rfl (fun h => ?_) (fun h => ?_))
  · refine oO rfl (mB rfl ?_)
    refine oO rfl (mI rfl ?_)
    refine oO rfl (op_leq rfl rfl (fun h => ?_) (fun h => ?_))
    · refine oO rfl (k1B rfl rfl ?_)
      refine oO rfl (aB rfl ?_)
      refine ops_nil ?_
      refine cw_ret ?_
      refine ret_end ?_
      refine end_t ?_
      refine ⟨congrArg Value.bool ?_, rfl⟩
      simp <;> omega
    · refine oO rfl (k1B rfl rfl ?_)
      refine oO rfl (aB rfl ?_)
      refine ops_nil ?_
      refine cw_ret ?_
      refine ret_end ?_
      refine end_t ?_
      refine ⟨congrArg Value.bool ?_, rfl⟩
      simp <;> omega
  · refine oO rfl (mB rfl ?_)
    refine oF rfl ?_
    refine oF rfl ?_
    refine oO rfl (op_pick0C rfl ?_)
    refine oO rfl (aB rfl ?_)
    refine ops_nil ?_
    refine cw_ret ?_
    refine ret_end ?_
    refine end_t ?_
    refine ⟨congrArg Value.bool ?_, rfl⟩
    simp <;> omega

set_option maxHeartbeats 4000000 in
set_option maxRecDepth 10000 in
theorem valid_ok {I : Table} (hI : Plain I) {s : St} (hf : Fine s) (hroom : s.next + 1 ≤ limit) {x : Sp} : ∃ v s', Rets Tryz.prog I 39 #[.agg ⟨x.cells⟩] s v s' ∧ (v = .bool (validB x.w x.p) ∧ HL [] s s' [] 1) := by
  have H := hf.hl
  refine call_of 1 (hI 39 (by decide) (by decide)) Tryz.func39 rfl fb39 rfl ?_
  refine cR ?_
  refine oO rfl (op_boxA H rfl (by omega) (fun b1 s1 H => ?_))
  refine oO rfl (aC ?_)
  refine ops_nil ?_
  refine cR ?_
  refine oO rfl (fA of62_0 rfl ?_)
  refine oO rfl (lO sh23 rfl (by exact H.own0) rfl ?_)
  refine oO rfl (oC rfl fc83 rfl ?_)
  obtain ⟨_, _, hr, rfl, rfl⟩ := isSet_ok (s := _) (x := x.w) hI
  refine ⟨_, _, hr, ?_⟩
  clear hr
  cases hb : (decide (1 ≤ x.w) && decide (x.w ≤ 65535))
  · refine oO rfl (mB rfl ?_)
    refine oF rfl ?_
    refine oF rfl ?_
    refine oF rfl ?_
    refine oO rfl (op_pick0C rfl ?_)
    refine oO rfl (mB rfl ?_)
    refine oF rfl ?_
    refine oF rfl ?_
    refine oF rfl ?_
    refine oF rfl ?_
    refine oF rfl ?_
    refine oF rfl ?_
    refine oF rfl ?_
    refine oF rfl ?_
    refine oO rfl (op_pick0C rfl ?_)
    refine oO rfl (mB rfl ?_)
    refine oF rfl ?_
    refine oF rfl ?_
    refine oF rfl ?_
    refine oF rfl ?_
    refine oF rfl ?_
    refine oO rfl (op_pick0C rfl ?_)
    refine oO rfl (aB rfl ?_)
    refine ops_nil ?_
    refine cw_ret ?_
    refine ret_end ?_
    refine end_t ?_
    refine ⟨congrArg Value.bool ?_, H.drop0⟩
    unfold validB
    (simp_all <;> intros <;> omega)
  · refine oO rfl (mB rfl ?_)
    refine oO rfl (fA of62_1 rfl ?_)
    refine oO rfl (lO sh23 rfl (by exact H.own0) rfl ?_)
    refine oO rfl (oC rfl fc83 rfl ?_)
    obtain ⟨_, _, hr, rfl, rfl⟩ := isSet_ok (s := _) (x := x.p) hI
    refine ⟨_, _, hr, ?_⟩
    clear hr
    cases hb : (decide (1 ≤ x.p) && decide (x.p ≤ 65535))
    · refine oO rfl (k1B rfl rfl ?_)
      refine oO rfl (mB rfl ?_)
      refine oF rfl ?_
      refine oF rfl ?_
      refine oF rfl ?_
      refine oF rfl ?_
      refine oF rfl ?_
      refine oF rfl ?_
      refine oF rfl ?_
      refine oF rfl ?_
      refine oO rfl (op_pick0C rfl ?_)
      refine oO rfl (mB rfl ?_)
      refine oF rfl ?_
      refine oF rfl ?_
      refine oF rfl ?_
      refine oF rfl ?_
      refine oF rfl ?_
      refine oO rfl (op_pick0C rfl ?_)
      refine oO rfl (aB rfl ?_)
      refine ops_nil ?_
      refine cw_ret ?_
      refine ret_end ?_
      refine end_t ?_
      refine ⟨congrArg Value.bool ?_, H.drop0⟩
      unfold validB
      (simp_all <;> intros <;> omega)
    · refine oO rfl (k1B rfl rfl ?_)
      refine oO rfl (mB rfl ?_)
      refine oO rfl (fA of62_1 rfl ?_)
      refine oO rfl (lO sh23 rfl (by exact H.own0) rfl ?_)
      refine oO rfl (fA of62_0 rfl ?_)
      refine oO rfl (lO sh23 rfl (by exact H.own0) rfl ?_)
      refine oO rfl (op_and rfl rfl ?_)
      refine oO rfl (fA of62_1 rfl ?_)
      refine oO rfl (lO sh23 rfl (by exact H.own0) rfl ?_)
      refine oO rfl (op_eql rfl rfl (fun h => ?_) (fun h => ?_))
      · refine oO rfl (k1B rfl rfl ?_)
        refine oO rfl (mB rfl ?_)
        refine oO rfl (fA of62_1 rfl ?_)
        refine oO rfl (lO sh23 rfl (by exact H.own0) rfl ?_)
        refine oO rfl (fA of62_0 rfl ?_)
        refine oO rfl (lO sh23 rfl (by exact H.own0) rfl ?_)
        refine oO rfl (op_neq rfl rfl (fun h => ?_) (fun h => ?_))
        · refine oO rfl (k1B rfl rfl ?_)
          refine oO rfl (aB rfl ?_)
          refine ops_nil ?_
          refine cw_ret ?_
          refine ret_end ?_
          refine end_t ?_
          refine ⟨congrArg Value.bool ?_, H.drop0⟩
          unfold validB
          (simp_all <;> intros <;> omega)
        · refine oO rfl (k1B rfl rfl ?_)
          refine oO rfl (aB rfl ?_)
          refine ops_nil ?_
          refine cw_ret ?_
          refine ret_end ?_
          refine end_t ?_
          refine ⟨congrArg Value.bool ?_, H.drop0⟩
          unfold validB
          (simp_all <;> intros <;> omega)
      · refine oO rfl (k1B rfl rfl ?_)
        refine oO rfl (mB rfl ?_)
        refine oF rfl ?_
        refine oF rfl ?_
        refine oF rfl ?_
        refine oF rfl ?_
        refine oF rfl ?_
        refine oO rfl (op_pick0C rfl ?_)
        refine oO rfl (aB rfl ?_)
        refine ops_nil ?_
        refine cw_ret ?_
        refine ret_end ?_
        refine end_t ?_
        refine ⟨congrArg Value.bool ?_, H.drop0⟩
        unfold validB
        (simp_all <;> intros <;> omega)

set_option maxHeartbeats 4000000 in
set_option maxRecDepth 10000 in
theorem splits_ok {I : Table} (hI : Plain I) {s : St} (hf : Fine s) (hroom : s.next + 1 ≤ limit) {x : Sp} : ∃ v s', Rets Tryz.prog I 86 #[.agg ⟨x.cells⟩] s v s' ∧ (v = .bool (splitB x.w x.p) ∧ HL [] s s' [] 1) := by
  have H := hf.hl
  refine call_of 1 (hI 86 (by decide) (by decide)) Tryz.func86 rfl fb86 rfl ?_
  refine cR ?_
  refine oO rfl (op_boxA H rfl (by omega) (fun b1 s1 H => ?_))
  refine oO rfl (aC ?_)
  refine ops_nil ?_
  refine cR ?_
  refine oO rfl (fA of62_0 rfl ?_)
  refine oO rfl (lO sh23 rfl (by exact H.own0) rfl ?_)
  refine oO rfl (op_gtr rfl rfl (fun h => ?_) (fun h => ?_))
  · refine oO rfl (mB rfl ?_)
    refine oO rfl (fA of62_0 rfl ?_)
    refine oO rfl (lO sh23 rfl (by exact H.own0) rfl ?_)
    refine oO rfl (op_lss rfl rfl (fun h => ?_) (fun h => ?_))
    · refine oO rfl (k1B rfl rfl ?_)
      refine oO rfl (mB rfl ?_)
      refine oO rfl (fA of62_1 rfl ?_)
      refine oO rfl (lO sh23 rfl (by exact H.own0) rfl ?_)
      refine oO rfl (op_gtr rfl rfl (fun h => ?_) (fun h => ?_))
      · refine oO rfl (k1B rfl rfl ?_)
        refine oO rfl (mB rfl ?_)
        refine oO rfl (fA of62_1 rfl ?_)
        refine oO rfl (lO sh23 rfl (by exact H.own0) rfl ?_)
        refine oO rfl (fA of62_0 rfl ?_)
        refine oO rfl (lO sh23 rfl (by exact H.own0) rfl ?_)
        refine oO rfl (op_andNot rfl rfl ?_)
        refine oO rfl (op_eql rfl rfl (fun h => ?_) (fun h => ?_))
        · refine oO rfl (k1B rfl rfl ?_)
          refine oO rfl (mB rfl ?_)
          refine oO rfl (fA of62_1 rfl ?_)
          refine oO rfl (lO sh23 rfl (by exact H.own0) rfl ?_)
          refine oO rfl (fA of62_0 rfl ?_)
          refine oO rfl (lO sh23 rfl (by exact H.own0) rfl ?_)
          refine oO rfl (op_neq rfl rfl (fun h => ?_) (fun h => ?_))
          · refine oO rfl (k1B rfl rfl ?_)
            refine oO rfl (aB rfl ?_)
            refine ops_nil ?_
            refine cw_ret ?_
            refine ret_end ?_
            refine end_t ?_
            refine ⟨congrArg Value.bool ?_, H.drop0⟩
            unfold splitB
            (simp_all <;> intros <;> omega)
          · refine oO rfl (k1B rfl rfl ?_)
            refine oO rfl (aB rfl ?_)
            refine ops_nil ?_
            refine cw_ret ?_
            refine ret_end ?_
            refine end_t ?_
            refine ⟨congrArg Value.bool ?_, H.drop0⟩
            unfold splitB
            (simp_all <;> intros <;> omega)
        · refine oO rfl (k1B rfl rfl ?_)
          refine oO rfl (mB rfl ?_)
          refine oF rfl ?_
          refine oF rfl ?_
          refine oF rfl ?_
          refine oF rfl ?_
          refine oF rfl ?_
          refine oO rfl (op_pick0C rfl ?_)
          refine oO rfl (aB rfl ?_)
          refine ops_nil ?_
          refine cw_ret ?_
          refine ret_end ?_
          refine end_t ?_
          refine ⟨congrArg Value.bool ?_, H.drop0⟩
          unfold splitB
          (simp_all <;> intros <;> omega)
      · refine oO rfl (k1B rfl rfl ?_)
        refine oO rfl (mB rfl ?_)
        refine oF rfl ?_
        refine oF rfl ?_
        refine oF rfl ?_
        refine oF rfl ?_
        refine oF rfl ?_
        refine oF rfl ?_
        refine oO rfl (op_pick0C rfl ?_)
        refine oO rfl (mB rfl ?_)
        refine oF rfl ?_
        refine oF rfl ?_
        refine oF rfl ?_
        refine oF rfl ?_
        refine oF rfl ?_
        refine oO rfl (op_pick0C rfl ?_)
        refine oO rfl (aB rfl ?_)
        refine ops_nil ?_
        refine cw_ret ?_
        refine ret_end ?_
        refine end_t ?_
        refine ⟨congrArg Value.bool ?_, H.drop0⟩
        unfold splitB
        (simp_all <;> intros <;> omega)
    · refine oO rfl (k1B rfl rfl ?_)
      refine oO rfl (mB rfl ?_)
      refine oF rfl ?_
      refine oF rfl ?_
      refine oF rfl ?_
      refine oO rfl (op_pick0C rfl ?_)
      refine oO rfl (mB rfl ?_)
      refine oF rfl ?_
      refine oF rfl ?_
      refine oF rfl ?_
      refine oF rfl ?_
      refine oF rfl ?_
      refine oF rfl ?_
      refine oO rfl (op_pick0C rfl ?_)
      refine oO rfl (mB rfl ?_)
      refine oF rfl ?_
      refine oF rfl ?_
      refine oF rfl ?_
      refine oF rfl ?_
      refine oF rfl ?_
      refine oO rfl (op_pick0C rfl ?_)
      refine oO rfl (aB rfl ?_)
      refine ops_nil ?_
      refine cw_ret ?_
      refine ret_end ?_
      refine end_t ?_
      refine ⟨congrArg Value.bool ?_, H.drop0⟩
      unfold splitB
      (simp_all <;> intros <;> omega)
  · refine oO rfl (mB rfl ?_)
    refine oF rfl ?_
    refine oF rfl ?_
    refine oF rfl ?_
    refine oO rfl (op_pick0C rfl ?_)
    refine oO rfl (mB rfl ?_)
    refine oF rfl ?_
    refine oF rfl ?_
    refine oF rfl ?_
    refine oO rfl (op_pick0C rfl ?_)
    refine oO rfl (mB rfl ?_)
    refine oF rfl ?_
    refine oF rfl ?_
    refine oF rfl ?_
    refine oF rfl ?_
    refine oF rfl ?_
    refine oF rfl ?_
    refine oO rfl (op_pick0C rfl ?_)
    refine oO rfl (mB rfl ?_)
    refine oF rfl ?_
    refine oF rfl ?_
    refine oF rfl ?_
    refine oF rfl ?_
    refine oF rfl ?_
    refine oO rfl (op_pick0C rfl ?_)
    refine oO rfl (aB rfl ?_)
    refine ops_nil ?_
    refine cw_ret ?_
    refine ret_end ?_
    refine end_t ?_
    refine ⟨congrArg Value.bool ?_, H.drop0⟩
    unfold splitB
    (simp_all <;> intros <;> omega)

set_option maxHeartbeats 4000000 in
set_option maxRecDepth 10000 in
theorem noSplit_ok {I : Table} (hI : Plain I) {s : St} (hf : Fine s) (hroom : s.next + 2 ≤ limit) {x : Sp} : ∃ v s', Rets Tryz.prog I 85 #[.agg ⟨x.cells⟩] s v s' ∧ (v = .bool (!splitB x.w x.p) ∧ HL [] s s' [] 2) := by
  have H := hf.hl
  refine call_of 1 (hI 85 (by decide) (by decide)) Tryz.func85 rfl fb85 rfl ?_
  refine cR ?_
  refine oO rfl (op_boxA H rfl (by omega) (fun b1 s1 H => ?_))
  refine oO rfl (aC ?_)
  refine ops_nil ?_
  refine cR ?_
  refine oO rfl (lN sh62 rfl (by exact H.own0) rfl ?_)
  refine oO rfl (oC rfl fc86 rfl ?_)
  obtain ⟨_, s9, hr, rfl, Hc⟩ := splits_ok (x := x) hI H.fine (by have := H.most; omega)
  refine ⟨_, _, hr, ?_⟩
  clear hr
  have H := H.call0 Hc
  clear Hc
  refine oO rfl (op_not rfl ?_)
  refine oO rfl (aB rfl ?_)
  refine ops_nil ?_
  refine cw_ret ?_
  refine ret_end ?_
  refine end_t ?_
  exact ⟨rfl, H.drop0⟩

set_option maxHeartbeats 4000000 in
set_option maxRecDepth 10000 in
theorem both_ok {I : Table} (hI : Plain I) {s : St} (hf : Fine s) (hroom : s.next + 1 ≤ limit) {x : Int} {j : Int × Int} (h1 : 0 ≤ j.1 ∧ j.1 ≤ 64) (h2 : 0 ≤ j.2 ∧ j.2 ≤ 64) : ∃ v s', Rets Tryz.prog I 59 #[.int .i64 x, .agg ⟨jc j⟩] s v s' ∧ (v = .bool (bit x j.1.toNat && bit x j.2.toNat) ∧ HL [] s s' [] 1) := by
  have H := hf.hl
  refine call_of 2 (hI 59 (by decide) (by decide)) Tryz.func59 rfl fb59 rfl ?_
  refine cR ?_
  refine oO rfl (op_boxA H rfl (by omega) (fun b3 s1 H => ?_))
  refine oO rfl (aC ?_)
  refine ops_nil ?_
  refine cR ?_
  refine oO rfl (mI rfl ?_)
  refine oO rfl (op_indexA el30 rfl rfl (by omega) (by omega) ?_)
  refine oO rfl (lO sh3 rfl (by exact H.own0) rfl ?_)
  refine oO rfl (op_shr rfl rfl h1.1 ?_)
  refine oO rfl (op_and rfl rfl ?_)
  refine oO rfl (op_eqlBit rfl rfl h1.1 h1.2 (fun h => ?_) (fun h => ?_))
  · refine oO rfl (mB rfl ?_)
    refine oO rfl (mI rfl ?_)
    refine oO rfl (op_indexA el30 rfl rfl (by omega) (by omega) ?_)
    refine oO rfl (lO sh3 rfl (by exact H.own0) rfl ?_)
    refine oO rfl (op_shr rfl rfl h2.1 ?_)
    refine oO rfl (op_and rfl rfl ?_)
    refine oO rfl (op_eqlBit rfl rfl h2.1 h2.2 (fun h => ?_) (fun h => ?_))
    · refine oO rfl (k1B rfl rfl ?_)
      refine oO rfl (aB rfl ?_)
      refine ops_nil ?_
      refine cw_ret ?_
      refine ret_end ?_
      refine end_t ?_
      refine ⟨congrArg Value.bool ?_, H.drop0⟩
      simp_all
    · refine oO rfl (k1B rfl rfl ?_)
      refine oO rfl (aB rfl ?_)
      refine ops_nil ?_
      refine cw_ret ?_
      refine ret_end ?_
      refine end_t ?_
      refine ⟨congrArg Value.bool ?_, H.drop0⟩
      simp_all
  · refine oO rfl (mB rfl ?_)
    refine oF rfl ?_
    refine oF rfl ?_
    refine oF rfl ?_
    refine oF rfl ?_
    refine oF rfl ?_
    refine oF rfl ?_
    refine oO rfl (op_pick0C rfl ?_)
    refine oO rfl (aB rfl ?_)
    refine ops_nil ?_
    refine cw_ret ?_
    refine ret_end ?_
    refine end_t ?_
    refine ⟨congrArg Value.bool ?_, H.drop0⟩
    simp_all

end Go.Proofs.YtdejleegamcioaaGreat
namespace Go.Proofs.YtdejleegamcioaaGreat
open Go Go.M

theorem el24 : elemF Tryz.prog 24 = some (true, 0, 2) := by kernel_rfl
theorem fb42 : funcB Tryz.f42 (Tryz.f42.body.getD .skip) 3 = true := by kernel_rfl
theorem fc59 : funcF Tryz.prog 59 = true := by kernel_rfl
theorem sh30 : shapeOf Tryz.prog 30 = some (some 2) := by kernel_rfl
theorem sz30 : sizeF Tryz.prog 30 = some 2 := by kernel_rfl
theorem un24 : Tryz.prog.underlying 24 = some (.slice 30) := by kernel_rfl
theorem zf30 : zeroF Tryz.prog 30 = some [.int .i64 0, .int .i64 0] := by kernel_rfl

/-- undo.needs, from a join on. -/
def needsB (x bad : Int) : Nat → List (Int × Int) → Bool
  | _, [] => false
  | i, j :: r => (bit bad i && (bit x j.1.toNat && bit x j.2.toNat)) || needsB x bad (i + 1) r
/-- Joins of pieces that are there. -/
def joinB (j : Int × Int) : Prop := (0 ≤ j.1 ∧ j.1 ≤ 15) ∧ (0 ≤ j.2 ∧ j.2 ≤ 15)

set_option maxHeartbeats 4000000 in
set_option maxRecDepth 10000 in
theorem needs_ok {I : Table} (hI : Plain I) {s : St} (hf : Fine s) {x bad : Int} {v : Value} {js : List (Int × Int)} (hl : Sl s 30 2 v (js.map jc)) (hj : ∀ j ∈ js, joinB j) (hlen : js.length ≤ 16) (hroom : s.next + 40 ≤ limit) :
    ∃ v' s', Rets Tryz.prog I 42 #[.int .i64 x, v, .int .i64 bad] s v' s' ∧ (v' = .bool (needsB x bad 0 js) ∧ HL [] s s' [] 40) := by
  have H := hf.hl
  obtain ⟨a, len, cap, rfl, hn⟩ := hl.isSlice
  rw [List.length_map] at hn
  subst hn
  refine call_of 3 (hI 42 (by decide) (by decide)) Tryz.func42 rfl fb42 rfl ?_
  refine cR ?_
  refine oO rfl (aC ?_)
  refine ops_nil ?_
  refine cw_seq ?_
  refine cR ?_
  refine oO rfl (mS rfl ?_)
  refine oO rfl (op_len un24 rfl rfl rfl ?_)
  refine oO rfl (op_moveC ?_)
  refine ops_nil ?_
  refine cw_block ?_
  refine cw_loop (fun k F s1 => ∃ (G : FF) (i : Nat), F = lay G [(0, .int .i64 x), (2, .int .i64 bad), (9, .slice a js.length cap), (10, .int .i64 (js.length : Int)), (11, .int .i64 (i : Int))] ∧ HL [] s s1 [] (2 * i) ∧ i ≤ js.length ∧ k = js.length - i ∧ needsB x bad 0 js = needsB x bad i (js.drop i)) ?_ js.length _ _ ?_
  · rintro k F s1 ⟨G, i, rfl, H, hi, rfl, hn⟩
    refine cR ?_
    refine oO rfl (op_lss rfl rfl (fun h => ?_) (fun h => ?_))
    · refine ops_nil ?_
      refine cw_seq ?_
      refine cT rfl ?_
      refine cw_skip ?_
      refine sN ?_
      refine cw_seq ?_
      refine cw_block ?_
      refine cR ?_
      refine oO rfl (mI rfl ?_)
      have hjm : joinB (js.getD i (0, 0)) := hj _ (getD_mem (by omega))
      obtain ⟨b, off, c, rfl, hg, hb, hc⟩ := (hl.kept H).atJ rfl (show i < js.length by omega)
      refine oO rfl (op_indexS el24 rfl rfl (by (unfold limit at *; omega)) (by (unfold limit at *; omega)) ?_)
      refine oO rfl (lN sh30 rfl hg hc ?_)
      refine oO rfl (op_alloc H zf30 (by (unfold limit at *; omega)) (fun b8 s1 H => ?_))
      refine oO rfl (aI rfl ?_)
      refine oO rfl (op_store0 (vs := [.int _ _, .int _ _]) H sz30 rfl rfl rfl rfl rfl (by (unfold limit at *; omega)) (fun s2 H => ?_))
      refine ops_nil ?_
      refine cR ?_
      refine oO rfl (mI rfl ?_)
      refine oO rfl (mI rfl ?_)
      refine oO rfl (op_shr rfl rfl (by (unfold limit at *; omega)) ?_)
      refine oO rfl (op_and rfl rfl ?_)
      refine oO rfl (op_eqlBit rfl rfl (by omega) (by omega) (fun h => ?_) (fun h => ?_))
      · refine oO rfl (mB rfl ?_)
        refine oO rfl (mI rfl ?_)
        refine oO rfl (lN sh30 rfl (by exact H.own0) rfl ?_)
        refine oO rfl (oC rfl fc59 rfl ?_)
        obtain ⟨_, s9, hr, rfl, Hc⟩ := both_ok (x := x) (j := js.getD i (0, 0)) hI H.fine (by have := H.most; unfold limit at *; omega) ⟨hjm.1.1, by have := hjm.1.2; omega⟩ ⟨hjm.2.1, by have := hjm.2.2; omega⟩
        refine ⟨_, _, hr, ?_⟩
        clear hr
        have H := H.call0 Hc
        clear Hc
        cases hb2 : (bit x (js.getD i (0, 0)).1.toNat && bit x (js.getD i (0, 0)).2.toNat)
        · refine oO rfl (k1B rfl rfl ?_)
          refine ops_nil ?_
          refine cE rfl ?_
          refine cw_skip ?_
          refine blk_norm ?_
          refine sN ?_
          refine cG ?_
          refine oO rfl (op_add rfl rfl (by unfold In64; (unfold limit at *; omega)) ?_)
          refine oO rfl (mI rfl ?_)
          refine ops_nil ?_
          refine loop_norm ?_
          refine ⟨js.length - (i + 1), by omega, _, i + 1, slots ⟨rfl, rfl, rfl, rfl, rfl, trivial⟩, H.drop0.up (by omega), by omega, rfl, ?_⟩
          rw [hn, drop_getD (0, 0) (show i < js.length by omega), needsB]
          simp_all
        · refine oO rfl (k1B rfl rfl ?_)
          refine ops_nil ?_
          refine cT rfl ?_
          refine cR ?_
          refine oO rfl (aC ?_)
          refine ops_nil ?_
          refine cw_ret ?_
          refine blk_ret ?_
          refine seq_ret ?_
          refine loop_ret ?_
          refine blk_ret ?_
          refine seq_ret ?_
          refine ret_end ?_
          refine end_t ?_
          first
            | (refine ⟨congrArg Value.bool ?_, H.drop0.up (by omega)⟩; rw [hn, drop_getD (0, 0) (show i < js.length by omega), needsB]; simp_all; done)
            | (refine ⟨congrArg Value.bool ?_, H.up (by omega)⟩; rw [hn, List.drop_eq_nil_of_le (by omega)]; rfl)
      · refine oO rfl (mB rfl ?_)
        refine oF rfl ?_
        refine oF rfl ?_
        refine oF rfl ?_
        refine oO rfl (op_pick0C rfl ?_)
        refine ops_nil ?_
        refine cE rfl ?_
        refine cw_skip ?_
        refine blk_norm ?_
        refine sN ?_
        refine cG ?_
        refine oO rfl (op_add rfl rfl (by unfold In64; (unfold limit at *; omega)) ?_)
        refine oO rfl (mI rfl ?_)
        refine ops_nil ?_
        refine loop_norm ?_
        refine ⟨js.length - (i + 1), by omega, _, i + 1, slots ⟨rfl, rfl, rfl, rfl, rfl, trivial⟩, H.drop0.up (by omega), by omega, rfl, ?_⟩
        rw [hn, drop_getD (0, 0) (show i < js.length by omega), needsB]
        simp_all
    · refine ops_nil ?_
      refine cw_seq ?_
      refine cE rfl ?_
      refine cw_exit ?_
      refine seq_exit ?_
      refine loop_exit ?_
      refine blk_here ?_
      refine sN ?_
      refine cR ?_
      refine oO rfl (aC ?_)
      refine ops_nil ?_
      refine cw_ret ?_
      refine ret_end ?_
      refine end_t ?_
      first
        | (refine ⟨congrArg Value.bool ?_, H.drop0.up (by omega)⟩; rw [hn, drop_getD (0, 0) (show i < js.length by omega), needsB]; simp_all; done)
        | (refine ⟨congrArg Value.bool ?_, H.up (by omega)⟩; rw [hn, List.drop_eq_nil_of_le (by omega)]; rfl)
  · exact ⟨_, 0, slots ⟨rfl, rfl, rfl, rfl, rfl, trivial⟩, H, by omega, by omega, rfl⟩

end Go.Proofs.YtdejleegamcioaaGreat
