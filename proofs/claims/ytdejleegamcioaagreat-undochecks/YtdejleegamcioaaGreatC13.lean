/- Small functions of the program and of the reference. -/
/- Splits: the tests of the program and of the reference. -/
/- Joins: which sets need work; what arguments are proper. -/
/- Lists of splits; what arguments are proper. -/
/- Which joins splits break: the program and the reference. -/
/- Which joins splits break: the reference. -/
import Derived.Test.YtdejleegamcioaaGreatProg
import Derived.KernelRfl
import Derived.Test.YtdejleegamcioaaGreatC12
namespace Go.Proofs.YtdejleegamcioaaGreat
open Go Go.M
theorem fb10 : yx Tryz.f10 (Tryz.f10.body.getD .skip) 2 = true := by kernel_rfl
theorem xP : elemF Tryz.prog 22 = some (true, 0, 1) := by kernel_rfl
theorem fb30 : yx Tryz.f30 (Tryz.f30.body.getD .skip) 3 = true := by kernel_rfl
theorem fc10 : yp Tryz.prog 10 = true := by kernel_rfl
theorem sh3 : yF Tryz.prog 3 = some (none) := by kernel_rfl
theorem xt : Tryz.prog.underlying 22 = some (.slice 3) := by kernel_rfl
theorem fb26 : yx Tryz.f26 (Tryz.f26.body.getD .skip) 2 = true := by kernel_rfl
def Plain (I : yh) : Prop := ∀ f, f ≠ 12 → f ≠ 17 → I f = none
def xr (a n : Int) : Int := (if a < 0 then -(a + 1) else a).tmod n
def atZ (l : List Int) (i n : Int) : Int := if i < 0 ∨ (l.length : Int) ≤ i then 0 else xr (l.getD i.toNat 0) n
def yq (l : List Int) : List Value := l.map (Value.int .i64)
theorem lget_ints {l : List Int} {k : Nat} (h : k < l.length) : yM (yq l) k = some (.int .i64 (l.getD k 0)) := by
 rw [yX]; simp [yq, List.getElem?_map, List.getD_eq_getElem?_getD, List.getElem?_eq_getElem h]
inductive SlI (s : St) (v : Value) (l : List Int) : Prop
 | nil (c : Nat) (hv : v = .slice none 0 c) (hl : l = []) : SlI s v l
 | block (b off cap : Nat) (c : List Value) (e : TypeId) (hv : v = .slice (some ⟨b, off, none⟩) l.length cap) (hg : s.get b = some (.cells c e)) (hb : b < s.next) (hc : ∀ k, k < l.length → yM c (off + k) = some (.int .i64 (l.getD k 0))) : SlI s v l
set_option maxHeartbeats 4000000 in
set_option maxRecDepth 10000 in
theorem qV {I : yh} (hI : Plain I) {s : St} {a n : Int} (ha : zV a) (hn : n ≠ 0) : ∃ v s', yJ Tryz.prog I 10 #[.int .i64 a, .int .i64 n] s v s' ∧ (v = .int .i64 (xr a n) ∧ s' = s) := by
 obtain ⟨ha1, ha2⟩ := ha
 refine yf 2 (hI 10 (by decide) (by decide)) Tryz.func10 rfl fb10 rfl ?_
 refine zf (za rfl (zh (zb (zy (zf (za rfl (ze rfl (za rfl (ye rfl rfl (fun h => ?_) (fun h => ?_))))))))))
 ·refine zb (zq rfl (zC (za rfl (ze rfl (za rfl (zW rfl rfl (by unfold zV; omega) (za rfl (op_neg rfl (za rfl (zl rfl (zb (zj (zf (za rfl (ze rfl (za rfl (ze rfl ?_)))))))))))))))))
  refine za rfl (op_rem rfl rfl (by omega) (za rfl (zl rfl (zb (zr (zm (zN (⟨congrArg (Value.int .i64) ?_, rfl⟩))))))))
  unfold xr
  (rw [if_pos h, wrap_in ⟨by omega, by omega⟩]; congr 1; omega)
 refine zb (zw rfl (zD (zj (zf (za rfl (ze rfl (za rfl (ze rfl (za rfl (op_rem rfl rfl (by omega) (za rfl (zl rfl (zb (zr (zm ?_)))))))))))))))
 refine zN (⟨congrArg (Value.int .i64) ?_, rfl⟩)
 unfold xr
 rw [if_neg h]
set_option maxHeartbeats 4000000 in
set_option maxRecDepth 10000 in
theorem at_ok {I : yh} (hI : Plain I) {s : St} {v : Value} {l : List Int} {i n : Int} (hl : SlI s v l) (hin : ∀ x ∈ l, zV x) (hn : n ≠ 0) : ∃ v' s', yJ Tryz.prog I 30 #[v, .int .i64 i, .int .i64 n] s v' s' ∧ (v' = .int .i64 (atZ l i n) ∧ s' = s) := by
 obtain ⟨a, len, cap, rfl, hlen⟩ : ∃ a len cap, v = .slice a len cap ∧ len = l.length := by
  cases hl with
  | nil c hv hl => exact ⟨_, _, _, hv, by rw [hl]; rfl⟩
  | block b off cap c e hv => exact ⟨_, _, _, hv, rfl⟩
 refine yf 3 (hI 30 (by decide) (by decide)) Tryz.func30 rfl fb30 rfl ?_
 refine zf (za rfl (zh (zb (zy (zf (za rfl (ze rfl (za rfl (ye rfl rfl (fun h => ?_) (fun h => ?_))))))))))
 ·refine za rfl (zi rfl (zc rfl (zc rfl (zc rfl (zc rfl (za rfl (zB rfl (zb (zq rfl (zf (za rfl (zh (zb (zr ?_))))))))))))))
  refine zo (zm (zN (⟨congrArg (Value.int .i64) ?_, rfl⟩)))
  unfold atZ
  rw [if_pos (by omega)]
 refine za rfl (zi rfl (za rfl (ze rfl (za rfl (zk rfl (za rfl (zZ xt rfl rfl rfl (za rfl (qN rfl rfl (fun h => ?_) (fun h => ?_))))))))))
 ·refine za rfl (zv rfl rfl (zb (zq rfl (zf (za rfl (zh (zb (zr (zo (zm (zN (⟨congrArg (Value.int .i64) ?_, rfl⟩))))))))))))
  unfold atZ
  rw [if_pos (by omega)]
 refine za rfl (zv rfl rfl (zb (zw rfl (zD (zj (zf (za rfl (zk rfl (za rfl (ze rfl ?_))))))))))
 cases hl with
 | nil c hv hl2 => simp only [hl2, List.length_nil] at hlen; omega
 | block b off cap2 c e hv hg hb hc =>
 cases hv
 refine za rfl (zA xP rfl rfl (by omega) (by omega) (za rfl (zn sh3 rfl hg (by rw [Nat.mul_one]; exact hc _ (by omega)) (za rfl (ze rfl (za rfl (zx rfl fc10 rfl ?_)))))))
 obtain ⟨_, _, hr, rfl, rfl⟩ := qV (n := n) hI (hin (l.getD i.toNat 0) (by rw [List.getD_eq_getElem?_getD, List.getElem?_eq_getElem (by omega)]; simp)) hn
 refine ⟨_, _, hr, ?_⟩
 clear hr
 refine za rfl (zl rfl (zb (zr (zm (zN (⟨congrArg (Value.int .i64) ?_, rfl⟩))))))
 unfold atZ
 rw [if_neg (by omega)]
set_option maxHeartbeats 4000000 in
set_option maxRecDepth 10000 in
theorem has_ok {I : yh} (hI : Plain I) {s : St} {x k : Int} : ∃ v s', yJ Tryz.prog I 26 #[.int .i64 x, .int .i64 k] s v s' ∧ (v = .bool (decide (0 ≤ k) && decide (k ≤ 15) && bit x k.toNat) ∧ s' = s) := by
 refine yf 2 (hI 26 (by decide) (by decide)) Tryz.func26 rfl fb26 rfl ?_
 refine zf (za rfl (zh (zb (zy (zf (za rfl (ze rfl (za rfl (ye rfl rfl (fun h => ?_) (fun h => ?_))))))))))
 ·refine za rfl (zi rfl (zc rfl (zc rfl (za rfl (zB rfl (zb (zq rfl (zf (za rfl (zh (zb (zr (zo (zm ?_))))))))))))))
  refine zN (⟨congrArg Value.bool ?_, rfl⟩)
  (simp; omega)
 refine za rfl (zi rfl (za rfl (ze rfl (za rfl (yy rfl rfl (fun h => ?_) (fun h => ?_))))))
 ·refine za rfl (zv rfl rfl (zb (zq rfl (zf (za rfl (zh (zb (zr (zo (zm (zN (⟨congrArg Value.bool ?_, rfl⟩))))))))))))
  (simp; omega)
 refine za rfl (zv rfl rfl (zb (zw rfl (zD (zj (zf ?_))))))
 obtain ⟨m, rfl⟩ := Int.eq_ofNat_of_zero_le (show 0 ≤ k by omega)
 refine za rfl (ze rfl (za rfl (ze rfl (za rfl (op_shr rfl rfl (by omega) (za rfl (op_and rfl rfl (za rfl (op_eql' rfl rfl (za rfl (zt rfl (zb (zr (zm (zN (⟨congrArg Value.bool ?_, rfl⟩))))))))))))))))
 (rw [shr_bit (by omega)]; simp only [Int.toNat_natCast]; cases hb : bit x m <;> simp <;> omega)
end Go.Proofs.YtdejleegamcioaaGreat
namespace Go.Proofs.YtdejleegamcioaaGreat
open Go Go.M
theorem fb83 : yx Tryz.f83 (Tryz.f83.body.getD .skip) 1 = true := by kernel_rfl
theorem fb39 : yx Tryz.f39 (Tryz.f39.body.getD .skip) 1 = true := by kernel_rfl
theorem fc83 : yp Tryz.prog 83 = true := by kernel_rfl
theorem xi : offF Tryz.prog 62 0 = some 0 := by kernel_rfl
theorem y8 : offF Tryz.prog 62 1 = some 1 := by kernel_rfl
theorem ys : yF Tryz.prog 23 = some (none) := by kernel_rfl
theorem fb86 : yx Tryz.f86 (Tryz.f86.body.getD .skip) 1 = true := by kernel_rfl
theorem fb85 : yx Tryz.f85 (Tryz.f85.body.getD .skip) 1 = true := by kernel_rfl
theorem fc86 : yp Tryz.prog 86 = true := by kernel_rfl
theorem sh62 : yF Tryz.prog 62 = some (some 10) := by kernel_rfl
theorem el30 : elemF Tryz.prog 30 = some (false, 2, 1) := by kernel_rfl
theorem fb59 : yx Tryz.f59 (Tryz.f59.body.getD .skip) 2 = true := by kernel_rfl
structure Slc where
 a : Option Addr
 n : Nat
 c : Nat
def Slc.v (x : Slc) : Value := .slice x.a x.n x.c
structure Sp where
 w : Int
 p : Int
 n1 : Bool
 s1 : Slc
 n2 : Bool
 s2 : Slc
 n3 : Bool
 s3 : Slc
 n4 : Bool
 s4 : Slc
def Sp.cells (x : Sp) : List Value := [.int .i64 x.w, .int .i64 x.p, .bool x.n1, x.s1.v, .bool x.n2, x.s2.v, .bool x.n3, x.s3.v, .bool x.n4, x.s4.v]
def jc (j : Int × Int) : List Value := [.int .i64 j.1, .int .i64 j.2]
def qi (w p : Int) : Bool := decide (1 ≤ w) && decide (w ≤ 65535) && (decide (1 ≤ p) && decide (p ≤ 65535)) && decide (andI p w = p) && decide (p ≠ w)
def y1 (w p : Int) : Bool := decide (0 < w) && decide (w < 65536) && decide (0 < p) && decide (zJ p w = 0) && decide (p ≠ w)
inductive Sl (s : St) (e : TypeId) (sz : Nat) (v : Value) (es : List (List Value)) : Prop
 | nil (c : Nat) (hv : v = .slice none 0 c) (hl : es = []) : Sl s e sz v es
 | block (b off cap : Nat) (c : List Value) (hv : v = .slice (some ⟨b, off, none⟩) es.length cap) (hg : s.get b = some (.cells c e)) (hb : b < s.next) (hcap : es.length ≤ cap / 2) (hc : ∀ k, k < es.length → xB sz (xV (off + k * sz) c) = some (es.getD k [])) : Sl s e sz v es
theorem Sl.isSlice {s : St} {e : TypeId} {sz : Nat} {v : Value} {es : List (List Value)} (h : Sl s e sz v es) : ∃ a len cap, v = .slice a len cap ∧ len = es.length := by
 cases h with
 | nil c hv hl => exact ⟨_, _, _, hv, by rw [hl]; rfl⟩
 | block b off cap c hv => exact ⟨_, _, _, hv, rfl⟩
theorem Sl.kept {s s' : St} {e : TypeId} {sz : Nat} {v : Value} {es : List (List Value)} {L : Hp'} {n : Nat} (h : Sl s e sz v es) (H : HL [] s s' L n) : Sl s' e sz v es := by
 cases h with
 | nil c hv hl => exact .nil c hv hl
 | block b off cap c hv hg hb hcap hc => exact .block b off cap c hv (H.old hb hg) (by have := H.le; omega) hcap hc
theorem Sl.cap {s : St} {e : TypeId} {sz : Nat} {a : Option Addr} {len cap : Nat} {es : List (List Value)} (h : Sl s e sz (.slice a len cap) es) : len ≤ cap / 2 := by
 cases h with
 | nil c hv hl => cases hv; omega
 | block b off cap c hv hg hb hcap hc => cases hv; exact hcap
theorem Sl.at {s : St} {e : TypeId} {sz : Nat} {a : Option Addr} {len cap : Nat} {es : List (List Value)} (h : Sl s e sz (.slice a len cap) es) {i : Int} {k : Nat} (hi : i = (k : Int)) (hk : k < es.length) : ∃ b off c, a = some ⟨b, off, none⟩ ∧ s.get b = some (.cells c e) ∧ b < s.next ∧ xB sz (xV (off + i.toNat * sz) c) = some (es.getD k []) := by
 subst hi
 cases h with
 | nil c hv hl => rw [hl] at hk; simp at hk
 | block b off cap c hv hg hb hcap hc =>
  cases hv
  exact ⟨b, off, c, rfl, hg, hb, by simpa using hc k hk⟩
theorem getD_map {α β : Type} {f : α → β} {l : List α} {k : Nat} {x : β} {y : α} (h : k < l.length) : (l.map f).getD k x = f (l.getD k y) := by
 simp [List.getD_eq_getElem?_getD, List.getElem?_map, List.getElem?_eq_getElem h]
theorem zP {α : Type} {l : List α} {k : Nat} {y : α} (h : k < l.length) : l.getD k y ∈ l := by
 simp [List.getD_eq_getElem?_getD, List.getElem?_eq_getElem h]
theorem yw {α : Type} {l : List α} {k : Nat} (y : α) (h : k < l.length) : l.drop k = l.getD k y :: l.drop (k + 1) := by
 rw [List.drop_eq_getElem_cons h]; simp [List.getD_eq_getElem?_getD, List.getElem?_eq_getElem h]
theorem Sl.atJ {s : St} {a : Option Addr} {len cap : Nat} {js : List (Int × Int)} (h : Sl s 30 2 (.slice a len cap) (js.map jc)) {i : Int} {k : Nat} (hi : i = (k : Int)) (hk : k < js.length) : ∃ b off c, a = some ⟨b, off, none⟩ ∧ s.get b = some (.cells c 30) ∧ b < s.next ∧ xB 2 (xV (off + i.toNat * 2) c) = some (jc (js.getD k (0, 0))) := by
 obtain ⟨b, off, c, h1, h2, h3, h4⟩ := h.at hi (k := k) (by simpa using hk)
 exact ⟨b, off, c, h1, h2, h3, by rw [h4, getD_map hk]⟩
instance : Inhabited Slc := ⟨⟨none, 0, 0⟩⟩
instance : Inhabited Sp := ⟨⟨0, 0, false, default, false, default, false, default, false, default⟩⟩
theorem Sl.atS {s : St} {a : Option Addr} {len cap : Nat} {l : List Sp} (h : Sl s 62 10 (.slice a len cap) (l.map Sp.cells)) {i : Int} {k : Nat} (hi : i = (k : Int)) (hk : k < l.length) : ∃ b off c, a = some ⟨b, off, none⟩ ∧ s.get b = some (.cells c 62) ∧ b < s.next ∧ xB 10 (xV (off + i.toNat * 10) c) = some (l.getD k default).cells := by
 obtain ⟨b, off, c, h1, h2, h3, h4⟩ := h.at hi (k := k) (by simpa using hk)
 exact ⟨b, off, c, h1, h2, h3, by rw [h4, getD_map hk]⟩
theorem Sl.gotS {s : St} {b off len cap : Nat} {l : List Sp} (h : Sl s 62 10 (.slice (some ⟨b, off, none⟩) len cap) (l.map Sp.cells)) {k : Nat} (hk : k < l.length) : ∃ c, s.get b = some (.cells c 62) ∧ yM c (off + ((k : Int)).toNat * 10 + 0) = some (.int .i64 (l.getD k default).w) ∧ yM c (off + ((k : Int)).toNat * 10 + 1) = some (.int .i64 (l.getD k default).p) := by
 obtain ⟨b', off', c, h1, h2, h3, h4⟩ := h.atS (i := (k : Int)) rfl hk
 cases h1
 refine ⟨c, h2, ?_⟩
 rw [qn, qF] at h4
 split at h4
 ·next hle =>
  rw [Option.some.injEq] at h4
  rw [List.length_drop] at hle
  have e : ∀ j, j < 10 → yM c (off + ((k : Int)).toNat * 10 + j) = (l.getD k default).cells[j]? := by
   intro j hj
   rw [yX, ← h4, List.getElem?_take, if_pos hj, List.getElem?_drop]
  exact ⟨e 0 (by omega), e 1 (by omega)⟩
 ·cases h4
set_option maxHeartbeats 4000000 in
set_option maxRecDepth 10000 in
theorem isSet_ok {I : yh} (hI : Plain I) {s : St} {x : Int} : ∃ v s', yJ Tryz.prog I 83 #[.int .i64 x] s v s' ∧ (v = .bool (decide (1 ≤ x) && decide (x ≤ 65535)) ∧ s' = s) := by
 refine yf 1 (hI 83 (by decide) (by decide)) Tryz.func83 rfl fb83 rfl ?_
 refine zf (za rfl (zh (zb (zf (za rfl (ze rfl (za rfl (qN rfl rfl (fun h => ?_) (fun h => ?_)))))))))
 ·refine za rfl (zi rfl (za rfl (ze rfl (za rfl (op_leq rfl rfl (fun h => ?_) (fun h => ?_))))))
  ·refine za rfl (zM rfl rfl (za rfl (zt rfl (zb (zr (zm (zN (⟨congrArg Value.bool ?_, rfl⟩))))))))
   simp <;> omega
  refine za rfl (zM rfl rfl (za rfl (zt rfl (zb (zr (zm (zN (⟨congrArg Value.bool ?_, rfl⟩))))))))
  simp <;> omega
 refine za rfl (zi rfl (zc rfl (zc rfl (za rfl (z6 rfl (za rfl (zt rfl (zb (zr (zm (zN (⟨congrArg Value.bool ?_, rfl⟩))))))))))))
 simp <;> omega
set_option maxHeartbeats 4000000 in
set_option maxRecDepth 10000 in
theorem valid_ok {I : yh} (hI : Plain I) {s : St} (hf : Fine s) (hroom : s.next + 1 ≤ zp) {x : Sp} : ∃ v s', yJ Tryz.prog I 39 #[.agg ⟨x.cells⟩] s v s' ∧ (v = .bool (qi x.w x.p) ∧ HL [] s s' [] 1) := by
 have H := hf.hl
 refine yf 1 (hI 39 (by decide) (by decide)) Tryz.func39 rfl fb39 rfl ?_
 refine zf (za rfl (yI H rfl (by omega) (fun b1 s1 H => ?_)))
 refine za rfl (zh (zb (zf (za rfl (zg xi rfl (za rfl (zn ys rfl H.own0 rfl (za rfl (zx rfl fc83 rfl ?_)))))))))
 obtain ⟨_, _, hr, rfl, rfl⟩ := isSet_ok (s := _) (x := x.w) hI
 refine ⟨_, _, hr, ?_⟩
 clear hr
 cases hb : (decide (1 ≤ x.w) && decide (x.w ≤ 65535))
 ·refine za rfl (zi rfl (zc rfl (zc rfl (zc rfl (za rfl (z6 rfl (za rfl (zi rfl (zc rfl (zc rfl (zc rfl (zc rfl (zc rfl (zc rfl ?_))))))))))))))
  refine zc rfl (zc rfl (za rfl (z6 rfl (za rfl (zi rfl (zc rfl (zc rfl (zc rfl (zc rfl (zc rfl (za rfl (z6 rfl (za rfl (zt rfl (zb ?_)))))))))))))))
  refine zr (zm (zN (⟨congrArg Value.bool ?_, H.drop0⟩)))
  unfold qi
  (simp_all <;> intros <;> omega)
 refine za rfl (zi rfl (za rfl (zg y8 rfl (za rfl (zn ys rfl H.own0 rfl (za rfl (zx rfl fc83 rfl ?_)))))))
 obtain ⟨_, _, hr, rfl, rfl⟩ := isSet_ok (s := _) (x := x.p) hI
 refine ⟨_, _, hr, ?_⟩
 clear hr
 cases hb : (decide (1 ≤ x.p) && decide (x.p ≤ 65535))
 ·refine za rfl (zM rfl rfl (za rfl (zi rfl (zc rfl (zc rfl (zc rfl (zc rfl (zc rfl (zc rfl (zc rfl (zc rfl (za rfl (z6 rfl (za rfl (zi rfl ?_)))))))))))))))
  refine zc rfl (zc rfl (zc rfl (zc rfl (zc rfl (za rfl (z6 rfl (za rfl (zt rfl (zb (zr (zm (zN (⟨congrArg Value.bool ?_, H.drop0⟩)))))))))))))
  unfold qi
  (simp_all <;> intros <;> omega)
 refine za rfl (zM rfl rfl (za rfl (zi rfl (za rfl (zg y8 rfl (za rfl (zn ys rfl H.own0 rfl (za rfl (zg xi rfl (za rfl (zn ys rfl H.own0 rfl (za rfl (op_and rfl rfl (za rfl (zg y8 rfl (za rfl (zn ys rfl H.own0 rfl (za rfl (yD rfl rfl (fun h => ?_) (fun h => ?_))))))))))))))))))))
 ·refine za rfl (zM rfl rfl (za rfl (zi rfl (za rfl (zg y8 rfl (za rfl (zn ys rfl H.own0 rfl (za rfl (zg xi rfl (za rfl (zn ys rfl H.own0 rfl (za rfl (yG rfl rfl (fun h => ?_) (fun h => ?_))))))))))))))
  ·refine za rfl (zM rfl rfl (za rfl (zt rfl (zb (zr (zm (zN (⟨congrArg Value.bool ?_, H.drop0⟩))))))))
   unfold qi
   (simp_all <;> intros <;> omega)
  refine za rfl (zM rfl rfl (za rfl (zt rfl (zb (zr (zm (zN (⟨congrArg Value.bool ?_, H.drop0⟩))))))))
  unfold qi
  (simp_all <;> intros <;> omega)
 refine za rfl (zM rfl rfl (za rfl (zi rfl (zc rfl (zc rfl (zc rfl (zc rfl (zc rfl (za rfl (z6 rfl (za rfl (zt rfl (zb (zr (zm ?_)))))))))))))))
 refine zN (⟨congrArg Value.bool ?_, H.drop0⟩)
 unfold qi
 (simp_all <;> intros <;> omega)
set_option maxHeartbeats 4000000 in
set_option maxRecDepth 10000 in
theorem splits_ok {I : yh} (hI : Plain I) {s : St} (hf : Fine s) (hroom : s.next + 1 ≤ zp) {x : Sp} : ∃ v s', yJ Tryz.prog I 86 #[.agg ⟨x.cells⟩] s v s' ∧ (v = .bool (y1 x.w x.p) ∧ HL [] s s' [] 1) := by
 have H := hf.hl
 refine yf 1 (hI 86 (by decide) (by decide)) Tryz.func86 rfl fb86 rfl ?_
 refine zf (za rfl (yI H rfl (by omega) (fun b1 s1 H => ?_)))
 refine za rfl (zh (zb (zf (za rfl (zg xi rfl (za rfl (zn ys rfl H.own0 rfl (za rfl (yy rfl rfl (fun h => ?_) (fun h => ?_))))))))))
 ·refine za rfl (zi rfl (za rfl (zg xi rfl (za rfl (zn ys rfl H.own0 rfl (za rfl (ye rfl rfl (fun h => ?_) (fun h => ?_))))))))
  ·refine za rfl (zM rfl rfl (za rfl (zi rfl (za rfl (zg y8 rfl (za rfl (zn ys rfl H.own0 rfl (za rfl (yy rfl rfl (fun h => ?_) (fun h => ?_))))))))))
   ·refine za rfl (zM rfl rfl (za rfl (zi rfl (za rfl (zg y8 rfl (za rfl (zn ys rfl H.own0 rfl (za rfl (zg xi rfl (za rfl (zn ys rfl H.own0 rfl (za rfl (qS rfl rfl (za rfl (yD rfl rfl (fun h => ?_) (fun h => ?_))))))))))))))))
    ·refine za rfl (zM rfl rfl (za rfl (zi rfl (za rfl (zg y8 rfl (za rfl (zn ys rfl H.own0 rfl (za rfl (zg xi rfl (za rfl (zn ys rfl H.own0 rfl (za rfl (yG rfl rfl (fun h => ?_) (fun h => ?_))))))))))))))
     ·refine za rfl (zM rfl rfl (za rfl (zt rfl (zb (zr (zm (zN (⟨congrArg Value.bool ?_, H.drop0⟩))))))))
      unfold y1
      (simp_all <;> intros <;> omega)
     refine za rfl (zM rfl rfl (za rfl (zt rfl (zb (zr (zm (zN (⟨congrArg Value.bool ?_, H.drop0⟩))))))))
     unfold y1
     (simp_all <;> intros <;> omega)
    refine za rfl (zM rfl rfl (za rfl (zi rfl (zc rfl (zc rfl (zc rfl (zc rfl (zc rfl (za rfl (z6 rfl (za rfl (zt rfl (zb (zr (zm ?_)))))))))))))))
    refine zN (⟨congrArg Value.bool ?_, H.drop0⟩)
    unfold y1
    (simp_all <;> intros <;> omega)
   refine za rfl (zM rfl rfl (za rfl (zi rfl (zc rfl (zc rfl (zc rfl (zc rfl (zc rfl (zc rfl (za rfl (z6 rfl (za rfl (zi rfl (zc rfl (zc rfl ?_)))))))))))))))
   refine zc rfl (zc rfl (zc rfl (za rfl (z6 rfl (za rfl (zt rfl (zb (zr (zm (zN (⟨congrArg Value.bool ?_, H.drop0⟩)))))))))))
   unfold y1
   (simp_all <;> intros <;> omega)
  refine za rfl (zM rfl rfl (za rfl (zi rfl (zc rfl (zc rfl (zc rfl (za rfl (z6 rfl (za rfl (zi rfl (zc rfl (zc rfl (zc rfl (zc rfl (zc rfl ?_)))))))))))))))
  refine zc rfl (za rfl (z6 rfl (za rfl (zi rfl (zc rfl (zc rfl (zc rfl (zc rfl (zc rfl (za rfl (z6 rfl (za rfl (zt rfl (zb (zr ?_)))))))))))))))
  refine zm (zN (⟨congrArg Value.bool ?_, H.drop0⟩))
  unfold y1
  (simp_all <;> intros <;> omega)
 refine za rfl (zi rfl (zc rfl (zc rfl (zc rfl (za rfl (z6 rfl (za rfl (zi rfl (zc rfl (zc rfl (zc rfl (za rfl (z6 rfl (za rfl (zi rfl (zc rfl ?_))))))))))))))))
 refine zc rfl (zc rfl (zc rfl (zc rfl (zc rfl (za rfl (z6 rfl (za rfl (zi rfl (zc rfl (zc rfl (zc rfl (zc rfl (zc rfl ?_)))))))))))))
 refine za rfl (z6 rfl (za rfl (zt rfl (zb (zr (zm (zN (⟨congrArg Value.bool ?_, H.drop0⟩))))))))
 unfold y1
 (simp_all <;> intros <;> omega)
set_option maxHeartbeats 4000000 in
set_option maxRecDepth 10000 in
theorem noSplit_ok {I : yh} (hI : Plain I) {s : St} (hf : Fine s) (hroom : s.next + 2 ≤ zp) {x : Sp} : ∃ v s', yJ Tryz.prog I 85 #[.agg ⟨x.cells⟩] s v s' ∧ (v = .bool (!y1 x.w x.p) ∧ HL [] s s' [] 2) := by
 have H := hf.hl
 refine yf 1 (hI 85 (by decide) (by decide)) Tryz.func85 rfl fb85 rfl ?_
 refine zf (za rfl (yI H rfl (by omega) (fun b1 s1 H => ?_)))
 refine za rfl (zh (zb (zf (za rfl (z7 sh62 rfl H.own0 rfl (za rfl (zx rfl fc86 rfl ?_)))))))
 obtain ⟨_, s9, hr, rfl, Hc⟩ := splits_ok (x := x) hI H.fine (by have := H.most; omega)
 refine ⟨_, _, hr, ?_⟩
 clear hr
 have H := H.call0 Hc
 clear Hc
 refine za rfl (yz rfl (za rfl (zt rfl (zb (zr (zm (zN ?_)))))))
 exact ⟨rfl, H.drop0⟩
set_option maxHeartbeats 4000000 in
set_option maxRecDepth 10000 in
theorem both_ok {I : yh} (hI : Plain I) {s : St} (hf : Fine s) (hroom : s.next + 1 ≤ zp) {x : Int} {j : Int × Int} (h1 : 0 ≤ j.1 ∧ j.1 ≤ 64) (h2 : 0 ≤ j.2 ∧ j.2 ≤ 64) : ∃ v s', yJ Tryz.prog I 59 #[.int .i64 x, .agg ⟨jc j⟩] s v s' ∧ (v = .bool (bit x j.1.toNat && bit x j.2.toNat) ∧ HL [] s s' [] 1) := by
 have H := hf.hl
 refine yf 2 (hI 59 (by decide) (by decide)) Tryz.func59 rfl fb59 rfl ?_
 refine zf (za rfl (yI H rfl (by omega) (fun b3 s1 H => ?_)))
 refine za rfl (zh (zb (zf (za rfl (ze rfl (za rfl (xb el30 rfl rfl (by omega) (by omega) (za rfl (zn sh3 rfl H.own0 rfl (za rfl (op_shr rfl rfl h1.1 (za rfl (op_and rfl rfl (za rfl (op_eqlBit rfl rfl h1.1 h1.2 (fun h => ?_) (fun h => ?_))))))))))))))))
 ·refine za rfl (zi rfl (za rfl (ze rfl (za rfl (xb el30 rfl rfl (by omega) (by omega) (za rfl (zn sh3 rfl H.own0 rfl (za rfl (op_shr rfl rfl h2.1 (za rfl (op_and rfl rfl (za rfl (op_eqlBit rfl rfl h2.1 h2.2 (fun h => ?_) (fun h => ?_))))))))))))))
  ·refine za rfl (zM rfl rfl (za rfl (zt rfl (zb (zr (zm (zN (⟨congrArg Value.bool ?_, H.drop0⟩))))))))
   simp_all
  refine za rfl (zM rfl rfl (za rfl (zt rfl (zb (zr (zm (zN (⟨congrArg Value.bool ?_, H.drop0⟩))))))))
  simp_all
 refine za rfl (zi rfl (zc rfl (zc rfl (zc rfl (zc rfl (zc rfl (zc rfl (za rfl (z6 rfl (za rfl (zt rfl (zb (zr (zm ?_))))))))))))))
 refine zN (⟨congrArg Value.bool ?_, H.drop0⟩)
 simp_all
end Go.Proofs.YtdejleegamcioaaGreat
namespace Go.Proofs.YtdejleegamcioaaGreat
open Go Go.M
theorem el24 : elemF Tryz.prog 24 = some (true, 0, 2) := by kernel_rfl
theorem fb42 : yx Tryz.f42 (Tryz.f42.body.getD .skip) 3 = true := by kernel_rfl
theorem fc59 : yp Tryz.prog 59 = true := by kernel_rfl
theorem sh30 : yF Tryz.prog 30 = some (some 2) := by kernel_rfl
theorem sz30 : xD Tryz.prog 30 = some 2 := by kernel_rfl
theorem un24 : Tryz.prog.underlying 24 = some (.slice 30) := by kernel_rfl
theorem zf30 : zeroF Tryz.prog 30 = some [.int .i64 0, .int .i64 0] := by kernel_rfl
def yj (x bad : Int) : Nat → List (Int × Int) → Bool
 | _, [] => false
 | i, j :: r => (bit bad i && (bit x j.1.toNat && bit x j.2.toNat)) || yj x bad (i + 1) r
def kf (j : Int × Int) : Prop := (0 ≤ j.1 ∧ j.1 ≤ 15) ∧ (0 ≤ j.2 ∧ j.2 ≤ 15)
set_option maxHeartbeats 4000000 in
set_option maxRecDepth 10000 in
theorem needs_ok {I : yh} (hI : Plain I) {s : St} (hf : Fine s) {x bad : Int} {v : Value} {js : List (Int × Int)} (hl : Sl s 30 2 v (js.map jc)) (hj : ∀ j ∈ js, kf j) (hlen : js.length ≤ 16) (hroom : s.next + 40 ≤ zp) :
  ∃ v' s', yJ Tryz.prog I 42 #[.int .i64 x, v, .int .i64 bad] s v' s' ∧ (v' = .bool (yj x bad 0 js) ∧ HL [] s s' [] 40) := by
 have H := hf.hl
 obtain ⟨a, len, cap, rfl, hn⟩ := hl.isSlice
 rw [List.length_map] at hn
 subst hn
 refine yf 3 (hI 42 (by decide) (by decide)) Tryz.func42 rfl fb42 rfl ?_
 refine zf (za rfl (zh (zb (zy (zf (za rfl (zk rfl (za rfl (zZ un24 rfl rfl rfl (za rfl (ql (zb (zH (yu (fun k F s1 => ∃ (G : FF) (i : Nat), F = lay G [(0, .int .i64 x), (2, .int .i64 bad), (9, .slice a js.length cap), (10, .int .i64 (js.length : Int)), (11, .int .i64 (i : Int))] ∧ HL [] s s1 [] (2 * i) ∧ i ≤ js.length ∧ k = js.length - i ∧ yj x bad 0 js = yj x bad i (js.drop i)) ?_ js.length _ _ ?_))))))))))))))
 rotate_left
 ·exact ⟨_, 0, yb ⟨rfl, rfl, rfl, rfl, rfl, trivial⟩, H, by omega, by omega, rfl⟩
 rintro k F s1 ⟨G, i, rfl, H, hi, rfl, hn⟩
 refine zf (za rfl (ye rfl rfl (fun h => ?_) (fun h => ?_)))
 ·refine zb (zy (zq rfl (zD (zj (zy (zH (zf (za rfl (ze rfl ?_)))))))))
  have hjm : kf (js.getD i (0, 0)) := hj _ (zP (by omega))
  obtain ⟨b, off, c, rfl, hg, hb, hc⟩ := (hl.kept H).atJ rfl (show i < js.length by omega)
  refine za rfl (zA el24 rfl rfl (by unfold zp at *; omega) (by unfold zp at *; omega) (za rfl (z7 sh30 rfl hg hc (za rfl (yi H zf30 (by unfold zp at *; omega) (fun b8 s1 H => ?_))))))
  refine za rfl (zl rfl (za rfl (yg (vs := [.int _ _, .int _ _]) H sz30 rfl rfl rfl rfl rfl (by unfold zp at *; omega) (fun s2 H => ?_))))
  refine zb (zf (za rfl (ze rfl (za rfl (ze rfl (za rfl (op_shr rfl rfl (by unfold zp at *; omega) (za rfl (op_and rfl rfl (za rfl (op_eqlBit rfl rfl (by omega) (by omega) (fun h => ?_) (fun h => ?_))))))))))))
  ·refine za rfl (zi rfl (za rfl (ze rfl (za rfl (z7 sh30 rfl H.own0 rfl (za rfl (zx rfl fc59 rfl ?_)))))))
   obtain ⟨_, s9, hr, rfl, Hc⟩ := both_ok (x := x) (j := js.getD i (0, 0)) hI H.fine (by have := H.most; unfold zp at *; omega) ⟨hjm.1.1, by have := hjm.1.2; omega⟩ ⟨hjm.2.1, by have := hjm.2.2; omega⟩
   refine ⟨_, _, hr, ?_⟩
   clear hr
   have H := H.call0 Hc
   clear Hc
   cases hb2 : (bit x (js.getD i (0, 0)).1.toNat && bit x (js.getD i (0, 0)).2.toNat)
   ·refine za rfl (zM rfl rfl (zb (zw rfl (zD (zK (zj (zC (za rfl (zW rfl rfl (by unfold zV; (unfold zp at *; omega)) (za rfl (ze rfl (zb (zI (⟨js.length - (i + 1), by omega, _, i + 1, yb ⟨rfl, rfl, rfl, rfl, rfl, trivial⟩, H.drop0.up (by omega), by omega, rfl, ?_⟩))))))))))))))
    rw [hn, yw (0, 0) (show i < js.length by omega), yj]
    simp_all
   refine za rfl (zM rfl rfl (zb (zq rfl (zf (za rfl (zh (zb (zr (zu (zo (zL (zu (zo ?_)))))))))))))
   refine zm (zN ?_)
   first
    | (refine ⟨congrArg Value.bool ?_, H.drop0.up (by omega)⟩; rw [hn, yw (0, 0) (show i < js.length by omega), yj]; simp_all; done)
    | (refine ⟨congrArg Value.bool ?_, H.up (by omega)⟩; rw [hn, List.drop_eq_nil_of_le (by omega)]; rfl)
  refine za rfl (zi rfl (zc rfl (zc rfl (zc rfl (za rfl (z6 rfl (zb (zw rfl (zD (zK (zj (zC (za rfl (zW rfl rfl (by unfold zV; (unfold zp at *; omega)) ?_))))))))))))))
  refine za rfl (ze rfl (zb (zI (⟨js.length - (i + 1), by omega, _, i + 1, yb ⟨rfl, rfl, rfl, rfl, rfl, trivial⟩, H.drop0.up (by omega), by omega, rfl, ?_⟩))))
  rw [hn, yw (0, 0) (show i < js.length by omega), yj]
  simp_all
 refine zb (zy (zw rfl (yc (zQ (ya (zY (zj (zf (za rfl (zh (zb (zr ?_))))))))))))
 refine zm (zN ?_)
 first
  | (refine ⟨congrArg Value.bool ?_, H.drop0.up (by omega)⟩; rw [hn, yw (0, 0) (show i < js.length by omega), yj]; simp_all; done)
  | (refine ⟨congrArg Value.bool ?_, H.up (by omega)⟩; rw [hn, List.drop_eq_nil_of_le (by omega)]; rfl)
end Go.Proofs.YtdejleegamcioaaGreat
namespace Go.Proofs.YtdejleegamcioaaGreat
open Go Go.M
theorem x9 : elemF Tryz.prog 25 = some (true, 0, 10) := by kernel_rfl
theorem fb139 : yx Tryz.f139 (Tryz.f139.body.getD .skip) 2 = true := by kernel_rfl
theorem xM : Tryz.prog.underlying 25 = some (.slice 62) := by kernel_rfl
theorem fb84 : yx Tryz.f84 (Tryz.f84.body.getD .skip) 2 = true := by kernel_rfl
theorem fc139 : yp Tryz.prog 139 = true := by kernel_rfl
theorem fc85 : yp Tryz.prog 85 = true := by kernel_rfl
theorem fb40 : yx Tryz.f40 (Tryz.f40.body.getD .skip) 4 = true := by kernel_rfl
theorem fc84 : yp Tryz.prog 84 = true := by kernel_rfl
def findI (p : Sp → Bool) : Nat → List Sp → Int
 | _, [] => -1
 | i, x :: r => if p x then (i : Int) else findI p (i + 1) r
theorem findI_any (p : Sp → Bool) : ∀ (l : List Sp) (i : Nat), decide (0 ≤ findI p i l) = l.any p
 | [], i => by simp [findI]
 | x :: l, i => by
  simp only [findI, List.any_cons]
  split
  ·next h => simp [h]
  ·next h => rw [findI_any p l (i + 1)]; simp [h]
def xp : List (Int × Int) → Bool
 | [] => true
 | j :: r => !(decide (j.1 < 0) || decide (16 ≤ j.1) || decide (j.2 < 0) || decide (16 ≤ j.2) || decide (j.1 = j.2)) && xp r
def xm (w : Int) (js : List (Int × Int)) (bad : Int) (l : List Sp) : Int :=
 if 4096 < l.length ∨ 16 < js.length then 4
 else if w ≤ 0 ∨ 65536 ≤ w ∨ bad < 0 ∨ (2 : Int) ^ js.length ≤ bad then 1
 else if l.any (fun x => !y1 x.w x.p) then 1
 else if xp js then 0 else 1
theorem qL {n : Nat} (h : n ≤ 16) : (1 : Int) ≤ 2 ^ n ∧ (2 : Int) ^ n ≤ 65536 := by
 have h1 : (2 : Nat) ^ n ≤ 2 ^ 16 := Nat.pow_le_pow_right (by decide) h
 have h2 : 1 ≤ (2 : Nat) ^ n := Nat.one_le_two_pow
 have e : ((2 : Int) ^ n) = (((2 : Nat) ^ n : Nat) : Int) := by simp
 rw [e]
 have : (2 : Nat) ^ 16 = 65536 := by decide
 omega
set_option maxHeartbeats 4000000 in
set_option maxRecDepth 10000 in
theorem indexFunc_ok {I : yh} (hI : Plain I) {s : St} (hf : Fine s) {v : Value} {l : List Sp} (hl : Sl s 62 10 v (l.map Sp.cells)) {n K : Nat} {fa fb : Array Value} {p : Sp → Bool} (hfn : yp Tryz.prog n = true)
  (hp : ∀ s1 m x, x ∈ l → HL [] s s1 [] m → s1.next + K ≤ zp → ∃ v' s2, yJ Tryz.prog I n ⟨fa.toList ++ [.agg ⟨x.cells⟩] ++ fb.toList⟩ s1 v' s2 ∧ (v' = .bool (p x) ∧ HL [] s1 s2 [] K)) (hlen : l.length ≤ 4096) (hroom : s.next + K * l.length ≤ zp) :
  ∃ v' s', yJ Tryz.prog I 139 #[v, .func (.func n) fa fb] s v' s' ∧ (v' = .int .i64 (findI p 0 l) ∧ HL [] s s' [] (K * l.length)) := by
 have H := hf.hl
 obtain ⟨a, len, cap, rfl, hn⟩ := hl.isSlice
 rw [List.length_map] at hn
 subst hn
 refine yf 2 (hI 139 (by decide) (by decide)) Tryz.func139 rfl fb139 rfl ?_
 refine zf (za rfl (zh (zb (zy (zf (za rfl (zk rfl (za rfl (zZ xM rfl rfl rfl (za rfl (ql (zb (zH (yu (fun k F s1 => ∃ (G : FF) (i : Nat), F = lay G [(0, .slice a l.length cap), (1, .func (.func n) fa fb), (7, .int .i64 (l.length : Int)), (8, .int .i64 (i : Int))] ∧ HL [] s s1 [] (K * i) ∧ i ≤ l.length ∧ k = l.length - i ∧ findI p 0 l = findI p i (l.drop i)) ?_ l.length _ _ ?_))))))))))))))
 rotate_left
 ·exact ⟨_, 0, yb ⟨rfl, rfl, rfl, rfl, trivial⟩, H, by omega, by omega, rfl⟩
 rintro k F s1 ⟨G, i, rfl, H, hi, rfl, hn⟩
 refine zf (za rfl (ye rfl rfl (fun h => ?_) (fun h => ?_)))
 ·refine zb (zy (zq rfl (zD (zj (zy (zH (zf (za rfl (ze rfl (za rfl (zl rfl (zb (zf ?_)))))))))))))
  refine za rfl (xk rfl (za rfl (zk rfl (za rfl (ze rfl ?_)))))
  obtain ⟨b, off, c, rfl, hg, hb, hc⟩ := (hl.kept H).atS rfl (show i < l.length by omega)
  refine za rfl (zA x9 rfl rfl (by unfold zp at *; omega) (by unfold zp at *; omega) (za rfl (z7 sh62 rfl hg hc (za rfl (zx rfl hfn rfl ?_)))))
  have hKi : K * i + K ≤ K * l.length := by rw [← Nat.mul_succ]; exact Nat.mul_le_mul_left _ (by omega)
  obtain ⟨_, s9, hr, rfl, Hc⟩ := hp _ _ (l.getD i default) (zP (by omega)) H (by have := H.most; omega)
  refine ⟨_, _, hr, ?_⟩
  clear hr
  have H := H.call0 Hc
  clear Hc
  cases hb2 : p (l.getD i default)
  ·refine zb (zw rfl (zD (zK (zj (zC (za rfl (zW rfl rfl (by unfold zV; (unfold zp at *; omega)) (za rfl (ze rfl (zb (zI (⟨l.length - (i + 1), by omega, _, i + 1, yb ⟨rfl, rfl, rfl, rfl, trivial⟩, H.up (by rw [Nat.mul_add]; omega), by omega, rfl, ?_⟩))))))))))))
   rw [hn, yw default (show i < l.length by omega), findI]
   simp_all
  refine zb (zq rfl (zf (za rfl (ze rfl (za rfl (zl rfl (zb (zr (zu (zo (zL (zu (zo ?_)))))))))))))
  refine zm (zN ?_)
  first
   | (refine ⟨congrArg (Value.int .i64) ?_, H.up hKi⟩; rw [hn, yw default (show i < l.length by omega), findI, if_pos hb2]; done)
   | (refine ⟨congrArg (Value.int .i64) ?_, H.up (Nat.mul_le_mul_left _ hi)⟩; rw [hn, List.drop_eq_nil_of_le (by omega)]; rfl)
 refine zb (zy (zw rfl (yc (zQ (ya (zY (zj (zf (za rfl (zh (zb (zr ?_))))))))))))
 refine zm (zN ?_)
 first
  | (refine ⟨congrArg (Value.int .i64) ?_, H.up hKi⟩; rw [hn, yw default (show i < l.length by omega), findI, if_pos hb2]; done)
  | (refine ⟨congrArg (Value.int .i64) ?_, H.up (Nat.mul_le_mul_left _ hi)⟩; rw [hn, List.drop_eq_nil_of_le (by omega)]; rfl)
set_option maxHeartbeats 4000000 in
set_option maxRecDepth 10000 in
theorem containsFunc_ok {I : yh} (hI : Plain I) {s : St} (hf : Fine s) {v : Value} {l : List Sp} (hl : Sl s 62 10 v (l.map Sp.cells)) {n K : Nat} {fa fb : Array Value} {p : Sp → Bool} (hfn : yp Tryz.prog n = true)
  (hp : ∀ s1 m x, x ∈ l → HL [] s s1 [] m → s1.next + K ≤ zp → ∃ v' s2, yJ Tryz.prog I n ⟨fa.toList ++ [.agg ⟨x.cells⟩] ++ fb.toList⟩ s1 v' s2 ∧ (v' = .bool (p x) ∧ HL [] s1 s2 [] K)) (hlen : l.length ≤ 4096) (hroom : s.next + K * l.length ≤ zp) :
  ∃ v' s', yJ Tryz.prog I 84 #[v, .func (.func n) fa fb] s v' s' ∧ (v' = .bool (l.any p) ∧ HL [] s s' [] (K * l.length)) := by
 have H := hf.hl
 refine yf 2 (hI 84 (by decide) (by decide)) Tryz.func84 rfl fb84 rfl ?_
 refine zf (za rfl (zh (zb (zf (za rfl (xy (za rfl (xk rfl (za rfl (zx rfl fc139 rfl ?_))))))))))
 obtain ⟨_, s9, hr, rfl, Hc⟩ := indexFunc_ok (p := p) hI H.fine hl hfn hp hlen (by have := H.most; omega)
 refine ⟨_, _, hr, ?_⟩
 clear hr
 have H := H.call0 Hc
 clear Hc
 refine za rfl (op_geq' rfl rfl (za rfl (zt rfl (zb (zr (zm (zN ?_)))))))
 exact ⟨congrArg Value.bool (findI_any p l 0), H.up (by omega)⟩
theorem noSplit_all {I : yh} (hI : Plain I) {s : St} {l : List Sp} : ∀ s1 m x, x ∈ l → HL [] s s1 [] m → s1.next + 2 ≤ zp →
  ∃ v' s2, yJ Tryz.prog I 85 ⟨(#[] : Array Value).toList ++ [.agg ⟨x.cells⟩] ++ (#[] : Array Value).toList⟩ s1 v' s2 ∧ (v' = .bool ((fun x => !y1 x.w x.p) x) ∧ HL [] s1 s2 [] 2) :=
 fun s1 m x _ H1 hr => noSplit_ok (x := x) hI H1.fine hr
theorem anyBad_ok {I : yh} (hI : Plain I) {s : St} (hf : Fine s) {v : Value} {l : List Sp} (hl : Sl s 62 10 v (l.map Sp.cells)) (hlen : l.length ≤ 4096) (hroom : s.next + 8192 ≤ zp) :
  ∃ v' s', yJ Tryz.prog I 84 #[v, .func (.func 85) #[] #[]] s v' s' ∧ (v' = .bool (l.any fun x => !y1 x.w x.p) ∧ HL [] s s' [] 8192) := by
 obtain ⟨v', s', h1, h2, h3⟩ := containsFunc_ok (fa := #[]) (fb := #[]) hI hf hl fc85 (noSplit_all hI) hlen (by omega)
 exact ⟨v', s', h1, h2, h3.up (by omega)⟩
set_option maxHeartbeats 4000000 in
set_option maxRecDepth 10000 in
theorem valid_args_ok {I : yh} (hI : Plain I) {s : St} (hf : Fine s) {w bad : Int} {vj vm : Value} {js : List (Int × Int)} {l : List Sp} (hj : Sl s 30 2 vj (js.map jc)) (hl : Sl s 62 10 vm (l.map Sp.cells)) (hroom : s.next + 10000 ≤ zp) :
  ∃ v' s', yJ Tryz.prog I 40 #[.int .i64 w, vj, .int .i64 bad, vm] s v' s' ∧ (v' = .int .i64 (xm w js bad l) ∧ HL [] s s' [] 10000) := by
 have H := hf.hl
 obtain ⟨a, len, cap, rfl, hn⟩ := hj.isSlice
 rw [List.length_map] at hn
 subst hn
 obtain ⟨a2, len2, cap2, rfl, hn2⟩ := hl.isSlice
 rw [List.length_map] at hn2
 subst hn2
 refine yf 4 (hI 40 (by decide) (by decide)) Tryz.func40 rfl fb40 rfl ?_
 refine zf (za rfl (zh (zb (zy (zH (zf (za rfl (zk rfl (za rfl (zZ xM rfl rfl rfl (za rfl (yy rfl rfl (fun h => ?_) (fun h => ?_)))))))))))))
 ·refine za rfl (zi rfl (zc rfl (zc rfl (zc rfl (za rfl (zB rfl (za rfl (zt rfl (zb (zq rfl (zf (za rfl (zh (zb (zr ?_)))))))))))))))
  refine zu (zo (zm (zN (⟨congrArg (Value.int .i64) ?_, H.up (by omega)⟩))))
  unfold xm
  rw [if_pos (by omega)]
 refine za rfl (zi rfl (za rfl (zk rfl (za rfl (zZ un24 rfl rfl rfl (za rfl (yy rfl rfl (fun h => ?_) (fun h => ?_))))))))
 ·refine za rfl (zv rfl rfl (za rfl (zt rfl (zb (zq rfl (zf (za rfl (zh (zb (zr (zu (zo (zm (zN ?_))))))))))))))
  refine ⟨congrArg (Value.int .i64) ?_, H.up (by omega)⟩
  unfold xm
  rw [if_pos (by omega)]
 refine za rfl (zv rfl rfl (za rfl (zt rfl (zb (zw rfl (zf (za rfl (ze rfl (za rfl (op_leq rfl rfl (fun h => ?_) (fun h => ?_)))))))))))
 ·refine za rfl (zi rfl (zc rfl (zc rfl (za rfl (zB rfl (za rfl (zi rfl (zc rfl (zc rfl (za rfl (zB rfl (za rfl (zi rfl (zc rfl (zc rfl (zc rfl ?_))))))))))))))))
  refine zc rfl (zc rfl (za rfl (zB rfl (za rfl (zt rfl (zb (zq rfl (zf (za rfl (zh (zb (zr (zu (zo ?_))))))))))))))
  refine zm (zN (⟨congrArg (Value.int .i64) ?_, H.up (by omega)⟩))
  try simp only [Int.toNat_natCast, Int.one_mul] at h
  unfold xm
  rw [if_neg (by omega), if_pos (by omega)]
 refine za rfl (zi rfl (za rfl (ze rfl (za rfl (qN rfl rfl (fun h => ?_) (fun h => ?_))))))
 ·refine za rfl (zv rfl rfl (za rfl (zi rfl (zc rfl (zc rfl (za rfl (zB rfl (za rfl (zi rfl (zc rfl (zc rfl (zc rfl (zc rfl (zc rfl (za rfl (zB rfl ?_))))))))))))))))
  refine za rfl (zt rfl (zb (zq rfl (zf (za rfl (zh (zb (zr (zu (zo (zm (zN (⟨congrArg (Value.int .i64) ?_, H.up (by omega)⟩)))))))))))))
  try simp only [Int.toNat_natCast, Int.one_mul] at h
  unfold xm
  rw [if_neg (by omega), if_pos (by omega)]
 refine za rfl (zv rfl rfl (za rfl (zi rfl (za rfl (ze rfl (za rfl (ye rfl rfl (fun h => ?_) (fun h => ?_))))))))
 ·refine za rfl (zv rfl rfl (za rfl (zi rfl (zc rfl (zc rfl (zc rfl (zc rfl (zc rfl (za rfl (zB rfl (za rfl (zt rfl (zb (zq rfl (zf ?_)))))))))))))))
  refine za rfl (zh (zb (zr (zu (zo (zm (zN (⟨congrArg (Value.int .i64) ?_, H.up (by omega)⟩))))))))
  try simp only [Int.toNat_natCast, Int.one_mul] at h
  unfold xm
  rw [if_neg (by omega), if_pos (by omega)]
 refine za rfl (zv rfl rfl (za rfl (zi rfl ?_)))
 have hp2 := qL (n := js.length) (by omega)
 refine za rfl (ze rfl (za rfl (zk rfl (za rfl (zZ un24 rfl rfl rfl (za rfl (op_shl rfl rfl (by omega) (by omega) (by unfold zV; simp only [Int.toNat_natCast]; omega) (za rfl (qN rfl rfl (fun h => ?_) (fun h => ?_))))))))))
 ·refine za rfl (zv rfl rfl (za rfl (zt rfl (zb (zq rfl (zf (za rfl (zh (zb (zr (zu (zo (zm (zN ?_))))))))))))))
  refine ⟨congrArg (Value.int .i64) ?_, H.up (by omega)⟩
  try simp only [Int.toNat_natCast, Int.one_mul] at h
  unfold xm
  rw [if_neg (by omega), if_pos (by omega)]
 refine za rfl (zv rfl rfl (za rfl (zt rfl (zb (zw rfl (zf (za rfl (zk rfl (za rfl (zx rfl fc84 rfl ?_))))))))))
 obtain ⟨_, s9, hr, rfl, Hc⟩ := anyBad_ok hI H.fine (hl.kept H) (by omega) (by have := H.most; omega)
 refine ⟨_, _, hr, ?_⟩
 clear hr
 have H := H.call0 Hc
 clear Hc
 have H := H.up (show 0 + 8192 ≤ 8192 by omega)
 cases hb2 : l.any (fun x => !y1 x.w x.p)
 ·refine za rfl (zt rfl (zb (zw rfl (zD (zK (zj (zy ?_)))))))
  simp only [Int.toNat_natCast, Int.one_mul] at h
  refine zf (za rfl (zk rfl (za rfl (zZ un24 rfl rfl rfl (za rfl (ql (zb (zH (yu (fun k F s1 => ∃ (G : FF) (i : Nat), F = lay G [(41, .slice a js.length cap), (42, .int .i64 (js.length : Int)), (43, .int .i64 (i : Int))] ∧ HL [] s s1 [] (8192 + i) ∧ i ≤ js.length ∧ k = js.length - i ∧ xp js = xp (js.drop i)) ?_ js.length _ _ ?_)))))))))
  rotate_left
  ·exact ⟨_, 0, yb ⟨rfl, rfl, rfl, trivial⟩, H, by omega, by omega, rfl⟩
  rintro k F s1 ⟨G, i, rfl, H, hi, rfl, hn⟩
  refine zf (za rfl (ye rfl rfl (fun h => ?_) (fun h => ?_)))
  ·refine zb (zy (zq rfl (zD (zj (zy (zH (zf ?_)))))))
   obtain ⟨b, off, c, rfl, hg, hb, hc⟩ := (hj.kept H).atJ rfl (show i < js.length by omega)
   refine za rfl (zA el24 rfl rfl (by unfold zp at *; omega) (by unfold zp at *; omega) (za rfl (z7 sh30 rfl hg hc (za rfl (yi H zf30 (by unfold zp at *; omega) (fun b10 s1 H => ?_))))))
   refine za rfl (yg (vs := [.int _ _, .int _ _]) H sz30 rfl rfl rfl rfl rfl (by unfold zp at *; omega) (fun s2 H => ?_))
   refine zb (zf (za rfl (xb el30 rfl rfl (by unfold zp at *; omega) (by unfold zp at *; omega) (za rfl (zn sh3 rfl H.own0 rfl (za rfl (ye rfl rfl (fun h => ?_) (fun h => ?_))))))))
   ·refine za rfl (zi rfl (zc rfl (zc rfl (zc rfl (za rfl (zB rfl (za rfl (zi rfl (zc rfl (zc rfl (zc rfl (za rfl (zB rfl (za rfl (zi rfl (zc rfl ?_))))))))))))))))
    refine zc rfl (zc rfl (za rfl (zB rfl (za rfl (zi rfl (zc rfl (zc rfl (zc rfl (zc rfl (zc rfl (za rfl (zB rfl (zb (zq rfl ?_))))))))))))))
    refine zf (za rfl (zh (zb (zr (zu (zo (zL (zu (zo (zm (zN (⟨congrArg (Value.int .i64) ?_, H.drop0.up (by omega)⟩))))))))))))
    unfold xm
    rw [if_neg (by omega), if_neg (by omega), if_neg (by simp [hb2]), if_neg]
    rw [hn, yw (0, 0) (show i < js.length by omega), xp]
    simp only [Bool.and_eq_true, Bool.not_eq_true', Bool.or_eq_false_iff, decide_eq_false_iff_not]
    omega
   refine za rfl (zi rfl (za rfl (xb el30 rfl rfl (by unfold zp at *; omega) (by unfold zp at *; omega) (za rfl (zn sh3 rfl H.own0 rfl (za rfl (qN rfl rfl (fun h => ?_) (fun h => ?_))))))))
   ·refine za rfl (zv rfl rfl (za rfl (zi rfl (zc rfl (zc rfl (zc rfl (za rfl (zB rfl (za rfl (zi rfl (zc rfl (zc rfl (zc rfl (za rfl (zB rfl (za rfl (zi rfl ?_)))))))))))))))))
    refine zc rfl (zc rfl (zc rfl (zc rfl (zc rfl (za rfl (zB rfl (zb (zq rfl (zf (za rfl (zh (zb (zr ?_)))))))))))))
    refine zu (zo (zL (zu (zo (zm (zN (⟨congrArg (Value.int .i64) ?_, H.drop0.up (by omega)⟩)))))))
    unfold xm
    rw [if_neg (by omega), if_neg (by omega), if_neg (by simp [hb2]), if_neg]
    rw [hn, yw (0, 0) (show i < js.length by omega), xp]
    simp only [Bool.and_eq_true, Bool.not_eq_true', Bool.or_eq_false_iff, decide_eq_false_iff_not]
    omega
   refine za rfl (zv rfl rfl (za rfl (zi rfl (za rfl (xb el30 rfl rfl (by unfold zp at *; omega) (by unfold zp at *; omega) (za rfl (zn sh3 rfl H.own0 rfl (za rfl (ye rfl rfl (fun h => ?_) (fun h => ?_))))))))))
   ·refine za rfl (zv rfl rfl (za rfl (zi rfl (zc rfl (zc rfl (zc rfl (za rfl (zB rfl (za rfl (zi rfl (zc rfl (zc rfl (zc rfl (zc rfl (zc rfl ?_)))))))))))))))
    refine za rfl (zB rfl (zb (zq rfl (zf (za rfl (zh (zb (zr (zu (zo (zL (zu (zo ?_)))))))))))))
    refine zm (zN (⟨congrArg (Value.int .i64) ?_, H.drop0.up (by omega)⟩))
    unfold xm
    rw [if_neg (by omega), if_neg (by omega), if_neg (by simp [hb2]), if_neg]
    rw [hn, yw (0, 0) (show i < js.length by omega), xp]
    simp only [Bool.and_eq_true, Bool.not_eq_true', Bool.or_eq_false_iff, decide_eq_false_iff_not]
    omega
   refine za rfl (zv rfl rfl (za rfl (zi rfl (za rfl (xb el30 rfl rfl (by unfold zp at *; omega) (by unfold zp at *; omega) (za rfl (zn sh3 rfl H.own0 rfl (za rfl (qN rfl rfl (fun h => ?_) (fun h => ?_))))))))))
   ·refine za rfl (zv rfl rfl (za rfl (zi rfl (zc rfl (zc rfl (zc rfl (zc rfl (zc rfl (za rfl (zB rfl (zb (zq rfl (zf (za rfl (zh ?_)))))))))))))))
    refine zb (zr (zu (zo (zL (zu (zo (zm (zN (⟨congrArg (Value.int .i64) ?_, H.drop0.up (by omega)⟩)))))))))
    unfold xm
    rw [if_neg (by omega), if_neg (by omega), if_neg (by simp [hb2]), if_neg]
    rw [hn, yw (0, 0) (show i < js.length by omega), xp]
    simp only [Bool.and_eq_true, Bool.not_eq_true', Bool.or_eq_false_iff, decide_eq_false_iff_not]
    omega
   refine za rfl (zv rfl rfl (za rfl (zi rfl (za rfl (xb el30 rfl rfl (by unfold zp at *; omega) (by unfold zp at *; omega) (za rfl (zn sh3 rfl H.own0 rfl (za rfl (xb el30 rfl rfl (by unfold zp at *; omega) (by unfold zp at *; omega) (za rfl (zn sh3 rfl H.own0 rfl (za rfl (yD rfl rfl (fun h => ?_) (fun h => ?_))))))))))))))
   ·refine za rfl (zv rfl rfl (zb (zq rfl (zf (za rfl (zh (zb (zr (zu (zo (zL (zu (zo ?_)))))))))))))
    refine zm (zN (⟨congrArg (Value.int .i64) ?_, H.drop0.up (by omega)⟩))
    unfold xm
    rw [if_neg (by omega), if_neg (by omega), if_neg (by simp [hb2]), if_neg]
    rw [hn, yw (0, 0) (show i < js.length by omega), xp]
    simp only [Bool.and_eq_true, Bool.not_eq_true', Bool.or_eq_false_iff, decide_eq_false_iff_not]
    omega
   refine za rfl (zv rfl rfl (zb (zw rfl (zD (zK (zj (zC (za rfl (zW rfl rfl (by unfold zV; (unfold zp at *; omega)) (za rfl (ze rfl (zb (zI (⟨js.length - (i + 1), by omega, _, i + 1, yb ⟨rfl, rfl, rfl, trivial⟩, H.drop0.up (by omega), by omega, rfl, ?_⟩))))))))))))))
   rw [hn, yw (0, 0) (show i < js.length by omega), xp]
   simp only [Bool.and_eq_right_iff_imp, Bool.not_eq_true', Bool.or_eq_false_iff, decide_eq_false_iff_not]
   intro _
   omega
  refine zb (zy (zw rfl (yc (zQ (ya (zY (zj (zf (za rfl (zh (zb (zr ?_))))))))))))
  refine zm (zN (⟨congrArg (Value.int .i64) ?_, H.up (by omega)⟩))
  unfold xm
  rw [if_neg (by omega), if_neg (by omega), if_neg (by simp [hb2]), hn, List.drop_eq_nil_of_le (by omega)]
  rfl
 refine za rfl (zt rfl (zb (zq rfl (zf (za rfl (zh (zb (zr (zu (zo (zm (zN (⟨congrArg (Value.int .i64) ?_, H.up (by omega)⟩)))))))))))))
 simp only [Int.toNat_natCast, Int.one_mul] at h
 unfold xm
 rw [if_neg (by omega), if_neg (by omega), if_pos hb2]
end Go.Proofs.YtdejleegamcioaaGreat
namespace Go.Proofs.YtdejleegamcioaaGreat
open Go Go.M
theorem sl24 : xn Tryz.prog 24 = some (30, 2, 16, [.int .i64 0, .int .i64 0]) := by kernel_rfl
theorem sz62 : xD Tryz.prog 62 = some 10 := by kernel_rfl
theorem zf62 : zeroF Tryz.prog 62 = some [.int .i64 0, .int .i64 0, .bool false, .slice none 0 0, .bool false, .slice none 0 0, .bool false, .slice none 0 0, .bool false, .slice none 0 0] := by kernel_rfl
end Go.Proofs.YtdejleegamcioaaGreat
namespace Go.Proofs.YtdejleegamcioaaGreat
open Go Go.M
theorem fc26 : yp Tryz.prog 26 = true := by kernel_rfl
theorem un4 : Tryz.prog.underlying 4 = some (.bool) := by kernel_rfl
end Go.Proofs.YtdejleegamcioaaGreat
