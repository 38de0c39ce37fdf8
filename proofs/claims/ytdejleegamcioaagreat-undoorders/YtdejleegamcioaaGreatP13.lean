/- Small functions of the program and of the reference. -/
/- Splits: the tests of the program and of the reference. -/
/- Joins: which sets need work; what arguments are proper. -/
/- Lists of splits; what arguments are proper. -/
/- Which joins splits break: the program and the reference. -/
/- Which joins splits break: the reference. -/
import Derived.Test.YtdejleegamcioaaGreatProg
import Derived.KernelRfl
import Derived.Test.YtdejleegamcioaaGreatP12
namespace Go.Proofs.YtdejleegamcioaaGreat
open Go Go.M
theorem fb10 : yw Tryz.f10 (Tryz.f10.body.getD .skip) 2 = true := by kernel_rfl
theorem el22 : elemF Tryz.prog 22 = some (true, 0, 1) := by kernel_rfl
theorem fb30 : yw Tryz.f30 (Tryz.f30.body.getD .skip) 3 = true := by kernel_rfl
theorem fc10 : yk Tryz.prog 10 = true := by kernel_rfl
theorem sh3 : z1 Tryz.prog 3 = some (none) := by kernel_rfl
theorem xO : Tryz.prog.underlying 22 = some (.slice 3) := by kernel_rfl
def Plain (I : zJ) : Prop := ∀ f, f ≠ 12 → f ≠ 17 → f ≠ 79 → f ≠ 80 → I f = none
def aroundZ (a n : Int) : Int := (if a < 0 then -(a + 1) else a).tmod n
def atZ (l : List Int) (i n : Int) : Int := if i < 0 ∨ (l.length : Int) ≤ i then 0 else aroundZ (l.getD i.toNat 0) n
def z7 (l : List Int) : List Value := l.map (Value.int .i64)
theorem lget_ints {l : List Int} {k : Nat} (h : k < l.length) : yo (z7 l) k = some (.int .i64 (l.getD k 0)) := by
 rw [yx]; simp [z7, List.getElem?_map, List.getD_eq_getElem?_getD, List.getElem?_eq_getElem h]
inductive SlI (s : St) (v : Value) (l : List Int) : Prop
 | nil (c : Nat) (hv : v = .slice none 0 c) (hl : l = []) : SlI s v l
 | block (b off cap : Nat) (c : List Value) (e : TypeId) (hv : v = .slice (some ⟨b, off, none⟩) l.length cap) (hg : s.get b = some (.cells c e)) (hb : b < s.next) (hc : ∀ k, k < l.length → yo c (off + k) = some (.int .i64 (l.getD k 0))) : SlI s v l
set_option maxHeartbeats 4000000 in
set_option maxRecDepth 10000 in
theorem around_ok {I : zJ} (hI : Plain I) {s : St} {a n : Int} (ha : zQ a) (hn : n ≠ 0) : ∃ v s', yE Tryz.prog I 10 #[.int .i64 a, .int .i64 n] s v s' ∧ (v = .int .i64 (aroundZ a n) ∧ s' = s) := by
 obtain ⟨ha1, ha2⟩ := ha
 refine zY 2 (hI 10 (by decide) (by decide) (by decide) (by decide)) Tryz.func10 rfl fb10 rfl ?_
 refine zc (za rfl (zk (zb (zq (zc (za rfl (zd rfl (za rfl (yq rfl rfl (fun h => ?_) (fun h => ?_))))))))))
 ·refine zb (zE rfl (zv (za rfl (zd rfl (za rfl (zT rfl rfl (by unfold zQ; omega) (za rfl (op_neg rfl (za rfl (zm rfl (zb (zi (zc (za rfl (zd rfl (za rfl (zd rfl ?_)))))))))))))))))
  refine za rfl (op_rem rfl rfl (by omega) (za rfl (zm rfl (zb (zF (zt (z6 (⟨congrArg (Value.int .i64) ?_, rfl⟩))))))))
  unfold aroundZ
  (rw [if_pos h, wrap_in ⟨by omega, by omega⟩]; congr 1; omega)
 refine zb (zx rfl (zA (zi (zc (za rfl (zd rfl (za rfl (zd rfl (za rfl (op_rem rfl rfl (by omega) (za rfl (zm rfl (zb (zF (zt ?_)))))))))))))))
 refine z6 (⟨congrArg (Value.int .i64) ?_, rfl⟩)
 unfold aroundZ
 rw [if_neg h]
set_option maxHeartbeats 4000000 in
set_option maxRecDepth 10000 in
theorem at_ok {I : zJ} (hI : Plain I) {s : St} {v : Value} {l : List Int} {i n : Int} (hl : SlI s v l) (hin : ∀ x ∈ l, zQ x) (hn : n ≠ 0) : ∃ v' s', yE Tryz.prog I 30 #[v, .int .i64 i, .int .i64 n] s v' s' ∧ (v' = .int .i64 (atZ l i n) ∧ s' = s) := by
 obtain ⟨a, len, cap, rfl, hlen⟩ : ∃ a len cap, v = .slice a len cap ∧ len = l.length := by
  cases hl with
  | nil c hv hl => exact ⟨_, _, _, hv, by rw [hl]; rfl⟩
  | block b off cap c e hv => exact ⟨_, _, _, hv, rfl⟩
 refine zY 3 (hI 30 (by decide) (by decide) (by decide) (by decide)) Tryz.func30 rfl fb30 rfl ?_
 refine zc (za rfl (zk (zb (zq (zc (za rfl (zd rfl (za rfl (yq rfl rfl (fun h => ?_) (fun h => ?_))))))))))
 ·refine za rfl (zl rfl (zg rfl (zg rfl (zg rfl (zg rfl (za rfl (yi rfl (zb (zE rfl (zc (za rfl (zk (zb (zF ?_))))))))))))))
  refine zV (zt (z6 (⟨congrArg (Value.int .i64) ?_, rfl⟩)))
  unfold atZ
  rw [if_pos (by omega)]
 refine za rfl (zl rfl (za rfl (zd rfl (za rfl (zp rfl (za rfl (yf xO rfl rfl rfl (za rfl (qd rfl rfl (fun h => ?_) (fun h => ?_))))))))))
 ·refine za rfl (zW rfl rfl (zb (zE rfl (zc (za rfl (zk (zb (zF (zV (zt (z6 (⟨congrArg (Value.int .i64) ?_, rfl⟩))))))))))))
  unfold atZ
  rw [if_pos (by omega)]
 refine za rfl (zW rfl rfl (zb (zx rfl (zA (zi (zc (za rfl (zp rfl (za rfl (zd rfl ?_))))))))))
 cases hl with
 | nil c hv hl2 => simp only [hl2, List.length_nil] at hlen; omega
 | block b off cap2 c e hv hg hb hc =>
 cases hv
 refine za rfl (zM el22 rfl rfl (by omega) (by omega) (za rfl (zj sh3 rfl hg (by rw [Nat.mul_one]; exact hc _ (by omega)) (za rfl (zd rfl (za rfl (zo rfl fc10 rfl ?_)))))))
 obtain ⟨_, _, hr, rfl, rfl⟩ := around_ok (n := n) hI (hin (l.getD i.toNat 0) (by rw [List.getD_eq_getElem?_getD, List.getElem?_eq_getElem (by omega)]; simp)) hn
 refine ⟨_, _, hr, ?_⟩
 clear hr
 refine za rfl (zm rfl (zb (zF (zt (z6 (⟨congrArg (Value.int .i64) ?_, rfl⟩))))))
 unfold atZ
 rw [if_neg (by omega)]
end Go.Proofs.YtdejleegamcioaaGreat
namespace Go.Proofs.YtdejleegamcioaaGreat
open Go Go.M
theorem fb83 : yw Tryz.f83 (Tryz.f83.body.getD .skip) 1 = true := by kernel_rfl
theorem fb39 : yw Tryz.f39 (Tryz.f39.body.getD .skip) 1 = true := by kernel_rfl
theorem fc83 : yk Tryz.prog 83 = true := by kernel_rfl
theorem xW : offF Tryz.prog 62 0 = some 0 := by kernel_rfl
theorem xv : offF Tryz.prog 62 1 = some 1 := by kernel_rfl
theorem y1 : z1 Tryz.prog 23 = some (none) := by kernel_rfl
theorem fb86 : yw Tryz.f86 (Tryz.f86.body.getD .skip) 1 = true := by kernel_rfl
theorem fb85 : yw Tryz.f85 (Tryz.f85.body.getD .skip) 1 = true := by kernel_rfl
theorem fc86 : yk Tryz.prog 86 = true := by kernel_rfl
theorem sh62 : z1 Tryz.prog 62 = some (some 10) := by kernel_rfl
theorem el30 : elemF Tryz.prog 30 = some (false, 2, 1) := by kernel_rfl
theorem fb59 : yw Tryz.f59 (Tryz.f59.body.getD .skip) 2 = true := by kernel_rfl
structure Slc where
 a : Option Addr
 n : Nat
 c : Nat
def Slc.v (x : Slc) : Value := .slice x.a x.n x.c
structure Sp where
 w : Int
 p : Int
 n1 : Bool
 s1 : Slc
 n2 : Bool
 s2 : Slc
 n3 : Bool
 s3 : Slc
 n4 : Bool
 s4 : Slc
def Sp.cells (x : Sp) : List Value := [.int .i64 x.w, .int .i64 x.p, .bool x.n1, x.s1.v, .bool x.n2, x.s2.v, .bool x.n3, x.s3.v, .bool x.n4, x.s4.v]
def jc (j : Int × Int) : List Value := [.int .i64 j.1, .int .i64 j.2]
def qo (w p : Int) : Bool := decide (1 ≤ w) && decide (w ≤ 65535) && (decide (1 ≤ p) && decide (p ≤ 65535)) && decide (andI p w = p) && decide (p ≠ w)
def y0 (w p : Int) : Bool := decide (0 < w) && decide (w < 65536) && decide (0 < p) && decide (zB p w = 0) && decide (p ≠ w)
inductive Sl (s : St) (e : TypeId) (sz : Nat) (v : Value) (es : List (List Value)) : Prop
 | nil (c : Nat) (hv : v = .slice none 0 c) (hl : es = []) : Sl s e sz v es
 | block (b off cap : Nat) (c : List Value) (hv : v = .slice (some ⟨b, off, none⟩) es.length cap) (hg : s.get b = some (.cells c e)) (hb : b < s.next) (hcap : es.length ≤ cap / 2) (hc : ∀ k, k < es.length → xd sz (xy (off + k * sz) c) = some (es.getD k [])) : Sl s e sz v es
theorem Sl.isSlice {s : St} {e : TypeId} {sz : Nat} {v : Value} {es : List (List Value)} (h : Sl s e sz v es) : ∃ a len cap, v = .slice a len cap ∧ len = es.length := by
 cases h with
 | nil c hv hl => exact ⟨_, _, _, hv, by rw [hl]; rfl⟩
 | block b off cap c hv => exact ⟨_, _, _, hv, rfl⟩
theorem Sl.kept {s s' : St} {e : TypeId} {sz : Nat} {v : Value} {es : List (List Value)} {L : Hp'} {n : Nat} (h : Sl s e sz v es) (H : HL [] s s' L n) : Sl s' e sz v es := by
 cases h with
 | nil c hv hl => exact .nil c hv hl
 | block b off cap c hv hg hb hcap hc => exact .block b off cap c hv (H.old hb hg) (by have := H.le; omega) hcap hc
theorem Sl.cap {s : St} {e : TypeId} {sz : Nat} {a : Option Addr} {len cap : Nat} {es : List (List Value)} (h : Sl s e sz (.slice a len cap) es) : len ≤ cap / 2 := by
 cases h with
 | nil c hv hl => cases hv; omega
 | block b off cap c hv hg hb hcap hc => cases hv; exact hcap
theorem Sl.at {s : St} {e : TypeId} {sz : Nat} {a : Option Addr} {len cap : Nat} {es : List (List Value)} (h : Sl s e sz (.slice a len cap) es) {i : Int} {k : Nat} (hi : i = (k : Int)) (hk : k < es.length) : ∃ b off c, a = some ⟨b, off, none⟩ ∧ s.get b = some (.cells c e) ∧ b < s.next ∧ xd sz (xy (off + i.toNat * sz) c) = some (es.getD k []) := by
 subst hi
 cases h with
 | nil c hv hl => rw [hl] at hk; simp at hk
 | block b off cap c hv hg hb hcap hc =>
  cases hv
  exact ⟨b, off, c, rfl, hg, hb, by simpa using hc k hk⟩
theorem getD_map {α β : Type} {f : α → β} {l : List α} {k : Nat} {x : β} {y : α} (h : k < l.length) : (l.map f).getD k x = f (l.getD k y) := by
 simp [List.getD_eq_getElem?_getD, List.getElem?_map, List.getElem?_eq_getElem h]
theorem yu {α : Type} {l : List α} {k : Nat} {y : α} (h : k < l.length) : l.getD k y ∈ l := by
 simp [List.getD_eq_getElem?_getD, List.getElem?_eq_getElem h]
theorem yW {α : Type} {l : List α} {k : Nat} (y : α) (h : k < l.length) : l.drop k = l.getD k y :: l.drop (k + 1) := by
 rw [List.drop_eq_getElem_cons h]; simp [List.getD_eq_getElem?_getD, List.getElem?_eq_getElem h]
theorem Sl.atJ {s : St} {a : Option Addr} {len cap : Nat} {js : List (Int × Int)} (h : Sl s 30 2 (.slice a len cap) (js.map jc)) {i : Int} {k : Nat} (hi : i = (k : Int)) (hk : k < js.length) : ∃ b off c, a = some ⟨b, off, none⟩ ∧ s.get b = some (.cells c 30) ∧ b < s.next ∧ xd 2 (xy (off + i.toNat * 2) c) = some (jc (js.getD k (0, 0))) := by
 obtain ⟨b, off, c, h1, h2, h3, h4⟩ := h.at hi (k := k) (by simpa using hk)
 exact ⟨b, off, c, h1, h2, h3, by rw [h4, getD_map hk]⟩
instance : Inhabited Slc := ⟨⟨none, 0, 0⟩⟩
instance : Inhabited Sp := ⟨⟨0, 0, false, default, false, default, false, default, false, default⟩⟩
theorem Sl.atS {s : St} {a : Option Addr} {len cap : Nat} {l : List Sp} (h : Sl s 62 10 (.slice a len cap) (l.map Sp.cells)) {i : Int} {k : Nat} (hi : i = (k : Int)) (hk : k < l.length) : ∃ b off c, a = some ⟨b, off, none⟩ ∧ s.get b = some (.cells c 62) ∧ b < s.next ∧ xd 10 (xy (off + i.toNat * 10) c) = some (l.getD k default).cells := by
 obtain ⟨b, off, c, h1, h2, h3, h4⟩ := h.at hi (k := k) (by simpa using hk)
 exact ⟨b, off, c, h1, h2, h3, by rw [h4, getD_map hk]⟩
theorem Sl.gotS {s : St} {b off len cap : Nat} {l : List Sp} (h : Sl s 62 10 (.slice (some ⟨b, off, none⟩) len cap) (l.map Sp.cells)) {k : Nat} (hk : k < l.length) : ∃ c, s.get b = some (.cells c 62) ∧ yo c (off + ((k : Int)).toNat * 10 + 0) = some (.int .i64 (l.getD k default).w) ∧ yo c (off + ((k : Int)).toNat * 10 + 1) = some (.int .i64 (l.getD k default).p) := by
 obtain ⟨b', off', c, h1, h2, h3, h4⟩ := h.atS (i := (k : Int)) rfl hk
 cases h1
 refine ⟨c, h2, ?_⟩
 rw [xX, qi] at h4
 split at h4
 ·next hle =>
  rw [Option.some.injEq] at h4
  rw [List.length_drop] at hle
  have e : ∀ j, j < 10 → yo c (off + ((k : Int)).toNat * 10 + j) = (l.getD k default).cells[j]? := by
   intro j hj
   rw [yx, ← h4, List.getElem?_take, if_pos hj, List.getElem?_drop]
  exact ⟨e 0 (by omega), e 1 (by omega)⟩
 ·cases h4
set_option maxHeartbeats 4000000 in
set_option maxRecDepth 10000 in
theorem isSet_ok {I : zJ} (hI : Plain I) {s : St} {x : Int} : ∃ v s', yE Tryz.prog I 83 #[.int .i64 x] s v s' ∧ (v = .bool (decide (1 ≤ x) && decide (x ≤ 65535)) ∧ s' = s) := by
 refine zY 1 (hI 83 (by decide) (by decide) (by decide) (by decide)) Tryz.func83 rfl fb83 rfl ?_
 refine zc (za rfl (zk (zb (zc (za rfl (zd rfl (za rfl (qd rfl rfl (fun h => ?_) (fun h => ?_)))))))))
 ·refine za rfl (zl rfl (za rfl (zd rfl (za rfl (op_leq rfl rfl (fun h => ?_) (fun h => ?_))))))
  ·refine za rfl (zK rfl rfl (za rfl (zw rfl (zb (zF (zt (z6 (⟨congrArg Value.bool ?_, rfl⟩))))))))
   simp <;> omega
  refine za rfl (zK rfl rfl (za rfl (zw rfl (zb (zF (zt (z6 (⟨congrArg Value.bool ?_, rfl⟩))))))))
  simp <;> omega
 refine za rfl (zl rfl (zg rfl (zg rfl (za rfl (zZ rfl (za rfl (zw rfl (zb (zF (zt (z6 (⟨congrArg Value.bool ?_, rfl⟩))))))))))))
 simp <;> omega
set_option maxHeartbeats 4000000 in
set_option maxRecDepth 10000 in
theorem valid_ok {I : zJ} (hI : Plain I) {s : St} (hf : Fine s) (hroom : s.next + 1 ≤ zh) {x : Sp} : ∃ v s', yE Tryz.prog I 39 #[.agg ⟨x.cells⟩] s v s' ∧ (v = .bool (qo x.w x.p) ∧ HL [] s s' [] 1) := by
 have H := hf.hl
 refine zY 1 (hI 39 (by decide) (by decide) (by decide) (by decide)) Tryz.func39 rfl fb39 rfl ?_
 refine zc (za rfl (xc H rfl (by omega) (fun b1 s1 H => ?_)))
 refine za rfl (zk (zb (zc (za rfl (zf xW rfl (za rfl (zj y1 rfl H.own0 rfl (za rfl (zo rfl fc83 rfl ?_)))))))))
 obtain ⟨_, _, hr, rfl, rfl⟩ := isSet_ok (s := _) (x := x.w) hI
 refine ⟨_, _, hr, ?_⟩
 clear hr
 cases hb : (decide (1 ≤ x.w) && decide (x.w ≤ 65535))
 ·refine za rfl (zl rfl (zg rfl (zg rfl (zg rfl (za rfl (zZ rfl (za rfl (zl rfl (zg rfl (zg rfl (zg rfl (zg rfl (zg rfl (zg rfl ?_))))))))))))))
  refine zg rfl (zg rfl (za rfl (zZ rfl (za rfl (zl rfl (zg rfl (zg rfl (zg rfl (zg rfl (zg rfl (za rfl (zZ rfl (za rfl (zw rfl (zb ?_)))))))))))))))
  refine zF (zt (z6 (⟨congrArg Value.bool ?_, H.drop0⟩)))
  unfold qo
  (simp_all <;> intros <;> omega)
 refine za rfl (zl rfl (za rfl (zf xv rfl (za rfl (zj y1 rfl H.own0 rfl (za rfl (zo rfl fc83 rfl ?_)))))))
 obtain ⟨_, _, hr, rfl, rfl⟩ := isSet_ok (s := _) (x := x.p) hI
 refine ⟨_, _, hr, ?_⟩
 clear hr
 cases hb : (decide (1 ≤ x.p) && decide (x.p ≤ 65535))
 ·refine za rfl (zK rfl rfl (za rfl (zl rfl (zg rfl (zg rfl (zg rfl (zg rfl (zg rfl (zg rfl (zg rfl (zg rfl (za rfl (zZ rfl (za rfl (zl rfl ?_)))))))))))))))
  refine zg rfl (zg rfl (zg rfl (zg rfl (zg rfl (za rfl (zZ rfl (za rfl (zw rfl (zb (zF (zt (z6 (⟨congrArg Value.bool ?_, H.drop0⟩)))))))))))))
  unfold qo
  (simp_all <;> intros <;> omega)
 refine za rfl (zK rfl rfl (za rfl (zl rfl (za rfl (zf xv rfl (za rfl (zj y1 rfl H.own0 rfl (za rfl (zf xW rfl (za rfl (zj y1 rfl H.own0 rfl (za rfl (op_and rfl rfl (za rfl (zf xv rfl (za rfl (zj y1 rfl H.own0 rfl (za rfl (xf rfl rfl (fun h => ?_) (fun h => ?_))))))))))))))))))))
 ·refine za rfl (zK rfl rfl (za rfl (zl rfl (za rfl (zf xv rfl (za rfl (zj y1 rfl H.own0 rfl (za rfl (zf xW rfl (za rfl (zj y1 rfl H.own0 rfl (za rfl (op_neq rfl rfl (fun h => ?_) (fun h => ?_))))))))))))))
  ·refine za rfl (zK rfl rfl (za rfl (zw rfl (zb (zF (zt (z6 (⟨congrArg Value.bool ?_, H.drop0⟩))))))))
   unfold qo
   (simp_all <;> intros <;> omega)
  refine za rfl (zK rfl rfl (za rfl (zw rfl (zb (zF (zt (z6 (⟨congrArg Value.bool ?_, H.drop0⟩))))))))
  unfold qo
  (simp_all <;> intros <;> omega)
 refine za rfl (zK rfl rfl (za rfl (zl rfl (zg rfl (zg rfl (zg rfl (zg rfl (zg rfl (za rfl (zZ rfl (za rfl (zw rfl (zb (zF (zt ?_)))))))))))))))
 refine z6 (⟨congrArg Value.bool ?_, H.drop0⟩)
 unfold qo
 (simp_all <;> intros <;> omega)
set_option maxHeartbeats 4000000 in
set_option maxRecDepth 10000 in
theorem splits_ok {I : zJ} (hI : Plain I) {s : St} (hf : Fine s) (hroom : s.next + 1 ≤ zh) {x : Sp} : ∃ v s', yE Tryz.prog I 86 #[.agg ⟨x.cells⟩] s v s' ∧ (v = .bool (y0 x.w x.p) ∧ HL [] s s' [] 1) := by
 have H := hf.hl
 refine zY 1 (hI 86 (by decide) (by decide) (by decide) (by decide)) Tryz.func86 rfl fb86 rfl ?_
 refine zc (za rfl (xc H rfl (by omega) (fun b1 s1 H => ?_)))
 refine za rfl (zk (zb (zc (za rfl (zf xW rfl (za rfl (zj y1 rfl H.own0 rfl (za rfl (qc rfl rfl (fun h => ?_) (fun h => ?_))))))))))
 ·refine za rfl (zl rfl (za rfl (zf xW rfl (za rfl (zj y1 rfl H.own0 rfl (za rfl (yq rfl rfl (fun h => ?_) (fun h => ?_))))))))
  ·refine za rfl (zK rfl rfl (za rfl (zl rfl (za rfl (zf xv rfl (za rfl (zj y1 rfl H.own0 rfl (za rfl (qc rfl rfl (fun h => ?_) (fun h => ?_))))))))))
   ·refine za rfl (zK rfl rfl (za rfl (zl rfl (za rfl (zf xv rfl (za rfl (zj y1 rfl H.own0 rfl (za rfl (zf xW rfl (za rfl (zj y1 rfl H.own0 rfl (za rfl (op_andNot rfl rfl (za rfl (xf rfl rfl (fun h => ?_) (fun h => ?_))))))))))))))))
    ·refine za rfl (zK rfl rfl (za rfl (zl rfl (za rfl (zf xv rfl (za rfl (zj y1 rfl H.own0 rfl (za rfl (zf xW rfl (za rfl (zj y1 rfl H.own0 rfl (za rfl (op_neq rfl rfl (fun h => ?_) (fun h => ?_))))))))))))))
     ·refine za rfl (zK rfl rfl (za rfl (zw rfl (zb (zF (zt (z6 (⟨congrArg Value.bool ?_, H.drop0⟩))))))))
      unfold y0
      (simp_all <;> intros <;> omega)
     refine za rfl (zK rfl rfl (za rfl (zw rfl (zb (zF (zt (z6 (⟨congrArg Value.bool ?_, H.drop0⟩))))))))
     unfold y0
     (simp_all <;> intros <;> omega)
    refine za rfl (zK rfl rfl (za rfl (zl rfl (zg rfl (zg rfl (zg rfl (zg rfl (zg rfl (za rfl (zZ rfl (za rfl (zw rfl (zb (zF (zt ?_)))))))))))))))
    refine z6 (⟨congrArg Value.bool ?_, H.drop0⟩)
    unfold y0
    (simp_all <;> intros <;> omega)
   refine za rfl (zK rfl rfl (za rfl (zl rfl (zg rfl (zg rfl (zg rfl (zg rfl (zg rfl (zg rfl (za rfl (zZ rfl (za rfl (zl rfl (zg rfl (zg rfl ?_)))))))))))))))
   refine zg rfl (zg rfl (zg rfl (za rfl (zZ rfl (za rfl (zw rfl (zb (zF (zt (z6 (⟨congrArg Value.bool ?_, H.drop0⟩)))))))))))
   unfold y0
   (simp_all <;> intros <;> omega)
  refine za rfl (zK rfl rfl (za rfl (zl rfl (zg rfl (zg rfl (zg rfl (za rfl (zZ rfl (za rfl (zl rfl (zg rfl (zg rfl (zg rfl (zg rfl (zg rfl ?_)))))))))))))))
  refine zg rfl (za rfl (zZ rfl (za rfl (zl rfl (zg rfl (zg rfl (zg rfl (zg rfl (zg rfl (za rfl (zZ rfl (za rfl (zw rfl (zb (zF ?_)))))))))))))))
  refine zt (z6 (⟨congrArg Value.bool ?_, H.drop0⟩))
  unfold y0
  (simp_all <;> intros <;> omega)
 refine za rfl (zl rfl (zg rfl (zg rfl (zg rfl (za rfl (zZ rfl (za rfl (zl rfl (zg rfl (zg rfl (zg rfl (za rfl (zZ rfl (za rfl (zl rfl (zg rfl ?_))))))))))))))))
 refine zg rfl (zg rfl (zg rfl (zg rfl (zg rfl (za rfl (zZ rfl (za rfl (zl rfl (zg rfl (zg rfl (zg rfl (zg rfl (zg rfl ?_)))))))))))))
 refine za rfl (zZ rfl (za rfl (zw rfl (zb (zF (zt (z6 (⟨congrArg Value.bool ?_, H.drop0⟩))))))))
 unfold y0
 (simp_all <;> intros <;> omega)
set_option maxHeartbeats 4000000 in
set_option maxRecDepth 10000 in
theorem noSplit_ok {I : zJ} (hI : Plain I) {s : St} (hf : Fine s) (hroom : s.next + 2 ≤ zh) {x : Sp} : ∃ v s', yE Tryz.prog I 85 #[.agg ⟨x.cells⟩] s v s' ∧ (v = .bool (!y0 x.w x.p) ∧ HL [] s s' [] 2) := by
 have H := hf.hl
 refine zY 1 (hI 85 (by decide) (by decide) (by decide) (by decide)) Tryz.func85 rfl fb85 rfl ?_
 refine zc (za rfl (xc H rfl (by omega) (fun b1 s1 H => ?_)))
 refine za rfl (zk (zb (zc (za rfl (z8 sh62 rfl H.own0 rfl (za rfl (zo rfl fc86 rfl ?_)))))))
 obtain ⟨_, s9, hr, rfl, Hc⟩ := splits_ok (x := x) hI H.fine (by have := H.most; omega)
 refine ⟨_, _, hr, ?_⟩
 clear hr
 have H := H.call0 Hc
 clear Hc
 refine za rfl (op_not rfl (za rfl (zw rfl (zb (zF (zt (z6 ?_)))))))
 exact ⟨rfl, H.drop0⟩
set_option maxHeartbeats 4000000 in
set_option maxRecDepth 10000 in
theorem both_ok {I : zJ} (hI : Plain I) {s : St} (hf : Fine s) (hroom : s.next + 1 ≤ zh) {x : Int} {j : Int × Int} (h1 : 0 ≤ j.1 ∧ j.1 ≤ 64) (h2 : 0 ≤ j.2 ∧ j.2 ≤ 64) : ∃ v s', yE Tryz.prog I 59 #[.int .i64 x, .agg ⟨jc j⟩] s v s' ∧ (v = .bool (bit x j.1.toNat && bit x j.2.toNat) ∧ HL [] s s' [] 1) := by
 have H := hf.hl
 refine zY 2 (hI 59 (by decide) (by decide) (by decide) (by decide)) Tryz.func59 rfl fb59 rfl ?_
 refine zc (za rfl (xc H rfl (by omega) (fun b3 s1 H => ?_)))
 refine za rfl (zk (zb (zc (za rfl (zd rfl (za rfl (qu el30 rfl rfl (by omega) (by omega) (za rfl (zj sh3 rfl H.own0 rfl (za rfl (op_shr rfl rfl h1.1 (za rfl (op_and rfl rfl (za rfl (op_eqlBit rfl rfl h1.1 h1.2 (fun h => ?_) (fun h => ?_))))))))))))))))
 ·refine za rfl (zl rfl (za rfl (zd rfl (za rfl (qu el30 rfl rfl (by omega) (by omega) (za rfl (zj sh3 rfl H.own0 rfl (za rfl (op_shr rfl rfl h2.1 (za rfl (op_and rfl rfl (za rfl (op_eqlBit rfl rfl h2.1 h2.2 (fun h => ?_) (fun h => ?_))))))))))))))
  ·refine za rfl (zK rfl rfl (za rfl (zw rfl (zb (zF (zt (z6 (⟨congrArg Value.bool ?_, H.drop0⟩))))))))
   simp_all
  refine za rfl (zK rfl rfl (za rfl (zw rfl (zb (zF (zt (z6 (⟨congrArg Value.bool ?_, H.drop0⟩))))))))
  simp_all
 refine za rfl (zl rfl (zg rfl (zg rfl (zg rfl (zg rfl (zg rfl (zg rfl (za rfl (zZ rfl (za rfl (zw rfl (zb (zF (zt ?_))))))))))))))
 refine z6 (⟨congrArg Value.bool ?_, H.drop0⟩)
 simp_all
end Go.Proofs.YtdejleegamcioaaGreat
namespace Go.Proofs.YtdejleegamcioaaGreat
open Go Go.M
theorem el24 : elemF Tryz.prog 24 = some (true, 0, 2) := by kernel_rfl
theorem fb42 : yw Tryz.f42 (Tryz.f42.body.getD .skip) 3 = true := by kernel_rfl
theorem fc59 : yk Tryz.prog 59 = true := by kernel_rfl
theorem sh30 : z1 Tryz.prog 30 = some (some 2) := by kernel_rfl
theorem sz30 : yR Tryz.prog 30 = some 2 := by kernel_rfl
theorem un24 : Tryz.prog.underlying 24 = some (.slice 30) := by kernel_rfl
theorem zf30 : xQ Tryz.prog 30 = some [.int .i64 0, .int .i64 0] := by kernel_rfl
def y7 (x bad : Int) : Nat → List (Int × Int) → Bool
 | _, [] => false
 | i, j :: r => (bit bad i && (bit x j.1.toNat && bit x j.2.toNat)) || y7 x bad (i + 1) r
def joinB (j : Int × Int) : Prop := (0 ≤ j.1 ∧ j.1 ≤ 15) ∧ (0 ≤ j.2 ∧ j.2 ≤ 15)
set_option maxHeartbeats 4000000 in
set_option maxRecDepth 10000 in
theorem needs_ok {I : zJ} (hI : Plain I) {s : St} (hf : Fine s) {x bad : Int} {v : Value} {js : List (Int × Int)} (hl : Sl s 30 2 v (js.map jc)) (hj : ∀ j ∈ js, joinB j) (hlen : js.length ≤ 16) (hroom : s.next + 40 ≤ zh) :
  ∃ v' s', yE Tryz.prog I 42 #[.int .i64 x, v, .int .i64 bad] s v' s' ∧ (v' = .bool (y7 x bad 0 js) ∧ HL [] s s' [] 40) := by
 have H := hf.hl
 obtain ⟨a, len, cap, rfl, hn⟩ := hl.isSlice
 rw [List.length_map] at hn
 subst hn
 refine zY 3 (hI 42 (by decide) (by decide) (by decide) (by decide)) Tryz.func42 rfl fb42 rfl ?_
 refine zc (za rfl (zk (zb (zq (zc (za rfl (zp rfl (za rfl (yf un24 rfl rfl rfl (za rfl (xV (zb (zI (yP (fun k F s1 => ∃ (G : FF) (i : Nat), F = lay G [(0, .int .i64 x), (2, .int .i64 bad), (9, .slice a js.length cap), (10, .int .i64 (js.length : Int)), (11, .int .i64 (i : Int))] ∧ HL [] s s1 [] (2 * i) ∧ i ≤ js.length ∧ k = js.length - i ∧ y7 x bad 0 js = y7 x bad i (js.drop i)) ?_ js.length _ _ ?_))))))))))))))
 rotate_left
 ·exact ⟨_, 0, yd ⟨rfl, rfl, rfl, rfl, rfl, trivial⟩, H, by omega, by omega, rfl⟩
 rintro k F s1 ⟨G, i, rfl, H, hi, rfl, hn⟩
 refine zc (za rfl (yq rfl rfl (fun h => ?_) (fun h => ?_)))
 ·refine zb (zq (zE rfl (zA (zi (zq (zI (zc (za rfl (zd rfl ?_)))))))))
  have hjm : joinB (js.getD i (0, 0)) := hj _ (yu (by omega))
  obtain ⟨b, off, c, rfl, hg, hb, hc⟩ := (hl.kept H).atJ rfl (show i < js.length by omega)
  refine za rfl (zM el24 rfl rfl (by unfold zh at *; omega) (by unfold zh at *; omega) (za rfl (z8 sh30 rfl hg hc (za rfl (zC H zf30 (by unfold zh at *; omega) (fun b8 s1 H => ?_))))))
  refine za rfl (zm rfl (za rfl (zD (vs := [.int _ _, .int _ _]) H sz30 rfl rfl rfl rfl rfl (by unfold zh at *; omega) (fun s2 H => ?_))))
  refine zb (zc (za rfl (zd rfl (za rfl (zd rfl (za rfl (op_shr rfl rfl (by unfold zh at *; omega) (za rfl (op_and rfl rfl (za rfl (op_eqlBit rfl rfl (by omega) (by omega) (fun h => ?_) (fun h => ?_))))))))))))
  ·refine za rfl (zl rfl (za rfl (zd rfl (za rfl (z8 sh30 rfl H.own0 rfl (za rfl (zo rfl fc59 rfl ?_)))))))
   obtain ⟨_, s9, hr, rfl, Hc⟩ := both_ok (x := x) (j := js.getD i (0, 0)) hI H.fine (by have := H.most; unfold zh at *; omega) ⟨hjm.1.1, by have := hjm.1.2; omega⟩ ⟨hjm.2.1, by have := hjm.2.2; omega⟩
   refine ⟨_, _, hr, ?_⟩
   clear hr
   have H := H.call0 Hc
   clear Hc
   cases hb2 : (bit x (js.getD i (0, 0)).1.toNat && bit x (js.getD i (0, 0)).2.toNat)
   ·refine za rfl (zK rfl rfl (zb (zx rfl (zA (zP (zi (zv (za rfl (zT rfl rfl (by unfold zQ; (unfold zh at *; omega)) (za rfl (zd rfl (zb (zN (⟨js.length - (i + 1), by omega, _, i + 1, yd ⟨rfl, rfl, rfl, rfl, rfl, trivial⟩, H.drop0.up (by omega), by omega, rfl, ?_⟩))))))))))))))
    rw [hn, yW (0, 0) (show i < js.length by omega), y7]
    simp_all
   refine za rfl (zK rfl rfl (zb (zE rfl (zc (za rfl (zk (zb (zF (yz (zV (qC (yz (zV ?_)))))))))))))
   refine zt (z6 ?_)
   first
    | (refine ⟨congrArg Value.bool ?_, H.drop0.up (by omega)⟩; rw [hn, yW (0, 0) (show i < js.length by omega), y7]; simp_all; done)
    | (refine ⟨congrArg Value.bool ?_, H.up (by omega)⟩; rw [hn, List.drop_eq_nil_of_le (by omega)]; rfl)
  refine za rfl (zl rfl (zg rfl (zg rfl (zg rfl (za rfl (zZ rfl (zb (zx rfl (zA (zP (zi (zv (za rfl (zT rfl rfl (by unfold zQ; (unfold zh at *; omega)) ?_))))))))))))))
  refine za rfl (zd rfl (zb (zN (⟨js.length - (i + 1), by omega, _, i + 1, yd ⟨rfl, rfl, rfl, rfl, rfl, trivial⟩, H.drop0.up (by omega), by omega, rfl, ?_⟩))))
  rw [hn, yW (0, 0) (show i < js.length by omega), y7]
  simp_all
 refine zb (zq (zx rfl (yn (zX (yh (ye (zi (zc (za rfl (zk (zb (zF ?_))))))))))))
 refine zt (z6 ?_)
 first
  | (refine ⟨congrArg Value.bool ?_, H.drop0.up (by omega)⟩; rw [hn, yW (0, 0) (show i < js.length by omega), y7]; simp_all; done)
  | (refine ⟨congrArg Value.bool ?_, H.up (by omega)⟩; rw [hn, List.drop_eq_nil_of_le (by omega)]; rfl)
end Go.Proofs.YtdejleegamcioaaGreat
namespace Go.Proofs.YtdejleegamcioaaGreat
open Go Go.M
theorem el25 : elemF Tryz.prog 25 = some (true, 0, 10) := by kernel_rfl
theorem fb139 : yw Tryz.f139 (Tryz.f139.body.getD .skip) 2 = true := by kernel_rfl
theorem un25 : Tryz.prog.underlying 25 = some (.slice 62) := by kernel_rfl
theorem fb84 : yw Tryz.f84 (Tryz.f84.body.getD .skip) 2 = true := by kernel_rfl
theorem fc139 : yk Tryz.prog 139 = true := by kernel_rfl
theorem fc85 : yk Tryz.prog 85 = true := by kernel_rfl
theorem fb40 : yw Tryz.f40 (Tryz.f40.body.getD .skip) 4 = true := by kernel_rfl
theorem fc84 : yk Tryz.prog 84 = true := by kernel_rfl
def findI (p : Sp → Bool) : Nat → List Sp → Int
 | _, [] => -1
 | i, x :: r => if p x then (i : Int) else findI p (i + 1) r
theorem findI_any (p : Sp → Bool) : ∀ (l : List Sp) (i : Nat), decide (0 ≤ findI p i l) = l.any p
 | [], i => by simp [findI]
 | x :: l, i => by
  simp only [findI, List.any_cons]
  split
  ·next h => simp [h]
  ·next h => rw [findI_any p l (i + 1)]; simp [h]
def xI : List (Int × Int) → Bool
 | [] => true
 | j :: r => !(decide (j.1 < 0) || decide (16 ≤ j.1) || decide (j.2 < 0) || decide (16 ≤ j.2) || decide (j.1 = j.2)) && xI r
def x0 (w : Int) (js : List (Int × Int)) (bad : Int) (l : List Sp) : Int :=
 if 4096 < l.length ∨ 16 < js.length then 4
 else if w ≤ 0 ∨ 65536 ≤ w ∨ bad < 0 ∨ (2 : Int) ^ js.length ≤ bad then 1
 else if l.any (fun x => !y0 x.w x.p) then 1
 else if xI js then 0 else 1
theorem two_pow_le {n : Nat} (h : n ≤ 16) : (1 : Int) ≤ 2 ^ n ∧ (2 : Int) ^ n ≤ 65536 := by
 have h1 : (2 : Nat) ^ n ≤ 2 ^ 16 := Nat.pow_le_pow_right (by decide) h
 have h2 : 1 ≤ (2 : Nat) ^ n := Nat.one_le_two_pow
 have e : ((2 : Int) ^ n) = (((2 : Nat) ^ n : Nat) : Int) := by simp
 rw [e]
 have : (2 : Nat) ^ 16 = 65536 := by decide
 omega
set_option maxHeartbeats 4000000 in
set_option maxRecDepth 10000 in
theorem indexFunc_ok {I : zJ} (hI : Plain I) {s : St} (hf : Fine s) {v : Value} {l : List Sp} (hl : Sl s 62 10 v (l.map Sp.cells)) {n K : Nat} {fa fb : Array Value} {p : Sp → Bool} (hfn : yk Tryz.prog n = true)
  (hp : ∀ s1 m x, x ∈ l → HL [] s s1 [] m → s1.next + K ≤ zh → ∃ v' s2, yE Tryz.prog I n ⟨fa.toList ++ [.agg ⟨x.cells⟩] ++ fb.toList⟩ s1 v' s2 ∧ (v' = .bool (p x) ∧ HL [] s1 s2 [] K)) (hlen : l.length ≤ 4096) (hroom : s.next + K * l.length ≤ zh) :
  ∃ v' s', yE Tryz.prog I 139 #[v, .func (.func n) fa fb] s v' s' ∧ (v' = .int .i64 (findI p 0 l) ∧ HL [] s s' [] (K * l.length)) := by
 have H := hf.hl
 obtain ⟨a, len, cap, rfl, hn⟩ := hl.isSlice
 rw [List.length_map] at hn
 subst hn
 refine zY 2 (hI 139 (by decide) (by decide) (by decide) (by decide)) Tryz.func139 rfl fb139 rfl ?_
 refine zc (za rfl (zk (zb (zq (zc (za rfl (zp rfl (za rfl (yf un25 rfl rfl rfl (za rfl (xV (zb (zI (yP (fun k F s1 => ∃ (G : FF) (i : Nat), F = lay G [(0, .slice a l.length cap), (1, .func (.func n) fa fb), (7, .int .i64 (l.length : Int)), (8, .int .i64 (i : Int))] ∧ HL [] s s1 [] (K * i) ∧ i ≤ l.length ∧ k = l.length - i ∧ findI p 0 l = findI p i (l.drop i)) ?_ l.length _ _ ?_))))))))))))))
 rotate_left
 ·exact ⟨_, 0, yd ⟨rfl, rfl, rfl, rfl, trivial⟩, H, by omega, by omega, rfl⟩
 rintro k F s1 ⟨G, i, rfl, H, hi, rfl, hn⟩
 refine zc (za rfl (yq rfl rfl (fun h => ?_) (fun h => ?_)))
 ·refine zb (zq (zE rfl (zA (zi (zq (zI (zc (za rfl (zd rfl (za rfl (zm rfl (zb (zc ?_)))))))))))))
  refine za rfl (op_moveF rfl (za rfl (zp rfl (za rfl (zd rfl ?_)))))
  obtain ⟨b, off, c, rfl, hg, hb, hc⟩ := (hl.kept H).atS rfl (show i < l.length by omega)
  refine za rfl (zM el25 rfl rfl (by unfold zh at *; omega) (by unfold zh at *; omega) (za rfl (z8 sh62 rfl hg hc (za rfl (zo rfl hfn rfl ?_)))))
  have hKi : K * i + K ≤ K * l.length := by rw [← Nat.mul_succ]; exact Nat.mul_le_mul_left _ (by omega)
  obtain ⟨_, s9, hr, rfl, Hc⟩ := hp _ _ (l.getD i default) (yu (by omega)) H (by have := H.most; omega)
  refine ⟨_, _, hr, ?_⟩
  clear hr
  have H := H.call0 Hc
  clear Hc
  cases hb2 : p (l.getD i default)
  ·refine zb (zx rfl (zA (zP (zi (zv (za rfl (zT rfl rfl (by unfold zQ; (unfold zh at *; omega)) (za rfl (zd rfl (zb (zN (⟨l.length - (i + 1), by omega, _, i + 1, yd ⟨rfl, rfl, rfl, rfl, trivial⟩, H.up (by rw [Nat.mul_add]; omega), by omega, rfl, ?_⟩))))))))))))
   rw [hn, yW default (show i < l.length by omega), findI]
   simp_all
  refine zb (zE rfl (zc (za rfl (zd rfl (za rfl (zm rfl (zb (zF (yz (zV (qC (yz (zV ?_)))))))))))))
  refine zt (z6 ?_)
  first
   | (refine ⟨congrArg (Value.int .i64) ?_, H.up hKi⟩; rw [hn, yW default (show i < l.length by omega), findI, if_pos hb2]; done)
   | (refine ⟨congrArg (Value.int .i64) ?_, H.up (Nat.mul_le_mul_left _ hi)⟩; rw [hn, List.drop_eq_nil_of_le (by omega)]; rfl)
 refine zb (zq (zx rfl (yn (zX (yh (ye (zi (zc (za rfl (zk (zb (zF ?_))))))))))))
 refine zt (z6 ?_)
 first
  | (refine ⟨congrArg (Value.int .i64) ?_, H.up hKi⟩; rw [hn, yW default (show i < l.length by omega), findI, if_pos hb2]; done)
  | (refine ⟨congrArg (Value.int .i64) ?_, H.up (Nat.mul_le_mul_left _ hi)⟩; rw [hn, List.drop_eq_nil_of_le (by omega)]; rfl)
set_option maxHeartbeats 4000000 in
set_option maxRecDepth 10000 in
theorem containsFunc_ok {I : zJ} (hI : Plain I) {s : St} (hf : Fine s) {v : Value} {l : List Sp} (hl : Sl s 62 10 v (l.map Sp.cells)) {n K : Nat} {fa fb : Array Value} {p : Sp → Bool} (hfn : yk Tryz.prog n = true)
  (hp : ∀ s1 m x, x ∈ l → HL [] s s1 [] m → s1.next + K ≤ zh → ∃ v' s2, yE Tryz.prog I n ⟨fa.toList ++ [.agg ⟨x.cells⟩] ++ fb.toList⟩ s1 v' s2 ∧ (v' = .bool (p x) ∧ HL [] s1 s2 [] K)) (hlen : l.length ≤ 4096) (hroom : s.next + K * l.length ≤ zh) :
  ∃ v' s', yE Tryz.prog I 84 #[v, .func (.func n) fa fb] s v' s' ∧ (v' = .bool (l.any p) ∧ HL [] s s' [] (K * l.length)) := by
 have H := hf.hl
 refine zY 2 (hI 84 (by decide) (by decide) (by decide) (by decide)) Tryz.func84 rfl fb84 rfl ?_
 refine zc (za rfl (zk (zb (zc (za rfl (xu (za rfl (op_moveF rfl (za rfl (zo rfl fc139 rfl ?_))))))))))
 obtain ⟨_, s9, hr, rfl, Hc⟩ := indexFunc_ok (p := p) hI H.fine hl hfn hp hlen (by have := H.most; omega)
 refine ⟨_, _, hr, ?_⟩
 clear hr
 have H := H.call0 Hc
 clear Hc
 refine za rfl (op_geq' rfl rfl (za rfl (zw rfl (zb (zF (zt (z6 ?_)))))))
 exact ⟨congrArg Value.bool (findI_any p l 0), H.up (by omega)⟩
theorem noSplit_all {I : zJ} (hI : Plain I) {s : St} {l : List Sp} : ∀ s1 m x, x ∈ l → HL [] s s1 [] m → s1.next + 2 ≤ zh →
  ∃ v' s2, yE Tryz.prog I 85 ⟨(#[] : Array Value).toList ++ [.agg ⟨x.cells⟩] ++ (#[] : Array Value).toList⟩ s1 v' s2 ∧ (v' = .bool ((fun x => !y0 x.w x.p) x) ∧ HL [] s1 s2 [] 2) :=
 fun s1 m x _ H1 hr => noSplit_ok (x := x) hI H1.fine hr
theorem anyBad_ok {I : zJ} (hI : Plain I) {s : St} (hf : Fine s) {v : Value} {l : List Sp} (hl : Sl s 62 10 v (l.map Sp.cells)) (hlen : l.length ≤ 4096) (hroom : s.next + 8192 ≤ zh) :
  ∃ v' s', yE Tryz.prog I 84 #[v, .func (.func 85) #[] #[]] s v' s' ∧ (v' = .bool (l.any fun x => !y0 x.w x.p) ∧ HL [] s s' [] 8192) := by
 obtain ⟨v', s', h1, h2, h3⟩ := containsFunc_ok (fa := #[]) (fb := #[]) hI hf hl fc85 (noSplit_all hI) hlen (by omega)
 exact ⟨v', s', h1, h2, h3.up (by omega)⟩
set_option maxHeartbeats 4000000 in
set_option maxRecDepth 10000 in
theorem valid_args_ok {I : zJ} (hI : Plain I) {s : St} (hf : Fine s) {w bad : Int} {vj vm : Value} {js : List (Int × Int)} {l : List Sp} (hj : Sl s 30 2 vj (js.map jc)) (hl : Sl s 62 10 vm (l.map Sp.cells)) (hroom : s.next + 10000 ≤ zh) :
  ∃ v' s', yE Tryz.prog I 40 #[.int .i64 w, vj, .int .i64 bad, vm] s v' s' ∧ (v' = .int .i64 (x0 w js bad l) ∧ HL [] s s' [] 10000) := by
 have H := hf.hl
 obtain ⟨a, len, cap, rfl, hn⟩ := hj.isSlice
 rw [List.length_map] at hn
 subst hn
 obtain ⟨a2, len2, cap2, rfl, hn2⟩ := hl.isSlice
 rw [List.length_map] at hn2
 subst hn2
 refine zY 4 (hI 40 (by decide) (by decide) (by decide) (by decide)) Tryz.func40 rfl fb40 rfl ?_
 refine zc (za rfl (zk (zb (zq (zI (zc (za rfl (zp rfl (za rfl (yf un25 rfl rfl rfl (za rfl (qc rfl rfl (fun h => ?_) (fun h => ?_)))))))))))))
 ·refine za rfl (zl rfl (zg rfl (zg rfl (zg rfl (za rfl (yi rfl (za rfl (zw rfl (zb (zE rfl (zc (za rfl (zk (zb (zF ?_)))))))))))))))
  refine yz (zV (zt (z6 (⟨congrArg (Value.int .i64) ?_, H.up (by omega)⟩))))
  unfold x0
  rw [if_pos (by omega)]
 refine za rfl (zl rfl (za rfl (zp rfl (za rfl (yf un24 rfl rfl rfl (za rfl (qc rfl rfl (fun h => ?_) (fun h => ?_))))))))
 ·refine za rfl (zW rfl rfl (za rfl (zw rfl (zb (zE rfl (zc (za rfl (zk (zb (zF (yz (zV (zt (z6 ?_))))))))))))))
  refine ⟨congrArg (Value.int .i64) ?_, H.up (by omega)⟩
  unfold x0
  rw [if_pos (by omega)]
 refine za rfl (zW rfl rfl (za rfl (zw rfl (zb (zx rfl (zc (za rfl (zd rfl (za rfl (op_leq rfl rfl (fun h => ?_) (fun h => ?_)))))))))))
 ·refine za rfl (zl rfl (zg rfl (zg rfl (za rfl (yi rfl (za rfl (zl rfl (zg rfl (zg rfl (za rfl (yi rfl (za rfl (zl rfl (zg rfl (zg rfl (zg rfl ?_))))))))))))))))
  refine zg rfl (zg rfl (za rfl (yi rfl (za rfl (zw rfl (zb (zE rfl (zc (za rfl (zk (zb (zF (yz (zV ?_))))))))))))))
  refine zt (z6 (⟨congrArg (Value.int .i64) ?_, H.up (by omega)⟩))
  try simp only [Int.toNat_natCast, Int.one_mul] at h
  unfold x0
  rw [if_neg (by omega), if_pos (by omega)]
 refine za rfl (zl rfl (za rfl (zd rfl (za rfl (qd rfl rfl (fun h => ?_) (fun h => ?_))))))
 ·refine za rfl (zW rfl rfl (za rfl (zl rfl (zg rfl (zg rfl (za rfl (yi rfl (za rfl (zl rfl (zg rfl (zg rfl (zg rfl (zg rfl (zg rfl (za rfl (yi rfl ?_))))))))))))))))
  refine za rfl (zw rfl (zb (zE rfl (zc (za rfl (zk (zb (zF (yz (zV (zt (z6 (⟨congrArg (Value.int .i64) ?_, H.up (by omega)⟩)))))))))))))
  try simp only [Int.toNat_natCast, Int.one_mul] at h
  unfold x0
  rw [if_neg (by omega), if_pos (by omega)]
 refine za rfl (zW rfl rfl (za rfl (zl rfl (za rfl (zd rfl (za rfl (yq rfl rfl (fun h => ?_) (fun h => ?_))))))))
 ·refine za rfl (zW rfl rfl (za rfl (zl rfl (zg rfl (zg rfl (zg rfl (zg rfl (zg rfl (za rfl (yi rfl (za rfl (zw rfl (zb (zE rfl (zc ?_)))))))))))))))
  refine za rfl (zk (zb (zF (yz (zV (zt (z6 (⟨congrArg (Value.int .i64) ?_, H.up (by omega)⟩))))))))
  try simp only [Int.toNat_natCast, Int.one_mul] at h
  unfold x0
  rw [if_neg (by omega), if_pos (by omega)]
 refine za rfl (zW rfl rfl (za rfl (zl rfl ?_)))
 have hp2 := two_pow_le (n := js.length) (by omega)
 refine za rfl (zd rfl (za rfl (zp rfl (za rfl (yf un24 rfl rfl rfl (za rfl (op_shl rfl rfl (by omega) (by omega) (by unfold zQ; simp only [Int.toNat_natCast]; omega) (za rfl (qd rfl rfl (fun h => ?_) (fun h => ?_))))))))))
 ·refine za rfl (zW rfl rfl (za rfl (zw rfl (zb (zE rfl (zc (za rfl (zk (zb (zF (yz (zV (zt (z6 ?_))))))))))))))
  refine ⟨congrArg (Value.int .i64) ?_, H.up (by omega)⟩
  try simp only [Int.toNat_natCast, Int.one_mul] at h
  unfold x0
  rw [if_neg (by omega), if_pos (by omega)]
 refine za rfl (zW rfl rfl (za rfl (zw rfl (zb (zx rfl (zc (za rfl (zp rfl (za rfl (zo rfl fc84 rfl ?_))))))))))
 obtain ⟨_, s9, hr, rfl, Hc⟩ := anyBad_ok hI H.fine (hl.kept H) (by omega) (by have := H.most; omega)
 refine ⟨_, _, hr, ?_⟩
 clear hr
 have H := H.call0 Hc
 clear Hc
 have H := H.up (show 0 + 8192 ≤ 8192 by omega)
 cases hb2 : l.any (fun x => !y0 x.w x.p)
 ·refine za rfl (zw rfl (zb (zx rfl (zA (zP (zi (zq ?_)))))))
  simp only [Int.toNat_natCast, Int.one_mul] at h
  refine zc (za rfl (zp rfl (za rfl (yf un24 rfl rfl rfl (za rfl (xV (zb (zI (yP (fun k F s1 => ∃ (G : FF) (i : Nat), F = lay G [(41, .slice a js.length cap), (42, .int .i64 (js.length : Int)), (43, .int .i64 (i : Int))] ∧ HL [] s s1 [] (8192 + i) ∧ i ≤ js.length ∧ k = js.length - i ∧ xI js = xI (js.drop i)) ?_ js.length _ _ ?_)))))))))
  rotate_left
  ·exact ⟨_, 0, yd ⟨rfl, rfl, rfl, trivial⟩, H, by omega, by omega, rfl⟩
  rintro k F s1 ⟨G, i, rfl, H, hi, rfl, hn⟩
  refine zc (za rfl (yq rfl rfl (fun h => ?_) (fun h => ?_)))
  ·refine zb (zq (zE rfl (zA (zi (zq (zI (zc ?_)))))))
   obtain ⟨b, off, c, rfl, hg, hb, hc⟩ := (hj.kept H).atJ rfl (show i < js.length by omega)
   refine za rfl (zM el24 rfl rfl (by unfold zh at *; omega) (by unfold zh at *; omega) (za rfl (z8 sh30 rfl hg hc (za rfl (zC H zf30 (by unfold zh at *; omega) (fun b10 s1 H => ?_))))))
   refine za rfl (zD (vs := [.int _ _, .int _ _]) H sz30 rfl rfl rfl rfl rfl (by unfold zh at *; omega) (fun s2 H => ?_))
   refine zb (zc (za rfl (qu el30 rfl rfl (by unfold zh at *; omega) (by unfold zh at *; omega) (za rfl (zj sh3 rfl H.own0 rfl (za rfl (yq rfl rfl (fun h => ?_) (fun h => ?_))))))))
   ·refine za rfl (zl rfl (zg rfl (zg rfl (zg rfl (za rfl (yi rfl (za rfl (zl rfl (zg rfl (zg rfl (zg rfl (za rfl (yi rfl (za rfl (zl rfl (zg rfl ?_))))))))))))))))
    refine zg rfl (zg rfl (za rfl (yi rfl (za rfl (zl rfl (zg rfl (zg rfl (zg rfl (zg rfl (zg rfl (za rfl (yi rfl (zb (zE rfl ?_))))))))))))))
    refine zc (za rfl (zk (zb (zF (yz (zV (qC (yz (zV (zt (z6 (⟨congrArg (Value.int .i64) ?_, H.drop0.up (by omega)⟩))))))))))))
    unfold x0
    rw [if_neg (by omega), if_neg (by omega), if_neg (by simp [hb2]), if_neg]
    rw [hn, yW (0, 0) (show i < js.length by omega), xI]
    simp only [Bool.and_eq_true, Bool.not_eq_true', Bool.or_eq_false_iff, decide_eq_false_iff_not]
    omega
   refine za rfl (zl rfl (za rfl (qu el30 rfl rfl (by unfold zh at *; omega) (by unfold zh at *; omega) (za rfl (zj sh3 rfl H.own0 rfl (za rfl (qd rfl rfl (fun h => ?_) (fun h => ?_))))))))
   ·refine za rfl (zW rfl rfl (za rfl (zl rfl (zg rfl (zg rfl (zg rfl (za rfl (yi rfl (za rfl (zl rfl (zg rfl (zg rfl (zg rfl (za rfl (yi rfl (za rfl (zl rfl ?_)))))))))))))))))
    refine zg rfl (zg rfl (zg rfl (zg rfl (zg rfl (za rfl (yi rfl (zb (zE rfl (zc (za rfl (zk (zb (zF ?_)))))))))))))
    refine yz (zV (qC (yz (zV (zt (z6 (⟨congrArg (Value.int .i64) ?_, H.drop0.up (by omega)⟩)))))))
    unfold x0
    rw [if_neg (by omega), if_neg (by omega), if_neg (by simp [hb2]), if_neg]
    rw [hn, yW (0, 0) (show i < js.length by omega), xI]
    simp only [Bool.and_eq_true, Bool.not_eq_true', Bool.or_eq_false_iff, decide_eq_false_iff_not]
    omega
   refine za rfl (zW rfl rfl (za rfl (zl rfl (za rfl (qu el30 rfl rfl (by unfold zh at *; omega) (by unfold zh at *; omega) (za rfl (zj sh3 rfl H.own0 rfl (za rfl (yq rfl rfl (fun h => ?_) (fun h => ?_))))))))))
   ·refine za rfl (zW rfl rfl (za rfl (zl rfl (zg rfl (zg rfl (zg rfl (za rfl (yi rfl (za rfl (zl rfl (zg rfl (zg rfl (zg rfl (zg rfl (zg rfl ?_)))))))))))))))
    refine za rfl (yi rfl (zb (zE rfl (zc (za rfl (zk (zb (zF (yz (zV (qC (yz (zV ?_)))))))))))))
    refine zt (z6 (⟨congrArg (Value.int .i64) ?_, H.drop0.up (by omega)⟩))
    unfold x0
    rw [if_neg (by omega), if_neg (by omega), if_neg (by simp [hb2]), if_neg]
    rw [hn, yW (0, 0) (show i < js.length by omega), xI]
    simp only [Bool.and_eq_true, Bool.not_eq_true', Bool.or_eq_false_iff, decide_eq_false_iff_not]
    omega
   refine za rfl (zW rfl rfl (za rfl (zl rfl (za rfl (qu el30 rfl rfl (by unfold zh at *; omega) (by unfold zh at *; omega) (za rfl (zj sh3 rfl H.own0 rfl (za rfl (qd rfl rfl (fun h => ?_) (fun h => ?_))))))))))
   ·refine za rfl (zW rfl rfl (za rfl (zl rfl (zg rfl (zg rfl (zg rfl (zg rfl (zg rfl (za rfl (yi rfl (zb (zE rfl (zc (za rfl (zk ?_)))))))))))))))
    refine zb (zF (yz (zV (qC (yz (zV (zt (z6 (⟨congrArg (Value.int .i64) ?_, H.drop0.up (by omega)⟩)))))))))
    unfold x0
    rw [if_neg (by omega), if_neg (by omega), if_neg (by simp [hb2]), if_neg]
    rw [hn, yW (0, 0) (show i < js.length by omega), xI]
    simp only [Bool.and_eq_true, Bool.not_eq_true', Bool.or_eq_false_iff, decide_eq_false_iff_not]
    omega
   refine za rfl (zW rfl rfl (za rfl (zl rfl (za rfl (qu el30 rfl rfl (by unfold zh at *; omega) (by unfold zh at *; omega) (za rfl (zj sh3 rfl H.own0 rfl (za rfl (qu el30 rfl rfl (by unfold zh at *; omega) (by unfold zh at *; omega) (za rfl (zj sh3 rfl H.own0 rfl (za rfl (xf rfl rfl (fun h => ?_) (fun h => ?_))))))))))))))
   ·refine za rfl (zW rfl rfl (zb (zE rfl (zc (za rfl (zk (zb (zF (yz (zV (qC (yz (zV ?_)))))))))))))
    refine zt (z6 (⟨congrArg (Value.int .i64) ?_, H.drop0.up (by omega)⟩))
    unfold x0
    rw [if_neg (by omega), if_neg (by omega), if_neg (by simp [hb2]), if_neg]
    rw [hn, yW (0, 0) (show i < js.length by omega), xI]
    simp only [Bool.and_eq_true, Bool.not_eq_true', Bool.or_eq_false_iff, decide_eq_false_iff_not]
    omega
   refine za rfl (zW rfl rfl (zb (zx rfl (zA (zP (zi (zv (za rfl (zT rfl rfl (by unfold zQ; (unfold zh at *; omega)) (za rfl (zd rfl (zb (zN (⟨js.length - (i + 1), by omega, _, i + 1, yd ⟨rfl, rfl, rfl, trivial⟩, H.drop0.up (by omega), by omega, rfl, ?_⟩))))))))))))))
   rw [hn, yW (0, 0) (show i < js.length by omega), xI]
   simp only [Bool.and_eq_right_iff_imp, Bool.not_eq_true', Bool.or_eq_false_iff, decide_eq_false_iff_not]
   intro _
   omega
  refine zb (zq (zx rfl (yn (zX (yh (ye (zi (zc (za rfl (zk (zb (zF ?_))))))))))))
  refine zt (z6 (⟨congrArg (Value.int .i64) ?_, H.up (by omega)⟩))
  unfold x0
  rw [if_neg (by omega), if_neg (by omega), if_neg (by simp [hb2]), hn, List.drop_eq_nil_of_le (by omega)]
  rfl
 refine za rfl (zw rfl (zb (zE rfl (zc (za rfl (zk (zb (zF (yz (zV (zt (z6 (⟨congrArg (Value.int .i64) ?_, H.up (by omega)⟩)))))))))))))
 simp only [Int.toNat_natCast, Int.one_mul] at h
 unfold x0
 rw [if_neg (by omega), if_neg (by omega), if_pos hb2]
end Go.Proofs.YtdejleegamcioaaGreat
namespace Go.Proofs.YtdejleegamcioaaGreat
open Go Go.M
theorem sl24 : xG Tryz.prog 24 = some (30, 2, 16, [.int .i64 0, .int .i64 0]) := by kernel_rfl
theorem sz62 : yR Tryz.prog 62 = some 10 := by kernel_rfl
theorem zf62 : xQ Tryz.prog 62 = some [.int .i64 0, .int .i64 0, .bool false, .slice none 0 0, .bool false, .slice none 0 0, .bool false, .slice none 0 0, .bool false, .slice none 0 0] := by kernel_rfl
end Go.Proofs.YtdejleegamcioaaGreat
namespace Go.Proofs.YtdejleegamcioaaGreat
open Go Go.M
theorem un4 : Tryz.prog.underlying 4 = some (.bool) := by kernel_rfl
end Go.Proofs.YtdejleegamcioaaGreat
