/- Small functions on sets and numbers. -/
/- Copies of lists of sets; a search in them. -/
/- slices.Compact, as far as it is asked: whether it shortens. -/
/- undo.Levels.shows: what levels show. -/
import Derived.Test.YtdejleegamcioaaGreatF22
namespace Go.Proofs.YtdejleegamcioaaGreat
open Go Go.M
theorem fb200 : yw Tryz.f200 (Tryz.f200.body.getD .skip) 1 = true := by kernel_rfl
theorem fb155 : yw Tryz.f155 (Tryz.f155.body.getD .skip) 1 = true := by kernel_rfl
theorem fb146 : yw Tryz.f146 (Tryz.f146.body.getD .skip) 2 = true := by kernel_rfl
theorem fc200 : yp Tryz.prog 200 = true := by kernel_rfl
theorem fb102 : yw Tryz.f102 (Tryz.f102.body.getD .skip) 1 = true := by kernel_rfl
theorem fb104 : yw Tryz.f104 (Tryz.f104.body.getD .skip) 1 = true := by kernel_rfl
theorem fb156 : yw Tryz.f156 (Tryz.f156.body.getD .skip) 2 = true := by kernel_rfl
theorem fc102 : yp Tryz.prog 102 = true := by kernel_rfl
theorem fb101 : yw Tryz.f101 (Tryz.f101.body.getD .skip) 2 = true := by kernel_rfl
theorem fc156 : yp Tryz.prog 156 = true := by kernel_rfl
theorem fb157 : yw Tryz.f157 (Tryz.f157.body.getD .skip) 2 = true := by kernel_rfl
theorem fc104 : yp Tryz.prog 104 = true := by kernel_rfl
theorem fb103 : yw Tryz.f103 (Tryz.f103.body.getD .skip) 2 = true := by kernel_rfl
theorem fc157 : yp Tryz.prog 157 = true := by kernel_rfl
theorem fb96 : yw Tryz.f96 (Tryz.f96.body.getD .skip) 1 = true := by kernel_rfl
theorem fc146 : yp Tryz.prog 146 = true := by kernel_rfl
def Srt (l : List Int) : Prop := ∀ j, j + 1 < l.length → l.getD j 0 ≤ l.getD (j + 1) 0
def findP (p : Int → Bool) : Nat → List Int → Int
 | _, [] => -1
 | i, x :: r => if p x then (i : Int) else findP p (i + 1) r
theorem findP_any (p : Int → Bool) : ∀ (l : List Int) (i : Nat), decide (0 ≤ findP p i l) = l.any p
 | [], i => by simp [findP]
 | x :: l, i => by
  simp only [findP, List.any_cons]
  split
  ·next h => simp [h]
  ·next h => rw [findP_any p l (i + 1)]; simp [h]
def setB (x : Int) : Bool := decide (x < 1) || decide (65536 ≤ x)
def numB (x : Int) : Bool := decide (x < 0) || decide (65536 < x)
set_option maxHeartbeats 4000000 in
set_option maxRecDepth 10000 in
theorem nanA_ok {I : yb} (hI : Plain I) {s : St} {x : Int} : ∃ v s', yI Tryz.prog I 200 #[.int .i64 x] s v s' ∧ (v = .bool false ∧ s' = s) := by
 refine yc 1 (hI 200 (by decide) (by decide)) Tryz.func200 rfl fb200 rfl ?_
 refine ze (za rfl (zh (zb (ze (za rfl (zf rfl (za rfl (zf rfl (za rfl (yM rfl rfl (fun h => False.elim (by exact h rfl)) (fun h => ?_)))))))))))
 refine za rfl (zr rfl (zb (zu (zp (zQ ?_)))))
 exact ⟨rfl, rfl⟩
set_option maxHeartbeats 4000000 in
set_option maxRecDepth 10000 in
theorem nanB_ok {I : yb} (hI : Plain I) {s : St} {x : Int} : ∃ v s', yI Tryz.prog I 155 #[.int .i64 x] s v s' ∧ (v = .bool false ∧ s' = s) := by
 refine yc 1 (hI 155 (by decide) (by decide)) Tryz.func155 rfl fb155 rfl ?_
 refine ze (za rfl (zh (zb (ze (za rfl (zf rfl (za rfl (zf rfl (za rfl (yM rfl rfl (fun h => False.elim (by exact h rfl)) (fun h => ?_)))))))))))
 refine za rfl (zr rfl (zb (zu (zp (zQ ?_)))))
 exact ⟨rfl, rfl⟩
set_option maxHeartbeats 4000000 in
set_option maxRecDepth 10000 in
theorem less_ok {I : yb} (hI : Plain I) {s : St} {x y : Int} : ∃ v s', yI Tryz.prog I 146 #[.int .i64 x, .int .i64 y] s v s' ∧ (v = .bool (decide (x < y)) ∧ s' = s) := by
 refine yc 2 (hI 146 (by decide) (by decide)) Tryz.func146 rfl fb146 rfl ?_
 refine ze (za rfl (zh (zb (ze (za rfl (zf rfl (za rfl (zy rfl fc200 rfl ?_))))))))
 obtain ⟨_, s9, hr, rfl, hs9⟩ := nanA_ok (s := s) hI
 rw [hs9] at hr
 refine ⟨_, _, hr, ?_⟩
 clear hr
 refine za rfl (zi rfl (zc rfl (zc rfl (zc rfl (za rfl (zY rfl (za rfl (zi rfl (za rfl (zf rfl (za rfl (zf rfl (za rfl (yg rfl rfl (fun h => ?_) (fun h => ?_)))))))))))))))
 ·refine za rfl (zw rfl rfl (za rfl (zr rfl (zb (zu (zp (zQ (⟨congrArg Value.bool ?_, rfl⟩))))))))
  symm
  (rw [decide_eq_true_eq]; exact h)
 refine za rfl (zw rfl rfl (za rfl (zr rfl (zb (zu (zp (zQ (⟨congrArg Value.bool ?_, rfl⟩))))))))
 symm
 (rw [decide_eq_false_iff_not]; exact h)
set_option maxHeartbeats 4000000 in
set_option maxRecDepth 10000 in
theorem setF_ok {I : yb} (hI : Plain I) {s : St} {x : Int} : ∃ v s', yI Tryz.prog I 102 #[.int .i64 x] s v s' ∧ (v = .bool (setB x) ∧ s' = s) := by
 refine yc 1 (hI 102 (by decide) (by decide)) Tryz.func102 rfl fb102 rfl ?_
 refine ze (za rfl (zh (zb (ze (za rfl (zf rfl (za rfl (yg rfl rfl (fun h => ?_) (fun h => ?_)))))))))
 ·refine za rfl (zi rfl (zc rfl (zc rfl (za rfl (zC rfl (za rfl (zr rfl (zb (zu (zp (zQ (⟨congrArg Value.bool ?_, rfl⟩))))))))))))
  unfold setB
  simp [*]
  try omega
 refine za rfl (zi rfl (za rfl (zf rfl (za rfl (op_geq rfl rfl (fun h => ?_) (fun h => ?_))))))
 ·refine za rfl (zw rfl rfl (za rfl (zr rfl (zb (zu (zp (zQ (⟨congrArg Value.bool ?_, rfl⟩))))))))
  unfold setB
  simp [*]
  try omega
 refine za rfl (zw rfl rfl (za rfl (zr rfl (zb (zu (zp (zQ (⟨congrArg Value.bool ?_, rfl⟩))))))))
 unfold setB
 simp [*]
 try omega
set_option maxHeartbeats 4000000 in
set_option maxRecDepth 10000 in
theorem numF_ok {I : yb} (hI : Plain I) {s : St} {x : Int} : ∃ v s', yI Tryz.prog I 104 #[.int .i64 x] s v s' ∧ (v = .bool (numB x) ∧ s' = s) := by
 refine yc 1 (hI 104 (by decide) (by decide)) Tryz.func104 rfl fb104 rfl ?_
 refine ze (za rfl (zh (zb (ze (za rfl (zf rfl (za rfl (yg rfl rfl (fun h => ?_) (fun h => ?_)))))))))
 ·refine za rfl (zi rfl (zc rfl (zc rfl (za rfl (zC rfl (za rfl (zr rfl (zb (zu (zp (zQ (⟨congrArg Value.bool ?_, rfl⟩))))))))))))
  unfold numB
  simp [*]
  try omega
 refine za rfl (zi rfl (za rfl (zf rfl (za rfl (yz rfl rfl (fun h => ?_) (fun h => ?_))))))
 ·refine za rfl (zw rfl rfl (za rfl (zr rfl (zb (zu (zp (zQ (⟨congrArg Value.bool ?_, rfl⟩))))))))
  unfold numB
  simp [*]
  try omega
 refine za rfl (zw rfl rfl (za rfl (zr rfl (zb (zu (zp (zQ (⟨congrArg Value.bool ?_, rfl⟩))))))))
 unfold numB
 simp [*]
 try omega
set_option maxHeartbeats 4000000 in
set_option maxRecDepth 10000 in
theorem setIndex_ok {I : yb} (hI : Plain I) {s : St} {v : Value} {l : List Int} (hl : Sl s 23 1 v (l.map dc)) (hlen : l.length ≤ 1000000) : ∃ v' s', yI Tryz.prog I 156 #[v, .func (.func 102) #[] #[]] s v' s' ∧ (v' = .int .i64 (findP setB 0 l) ∧ s' = s) := by
 obtain ⟨a, len, cap, rfl, hn⟩ := hl.isSlice
 rw [List.length_map] at hn
 subst hn
 refine yc 2 (hI 156 (by decide) (by decide)) Tryz.func156 rfl fb156 rfl ?_
 refine ze (za rfl (zh (zb (zx (ze (za rfl (zm rfl (za rfl (z7 un31 rfl rfl rfl (za rfl (xL (zb (zL (yB (fun k F s1 => ∃ (G : FF) (i : Nat), F = lay G [(0, .slice a l.length cap), (1, .func (.func 102) #[] #[]), (7, .int .i64 (l.length : Int)), (8, .int .i64 (i : Int))] ∧ s1 = s ∧ i ≤ l.length ∧ k = l.length - i ∧ findP setB 0 l = findP setB i (l.drop i)) ?_ l.length _ _ ?_))))))))))))))
 rotate_left
 ·exact ⟨_, 0, yf ⟨rfl, rfl, rfl, rfl, trivial⟩, rfl, by omega, by omega, rfl⟩
 rintro k F s1 ⟨G, i, rfl, rfl, hi, rfl, hn⟩
 refine ze (za rfl (yg rfl rfl (fun h => ?_) (fun h => ?_)))
 ·refine zb (zx (zq rfl (zD (zj (zx (zL (ze (za rfl (zf rfl (za rfl (zk rfl (zb (ze ?_)))))))))))))
  refine za rfl (xh rfl (za rfl (zm rfl (za rfl (zf rfl ?_)))))
  obtain ⟨b, off, c, rfl, hg, hb, hc⟩ := hl.atD (i := (i : Int)) (k := i) rfl (by omega)
  refine za rfl (zB qL rfl rfl (by omega) (by omega) (za rfl (zl yx rfl hg hc (za rfl (zy rfl fc102 rfl ?_)))))
  obtain ⟨_, _, hr, rfl, rfl⟩ := setF_ok (s := _) (x := l.getD i 0) hI
  refine ⟨_, _, hr, ?_⟩
  clear hr
  cases hb2 : setB (l.getD i 0)
  ·refine zb (zv rfl (zD (zP (zj (zF (za rfl (zZ rfl rfl (by unfold zS; omega) (za rfl (zf rfl (zb (zO (⟨l.length - (i + 1), by omega, _, i + 1, yf ⟨rfl, rfl, rfl, rfl, trivial⟩, rfl, by omega, rfl, ?_⟩))))))))))))
   rw [hn, yF 0 (show i < l.length by omega), findP, if_neg (by rw [hb2]; simp)]
  refine zb (zq rfl (ze (za rfl (zf rfl (za rfl (zk rfl (zb (zu (zt (zn (zJ (zt (zn ?_)))))))))))))
  refine zp (zQ (⟨congrArg (Value.int .i64) ?_, rfl⟩))
  rw [hn, yF 0 (show i < l.length by omega), findP, if_pos hb2]
 refine zb (zx (zv rfl (yi (zU (ye (z8 (zj (ze (za rfl (zh (zb (zu ?_))))))))))))
 refine zp (zQ (⟨congrArg (Value.int .i64) ?_, rfl⟩))
 rw [hn, List.drop_eq_nil_of_le (by omega)]
 rfl
set_option maxHeartbeats 4000000 in
set_option maxRecDepth 10000 in
theorem setAny_ok {I : yb} (hI : Plain I) {s : St} {v : Value} {l : List Int} (hl : Sl s 23 1 v (l.map dc)) (hlen : l.length ≤ 1000000) : ∃ v' s', yI Tryz.prog I 101 #[v, .func (.func 102) #[] #[]] s v' s' ∧ (v' = .bool (l.any setB) ∧ s' = s) := by
 refine yc 2 (hI 101 (by decide) (by decide)) Tryz.func101 rfl fb101 rfl ?_
 refine ze (za rfl (zh (zb (ze (za rfl (xz (za rfl (xh rfl (za rfl (zy rfl fc156 rfl ?_))))))))))
 obtain ⟨_, s9, hr, rfl, hs9⟩ := setIndex_ok hI hl hlen
 rw [hs9] at hr
 refine ⟨_, _, hr, ?_⟩
 clear hr
 refine za rfl (op_geq' rfl rfl (za rfl (zr rfl (zb (zu (zp (zQ ?_)))))))
 exact ⟨congrArg Value.bool (findP_any setB l 0), rfl⟩
set_option maxHeartbeats 4000000 in
set_option maxRecDepth 10000 in
theorem numIndex_ok {I : yb} (hI : Plain I) {s : St} {v : Value} {l : List Int} (hl : Sl s 3 1 v (l.map dc)) (hlen : l.length ≤ 1000000) : ∃ v' s', yI Tryz.prog I 157 #[v, .func (.func 104) #[] #[]] s v' s' ∧ (v' = .int .i64 (findP numB 0 l) ∧ s' = s) := by
 obtain ⟨a, len, cap, rfl, hn⟩ := hl.isSlice
 rw [List.length_map] at hn
 subst hn
 refine yc 2 (hI 157 (by decide) (by decide)) Tryz.func157 rfl fb157 rfl ?_
 refine ze (za rfl (zh (zb (zx (ze (za rfl (zm rfl (za rfl (z7 xE rfl rfl rfl (za rfl (xL (zb (zL (yB (fun k F s1 => ∃ (G : FF) (i : Nat), F = lay G [(0, .slice a l.length cap), (1, .func (.func 104) #[] #[]), (7, .int .i64 (l.length : Int)), (8, .int .i64 (i : Int))] ∧ s1 = s ∧ i ≤ l.length ∧ k = l.length - i ∧ findP numB 0 l = findP numB i (l.drop i)) ?_ l.length _ _ ?_))))))))))))))
 rotate_left
 ·exact ⟨_, 0, yf ⟨rfl, rfl, rfl, rfl, trivial⟩, rfl, by omega, by omega, rfl⟩
 rintro k F s1 ⟨G, i, rfl, rfl, hi, rfl, hn⟩
 refine ze (za rfl (yg rfl rfl (fun h => ?_) (fun h => ?_)))
 ·refine zb (zx (zq rfl (zD (zj (zx (zL (ze (za rfl (zf rfl (za rfl (zk rfl (zb (ze ?_)))))))))))))
  refine za rfl (xh rfl (za rfl (zm rfl (za rfl (zf rfl ?_)))))
  obtain ⟨b, off, c, rfl, hg, hb, hc⟩ := hl.atD (i := (i : Int)) (k := i) rfl (by omega)
  refine za rfl (zB xP rfl rfl (by omega) (by omega) (za rfl (zl sh3 rfl hg hc (za rfl (zy rfl fc104 rfl ?_)))))
  obtain ⟨_, _, hr, rfl, rfl⟩ := numF_ok (s := _) (x := l.getD i 0) hI
  refine ⟨_, _, hr, ?_⟩
  clear hr
  cases hb2 : numB (l.getD i 0)
  ·refine zb (zv rfl (zD (zP (zj (zF (za rfl (zZ rfl rfl (by unfold zS; omega) (za rfl (zf rfl (zb (zO (⟨l.length - (i + 1), by omega, _, i + 1, yf ⟨rfl, rfl, rfl, rfl, trivial⟩, rfl, by omega, rfl, ?_⟩))))))))))))
   rw [hn, yF 0 (show i < l.length by omega), findP, if_neg (by rw [hb2]; simp)]
  refine zb (zq rfl (ze (za rfl (zf rfl (za rfl (zk rfl (zb (zu (zt (zn (zJ (zt (zn ?_)))))))))))))
  refine zp (zQ (⟨congrArg (Value.int .i64) ?_, rfl⟩))
  rw [hn, yF 0 (show i < l.length by omega), findP, if_pos hb2]
 refine zb (zx (zv rfl (yi (zU (ye (z8 (zj (ze (za rfl (zh (zb (zu ?_))))))))))))
 refine zp (zQ (⟨congrArg (Value.int .i64) ?_, rfl⟩))
 rw [hn, List.drop_eq_nil_of_le (by omega)]
 rfl
set_option maxHeartbeats 4000000 in
set_option maxRecDepth 10000 in
theorem numAny_ok {I : yb} (hI : Plain I) {s : St} {v : Value} {l : List Int} (hl : Sl s 3 1 v (l.map dc)) (hlen : l.length ≤ 1000000) : ∃ v' s', yI Tryz.prog I 103 #[v, .func (.func 104) #[] #[]] s v' s' ∧ (v' = .bool (l.any numB) ∧ s' = s) := by
 refine yc 2 (hI 103 (by decide) (by decide)) Tryz.func103 rfl fb103 rfl ?_
 refine ze (za rfl (zh (zb (ze (za rfl (xz (za rfl (xh rfl (za rfl (zy rfl fc157 rfl ?_))))))))))
 obtain ⟨_, s9, hr, rfl, hs9⟩ := numIndex_ok hI hl hlen
 rw [hs9] at hr
 refine ⟨_, _, hr, ?_⟩
 clear hr
 refine za rfl (op_geq' rfl rfl (za rfl (zr rfl (zb (zu (zp (zQ ?_)))))))
 exact ⟨congrArg Value.bool (findP_any numB l 0), rfl⟩
set_option maxHeartbeats 4000000 in
set_option maxRecDepth 10000 in
theorem isSorted_ok {I : yb} (hI : Plain I) {s : St} {v : Value} {l : List Int} (hl : Sl s 23 1 v (l.map dc)) (hlen : l.length ≤ 1000000) (hroom : s.next ≤ zo) : ∃ v' s', yI Tryz.prog I 96 #[v] s v' s' ∧ (∃ b, v' = .bool b ∧ (b = true ↔ Srt l) ∧ s' = s) := by
 obtain ⟨a, len, cap, rfl, hn⟩ := hl.isSlice
 rw [List.length_map] at hn
 subst hn
 refine yc 1 (hI 96 (by decide) (by decide)) Tryz.func96 rfl fb96 rfl ?_
 refine ze (za rfl (zh (zb (zx (ze (za rfl (zm rfl (za rfl (z7 un31 rfl rfl rfl (za rfl (xm rfl rfl (by unfold zS; omega) (za rfl (zk rfl (zb (zL (yB (fun k F s1 => ∃ (G : FF) (m : Nat), F = lay G [(0, .slice a l.length cap), (3, .int .i64 ((m : Int) - 1))] ∧ s1 = s ∧ m ≤ l.length ∧ k = m ∧ ∀ j, m ≤ j + 1 → j + 1 < l.length → l.getD j 0 ≤ l.getD (j + 1) 0) ?_ l.length _ _ ?_))))))))))))))))
 rotate_left
 ·exact ⟨_, l.length, yf ⟨rfl, rfl, trivial⟩, rfl, by omega, rfl, (by intro j h1 h2; omega)⟩
 rintro k F s1 ⟨G, m, rfl, rfl, hmx, rfl, hs⟩
 refine zx (ze (za rfl (zf rfl (za rfl (yz rfl rfl (fun h => ?_) (fun h => ?_))))))
 ·refine zb (zq rfl (zD (zj (zx (zL (yy [⟨0, 0, .light, [8]⟩, ⟨1, 0, .light, [8]⟩, ⟨2, 3, .light, [8]⟩, ⟨3, 7, .light, [8]⟩, ⟨4, 0, .light, [3]⟩, ⟨5, 0, .light, [3]⟩, ⟨6, 32, .light, [3]⟩, ⟨7, 112, .light, [3]⟩, ⟨8, 240, .light, [3]⟩, ⟨9, 511, .whole, []⟩] (by kernel_rfl) (by kernel_rfl) ?_))))))
  obtain ⟨b1, oo1, c1, rfl, hg1, hb1, hc1⟩ := hl.atD (i := (k : Int) - 1) (k := k - 1) (by omega) (by omega)
  obtain ⟨_, _, c2, he2, hg2, hb2, hc2⟩ := hl.atD (i := (k : Int) - 1 - 1) (k := k - 2) (by omega) (by omega)
  cases he2
  refine zd rfl rfl (zm rfl ⟨rfl, (zd rfl rfl (zf rfl ⟨rfl, (zd rfl rfl (zB qL rfl rfl (by omega) (by omega) ⟨rfl, (zG rfl rfl yx rfl hg1 (Nat.lt_of_lt_of_le hb1 hroom) hc1 (zd rfl rfl (zm rfl ⟨rfl, (zd rfl rfl (zf rfl ⟨rfl, (zd rfl rfl (xm rfl rfl (by unfold zS; omega) ⟨rfl, (zd rfl rfl (zB qL rfl rfl (by omega) (by omega) ⟨rfl, (zG rfl rfl yx rfl hg2 (Nat.lt_of_lt_of_le hb1 hroom) hc2 (yn rfl rfl (zy rfl fc146 rfl ?_)))⟩))⟩))⟩))⟩)))⟩))⟩))⟩)
  obtain ⟨_, _, hr, rfl, rfl⟩ := less_ok (s := _) (x := l.getD (k - 1) 0) (y := l.getD (k - 2) 0) hI
  refine ⟨_, _, hr, ?_⟩
  clear hr
  cases hb3 : decide (l.getD (k - 1) 0 < l.getD (k - 2) 0)
  ·refine zV (zv rfl (zD (zP (zj (zF (za rfl (zf rfl (za rfl (xm rfl rfl (by unfold zS; omega) (za rfl (zk rfl (zb (zO (⟨k - 1, by omega, _, k - 1, yf ⟨rfl, (congrArg (Value.int .i64) (by omega)), trivial⟩, rfl, by omega, rfl, ?_⟩))))))))))))))
   intro j h1 h2
   have hb4 := of_decide_eq_false hb3
   by_cases hj : j + 1 = k - 1
   ·obtain rfl : j = k - 2 := by omega
    rw [show k - 2 + 1 = k - 1 by omega]
    omega
   ·exact hs j (by omega) h2
  refine zV (zq rfl (ze (za rfl (zh (zb (zu (zt (zn (zJ (zt (zn (zp ?_))))))))))))
  refine zQ (⟨false, rfl, ⟨fun h => (by cases h), fun h => ?_⟩, rfl⟩)
  have := h (k - 2) (by omega)
  have hb4 := of_decide_eq_true hb3
  rw [show k - 2 + 1 = k - 1 by omega] at this
  omega
 refine zb (zv rfl (yi (zU (ye (z8 (zj (ze (za rfl (zh (zb (zu (zp ?_))))))))))))
 refine zQ ?_
 exact ⟨true, rfl, ⟨fun _ j hj => hs j (by omega) hj, fun _ => rfl⟩, rfl⟩
end Go.Proofs.YtdejleegamcioaaGreat
namespace Go.Proofs.YtdejleegamcioaaGreat
open Go Go.M
theorem fb98 : yw Tryz.f98 (Tryz.f98.body.getD .skip) 1 = true := by kernel_rfl
theorem fb100 : yw Tryz.f100 (Tryz.f100.body.getD .skip) 2 = true := by kernel_rfl
theorem fc155 : yp Tryz.prog 155 = true := by kernel_rfl
theorem un173 : Tryz.prog.underlying 173 = some (.int .u64) := by kernel_rfl
theorem un3 : Tryz.prog.underlying 3 = some (.int .i64) := by kernel_rfl
end Go.Proofs.YtdejleegamcioaaGreat
namespace Go.M
section
variable {P : Program} {I : yb} {F : FF} {s : St} {Q : FF → St → Prop} {d : Option Tmp} {ty : TypeId} {pos : String} {af : Array Edge} {g : Option (Nat × Bool)}
theorem op_isNil {t e : TypeId} {x y : Operand} {yt : TypeId} {a : Option Addr} {n c : Nat} (hu : P.underlying t = some (.slice e)) (hx : zH F x = .slice a n c) (hy : zH F y = .slice none 0 0) (k : Q (upd F d (.bool a.isNone)) s) : OpW P I ⟨d, .binOp .eql t x y yt, ty, pos, af, g⟩ F s Q := by
 refine yj (v := .bool a.isNone) (s' := s) ?_ k
 cases a <;> simp only [zK, qn, hx, hy, eqM, hu, eqV] <;> rfl
theorem op_convertU {src dst : TypeId} {x : Operand} {kd : IntKind} {a : Int} {u : TypeDesc} (hu : P.underlying src = some u) (hd : P.underlying dst = some (.int .u64)) (hx : zH F x = .int kd a) (h0 : 0 ≤ a) (h1 : a < 18446744073709551616) (k : Q (upd F d (.int .u64 a)) s) : OpW P I ⟨d, .convert src dst x, ty, pos, af, g⟩ F s Q := by
 refine yj (v := .int .u64 a) (s' := s) ?_ k
 have hw : IntKind.u64.wrap a = a := by
  unfold IntKind.wrap
  simp only [show IntKind.u64.bits = 64 from rfl, show IntKind.u64.signed = false from rfl, Bool.false_and]
  simp
  omega
 simp only [zK, convertM, hu, hd, hx, hw]
 cases u <;> rfl
theorem op_halfU {t : TypeId} {x y : Operand} {yt : TypeId} {a : Int} (hx : zH F x = .int .u64 a) (hy : zH F y = .int .u64 1) (k : Q (upd F d (.int .u64 (a.fdiv 2))) s) : OpW P I ⟨d, .binOp .shr t x y yt, ty, pos, af, g⟩ F s Q := by
 refine yj (v := .int .u64 (a.fdiv 2)) (s' := s) ?_ k
 simp only [zK, qn, hx, hy, qs, Go.binOp, Op.shift]
 rw [if_neg (by decide)]
 rfl
end
end Go.M
namespace Go.Proofs.YtdejleegamcioaaGreat
open Go Go.M
theorem inc_getD {l : List Int} (h : Inc l) {i j : Nat} (hij : i ≤ j) (hj : j < l.length) : l.getD i 0 ≤ l.getD j 0 := by
 have e1 : l.getD i 0 = l[i] := by simp [List.getD_eq_getElem?_getD, List.getElem?_eq_getElem (show i < l.length by omega)]
 have e2 : l.getD j 0 = l[j] := by simp [List.getD_eq_getElem?_getD, List.getElem?_eq_getElem hj]
 rw [e1, e2]
 rcases Nat.lt_or_eq_of_le hij with h2 | h2
 ·exact Int.le_of_lt (List.pairwise_iff_getElem.mp h i j (by omega) hj h2)
 ·subst h2; exact Int.le_refl _
theorem ints_plain (l : List Int) : (yo l).all Go.M.plainCell = true := by
 induction l with
 | nil => rfl
 | cons x l ih => simp only [yo, List.map_cons, List.all_cons] at ih ⊢; rw [ih]; rfl
theorem Sl.elemsI {s : St} {e : TypeId} {v : Value} {l : List Int} (h : Sl s e 1 v (l.map dc)) : Elems s 1 v l.length (yo l) := by
 have := Sl.elems h dcs_len (by decide)
 rwa [List.length_map, ← ints_flat] at this
set_option maxHeartbeats 4000000 in
set_option maxRecDepth 10000 in
theorem clone_ok {I : yb} (hI : Plain I) {s : St} (hf : Fine s) {v : Value} {l : List Int} (hl : Sl s 23 1 v (l.map dc)) (hlen : l.length ≤ 1000000) (hroom : s.next + 2 ≤ zo) :
  ∃ v' s', yI Tryz.prog I 98 #[v] s v' s' ∧ (∃ (D : Hp') (so : Slc), v' = so.v ∧ HL [] s s' D 2 ∧ (so.n = 0 ∧ l = [] ∨ ∃ b cap, so = ⟨some ⟨b, 0, none⟩, l.length, cap⟩ ∧ D = [(b, .cells (yo l) 23)] ∧ l.length ≤ cap / 2)) := by
 have H := hf.hl
 obtain ⟨a, len, cap, rfl, hn⟩ := hl.isSlice
 rw [List.length_map] at hn
 subst hn
 refine yc 1 (hI 98 (by decide) (by decide)) Tryz.func98 rfl fb98 rfl ?_
 refine ze (za rfl (zh (zb (zx (ze (za rfl (zm rfl (za rfl (op_isNil un31 rfl rfl ?_)))))))))
 cases hz : a.isNone
 ·refine zb (zv rfl (zD (zj ?_)))
  by_cases hl0 : l.length ≠ 0
  ·refine ze (za rfl (yd (c := []) H sl31 rfl rfl (by omega) (fun b5 s1 H => ?_)))
   refine za rfl (zm rfl (za rfl (op_append00 H sl31 un31 rfl rfl rfl (hl.kept H).elemsI (by omega) (ints_plain l) (by simp [yo]) (by omega) (by omega) (fun b7 s7 H => ?_))))
   refine za rfl (zT rfl (zb (zu (zp (zQ (⟨_, ⟨some ⟨b7, 0, none⟩, l.length, 2 * l.length + 1⟩, rfl, H, .inr ⟨b7, _, rfl, rfl, by omega⟩⟩))))))
  refine ze (za rfl (yd (c := []) H sl31 rfl rfl (by omega) (fun b5 s2 H => ?_)))
  refine za rfl (zm rfl (za rfl (op_appendNone' H sl31 un31 rfl rfl rfl (by have hl1 : l.length = 0 := (by omega); have := (hl.kept H).elemsI; rw [hl1, List.length_eq_zero_iff.mp hl1] at this; rw [hl1]; exact this) (by decide) (by decide) (by omega) (fun s7 H => ?_))))
  refine za rfl (zT rfl (zb (zu (zp (zQ (⟨_, ⟨_, 0, _⟩, rfl, H.up (by omega), .inl ⟨rfl, List.length_eq_zero_iff.mp (by omega)⟩⟩))))))
 refine zb (zq rfl (ze (za rfl (zh (zb (zu (zn (zp (zQ ?_)))))))))
 obtain rfl : a = none := by cases a <;> simp_all
 have h0 : l = [] := by
  cases hl with
  | nil c hv hl2 => simpa using hl2
  | block b off cap c hv => cases hv
 exact ⟨[], ⟨none, 0, 0⟩, rfl, H.up (by omega), .inl ⟨rfl, h0⟩⟩
set_option maxHeartbeats 4000000 in
set_option maxRecDepth 10000 in
theorem binSearch_ok {I : yb} (hI : Plain I) {s : St} {v : Value} {l : List Int} {x : Int} (hl : Sl s 23 1 v (l.map dc)) (hinc : Inc l) (hlen : l.length ≤ 1000000) :
  ∃ v' s', yI Tryz.prog I 100 #[v, .int .i64 x] s v' s' ∧ (∃ (i : Nat) (b : Bool), v' = .tuple ⟨[.int .i64 (i : Int), .bool b]⟩ ∧ (b = true → i < l.length ∧ l.getD i 0 = x) ∧ (b = false → x ∉ l) ∧ s' = s) := by
 obtain ⟨a, len, cap, rfl, hn⟩ := hl.isSlice
 rw [List.length_map] at hn
 subst hn
 refine yc 2 (hI 100 (by decide) (by decide)) Tryz.func100 rfl fb100 rfl ?_
 refine ze (za rfl (zh (za rfl (zh (zb (ze (za rfl (zm rfl (za rfl (z7 un31 rfl rfl rfl (za rfl (zk rfl (zb (ze (za rfl (zf rfl (za rfl (zh ?_))))))))))))))))))
 refine za rfl (zk rfl (zb (zx (zL (yB (fun k F s1 => ∃ (G : FF) (lo hi : Nat), F = lay G [(0, .slice a l.length cap), (1, .int .i64 x), (6, .int .i64 (l.length : Int)), (7, .int .i64 (lo : Int)), (8, .int .i64 (hi : Int))] ∧ s1 = s ∧ lo ≤ hi ∧ hi ≤ l.length ∧ (∀ j, j < lo → l.getD j 0 < x) ∧ (∀ j, hi ≤ j → j < l.length → x ≤ l.getD j 0) ∧ k = hi - lo) ?_ l.length _ _ ?_)))))
 rotate_left
 ·exact ⟨_, 0, l.length, yf ⟨rfl, rfl, rfl, rfl, rfl, trivial⟩, rfl, by omega, by omega, (by intro j hj; omega), (by intro j h1 h2; omega), by omega⟩
 rintro k F s1 ⟨G, lo, hi, rfl, rfl, hlh, hhl, hlo, hhi, rfl⟩
 refine zx (ze (za rfl (zf rfl (za rfl (zf rfl (za rfl (yg rfl rfl (fun h => ?_) (fun h => ?_))))))))
 ·refine zb (zq rfl (zD (zj (zL (ze (za rfl (zf rfl (za rfl (zf rfl (za rfl (zZ rfl rfl (by unfold zS; omega) (za rfl (op_convertU un3 un173 rfl (by omega) (by omega) (za rfl (op_halfU rfl rfl ?_)))))))))))))))
  rw [show ((lo : Int) + (hi : Int)).fdiv 2 = (((lo + hi) / 2 : Nat) : Int) by rw [Int.fdiv_eq_ediv_of_nonneg _ (by omega)]; omega]
  refine za rfl (op_convert un173 un3 rfl (by unfold zS; omega) (za rfl (zk rfl (zb (ze (za rfl (zm rfl (za rfl (zf rfl ?_)))))))))
  obtain ⟨b, off, c, rfl, hg, hb, hc⟩ := hl.atD (i := (((lo + hi) / 2 : Nat) : Int)) (k := (lo + hi) / 2) rfl (by omega)
  refine za rfl (zB qL rfl rfl (by omega) (by omega) (za rfl (zl yx rfl hg hc (za rfl (zf rfl (za rfl (zy rfl fc146 rfl ?_)))))))
  obtain ⟨_, _, hr, rfl, rfl⟩ := less_ok (s := _) (x := l.getD ((lo + hi) / 2) 0) (y := x) hI
  refine ⟨_, _, hr, ?_⟩
  clear hr
  cases hb3 : decide (l.getD ((lo + hi) / 2) 0 < x)
  ·refine zb (zv rfl (zF (za rfl (zf rfl (za rfl (zk rfl (zb (zP (zO (⟨(lo + hi) / 2 - lo, by omega, _, lo, (lo + hi) / 2, yf ⟨rfl, rfl, rfl, rfl, rfl, trivial⟩, rfl, by omega, by omega, hlo, ?_, rfl⟩))))))))))
   intro j hj hj2
   have := inc_getD hinc (i := (lo + hi) / 2) (j := j) (by omega) (by omega)
   have := of_decide_eq_false hb3
   omega
  refine zb (zq rfl (zF (za rfl (zf rfl (za rfl (zZ rfl rfl (by unfold zS; omega) (za rfl (zk rfl (zb (zP (zO (⟨hi - ((lo + hi) / 2 + 1), by omega, _, (lo + hi) / 2 + 1, hi, yf ⟨rfl, rfl, rfl, rfl, rfl, trivial⟩, rfl, by omega, by omega, ?_, hhi, rfl⟩))))))))))))
  intro j hj
  have := inc_getD hinc (i := j) (j := (lo + hi) / 2) (by omega) (by omega)
  have := of_decide_eq_true hb3
  omega
 refine zb (zv rfl (yi (zU (ye (z8 (zj (ze (za rfl (zf rfl (za rfl (zf rfl (za rfl (zf rfl (za rfl (yg rfl rfl (fun h => ?_) (fun h => ?_))))))))))))))))
 ·refine za rfl (zi rfl (za rfl (zm rfl (za rfl (zf rfl ?_)))))
  obtain ⟨b, off, c, rfl, hg, hb, hc⟩ := hl.atD (i := (lo : Int)) (k := lo) rfl (by omega)
  refine za rfl (zB qL rfl rfl (by omega) (by omega) (za rfl (zl yx rfl hg hc (za rfl (zf rfl (za rfl (yJ rfl rfl (fun h => ?_) (fun h => ?_))))))))
  ·refine za rfl (zi rfl (zc rfl (zc rfl (zc rfl (zc rfl (zc rfl (zc rfl (zc rfl (zc rfl (zc rfl (za rfl (zC rfl (za rfl (zN rfl rfl ?_))))))))))))))
   refine za rfl (zk rfl (za rfl (zr rfl (zb (zu (zp (yE rfl rfl ?_)))))))
   have hll : lo = hi := by omega
   exact ⟨lo, true, rfl, (fun _ => ⟨by omega, h⟩), (fun h => by cases h), rfl⟩
  refine za rfl (zi rfl (za rfl (zm rfl (za rfl (zf rfl (za rfl (zB qL rfl rfl (by omega) (by omega) (za rfl (zl yx rfl hg hc (za rfl (zy rfl fc155 rfl ?_)))))))))))
  obtain ⟨_, _, hr, rfl, rfl⟩ := nanB_ok (s := _) hI
  refine ⟨_, _, hr, ?_⟩
  clear hr
  refine za rfl (zi rfl (zc rfl (zc rfl (za rfl (zY rfl (za rfl (zw rfl rfl (za rfl (zN rfl rfl (za rfl (zk rfl (za rfl (zr rfl (zb (zu (zp (yE rfl rfl ?_)))))))))))))))))
  have hll : lo = hi := by omega
  refine ⟨lo, false, rfl, (fun h => by cases h), (fun _ hx => ?_), rfl⟩
  obtain ⟨j, hj, he⟩ := List.mem_iff_getElem.mp hx
  have e1 : l.getD j 0 = x := by rw [← he]; simp [List.getD_eq_getElem?_getD, List.getElem?_eq_getElem hj]
  rcases Nat.lt_or_ge j lo with h2 | h2
  ·have := hlo j h2; omega
  ·have h3 := hhi j (by omega) hj
   first
    | omega
    | (have h4 := inc_getD hinc (i := lo) (j := j) (by omega) hj; have h5 := hhi lo (by omega) (by omega); apply h; omega)
 refine za rfl (zi rfl (zc rfl (zc rfl (zc rfl (zc rfl (zc rfl (zc rfl (zc rfl (zc rfl (zc rfl (zc rfl (zc rfl ?_))))))))))))
 refine zc rfl (zc rfl (zc rfl (zc rfl (zc rfl (zc rfl (za rfl (zY rfl (za rfl (zk rfl (za rfl (zr rfl (zb (zu (zp ?_))))))))))))))
 refine yE rfl rfl ?_
 have hll : lo = hi := by omega
 refine ⟨lo, false, rfl, (fun h => by cases h), (fun _ hx => ?_), rfl⟩
 obtain ⟨j, hj, he⟩ := List.mem_iff_getElem.mp hx
 have e1 : l.getD j 0 = x := by rw [← he]; simp [List.getD_eq_getElem?_getD, List.getElem?_eq_getElem hj]
 rcases Nat.lt_or_ge j lo with h2 | h2
 ·have := hlo j h2; omega
 ·have h3 := hhi j (by omega) hj
  first
   | omega
   | (have h4 := inc_getD hinc (i := lo) (j := j) (by omega) hj; have h5 := hhi lo (by omega) (by omega); apply h; omega)
end Go.Proofs.YtdejleegamcioaaGreat
namespace Go.Proofs.YtdejleegamcioaaGreat
open Go Go.M
theorem fb97 : yw Tryz.f97 (Tryz.f97.body.getD .skip) 1 = true := by kernel_rfl
end Go.Proofs.YtdejleegamcioaaGreat
namespace Go.M
section
variable {P : Program} {I : yb} {F : FF} {s : St} {Q : FF → St → Prop} {d : Option Tmp} {ty : TypeId} {pos : String} {af : Array Edge} {g : Option (Nat × Bool)} {W : List Nat} {s0 : St} {L : Hp'} {n : Nat}
theorem op_clear {ag : Array Operand} {ts : Array TypeId} {t e e' : TypeId} {tr : List TypeId} {x : Operand} {sz by_ b off m cap : Nat} {z c c' : List Value} (H : HL W s0 s ((b, .cells c e') :: L) n) (hs : xG P t = some (e, sz, by_, z))
  (ht : ts.toList = t :: tr) (ha : ag.toList = [x]) (hx : zH F x = .slice (some ⟨b, off, none⟩) (m + 1) cap) (hp : (repL z (m + 1)).all plainCell = true) (hc : xI off (repL z (m + 1)) c = some c') (hr : s0.next + n ≤ zo)
  (k : ∀ s', HL W s0 s' ((b, .cells c' e') :: L) n → Q (upd F d (.tuple ⟨[]⟩)) s') : OpW P I ⟨d, .call ⟨.builtin .clear, ag, ts⟩, ty, pos, af, g⟩ F s Q := by
 obtain ⟨hu, inf, z', hi, rfl, rfl, hz, hz1, hz2⟩ := y8 hs
 refine yj (v := .tuple ⟨[]⟩) (s' := s.put b (some (.cells c' e'))) ?_ (k _ (H.put0 _ hr))
 have hmay := (H.own (b, .cells c e') (by simp)).2.2.1
 simp only at hmay
 simp only [zK, xj, clearM, ht, ha, xM, hx, hu, hi, hz, xF, H.own0, hp, hmay, Bool.and_self, hc]
 rfl
end
end Go.M
namespace Go.Proofs.YtdejleegamcioaaGreat
open Go Go.M
theorem lover_some {α : Type} : ∀ {vs l : List α}, vs.length ≤ l.length → ∃ r, lover vs l = some r ∧ r.length = l.length
 | [], l, _ => ⟨l, rfl, rfl⟩
 | v :: vs, [], h => by simp at h
 | v :: vs, x :: l, h => by
  obtain ⟨r, h1, h2⟩ := lover_some (vs := vs) (l := l) (by simpa using h)
  exact ⟨v :: r, by rw [lover, h1], by simp [h2]⟩
theorem lput_some {α : Type} : ∀ {n : Nat} {vs l : List α}, n + vs.length ≤ l.length → ∃ r, xI n vs l = some r ∧ r.length = l.length
 | 0, vs, l, h => by
  obtain ⟨r, h1, h2⟩ := lover_some (vs := vs) (l := l) (by omega)
  exact ⟨r, by cases l <;> simpa [xI] using h1, h2⟩
 | n + 1, vs, [], h => by simp at h
 | n + 1, vs, x :: l, h => by
  obtain ⟨r, h1, h2⟩ := lput_some (n := n) (vs := vs) (l := l) (by simp at h; omega)
  exact ⟨x :: r, by rw [xI, h1], by simp [h2]⟩
theorem zeros_plain : ∀ n, (repL [.int .i64 0] n).all Go.M.plainCell = true
 | 0 => rfl
 | n + 1 => by simp only [repL, List.all_append, zeros_plain n]; rfl
def Apart (l : List Int) : Prop := ∀ j, j + 1 < l.length → l.getD j 0 ≠ l.getD (j + 1) 0
set_option maxHeartbeats 4000000 in
set_option maxRecDepth 10000 in
theorem compact_ok {I : yb} (hI : Plain I) {s : St} (hf : Fine s) {b cap : Nat} {l : List Int} (hg : s.get b = some (.cells (yo l) 23)) (hb : b < s.next) (hmay : s.may b = true) (hcap : l.length ≤ cap / 2) (hlen : l.length ≤ 1000000) (hroom : s.next ≤ zo) :
  ∃ v' s', yI Tryz.prog I 97 #[.slice (some ⟨b, 0, none⟩) l.length cap] s v' s' ∧ (∃ (a : Option Addr) (n c : Nat) (c2 : List Value), v' = .slice a n c ∧ HL [b] s s' [(b, .cells c2 23)] 0 ∧ (n = l.length ↔ Apart l)) := by
 have H : HL [b] s s [(b, .cells (yo l) 23)] 0 := ⟨rfl, rfl, hf.wfb, hf.wfp, Nat.le_refl _, Nat.le_refl _, fun p hp => by rw [List.mem_singleton] at hp; subst hp; exact ⟨hg, hb, hmay, .inr (by simp)⟩, by simp, fun _ _ _ => rfl⟩
 refine yc 1 (hI 97 (by decide) (by decide)) Tryz.func97 rfl fb97 rfl ?_
 refine ze (za rfl (zh (zb (zx (ze (za rfl (zm rfl (za rfl (z7 un31 rfl rfl rfl (za rfl (yg rfl rfl (fun h => ?_) (fun h => ?_))))))))))))
 ·refine zb (zq rfl (ze (za rfl (zm rfl (za rfl (zT rfl (zb (zu (zn (zp (zQ ?_)))))))))))
  exact ⟨_, _, _, _, rfl, H, ⟨fun _ j hj => by omega, fun _ => rfl⟩⟩
 refine zb (zv rfl (zD (zj (zx (ze (za rfl (zh (zb (zL (yB (fun k F s1 => ∃ (G : FF) (i : Nat), F = lay G [(0, .slice (some ⟨b, 0, none⟩) l.length cap), (3, .int .i64 (i : Int))] ∧ HL [b] s s1 [(b, .cells (yo l) 23)] 0 ∧ 1 ≤ i ∧ i ≤ l.length ∧ (∀ j, j + 1 < i → l.getD j 0 ≠ l.getD (j + 1) 0) ∧ k = l.length - i) ?_ (l.length - 1) _ _ ?_))))))))))
 rotate_left
 ·exact ⟨_, 1, yf ⟨rfl, rfl, trivial⟩, H, by omega, by omega, (by intro j hj; omega), by omega⟩
 rintro k F s1 ⟨G, i, rfl, H, hi1, hi, hap, rfl⟩
 refine zx (ze (za rfl (zf rfl (za rfl (zm rfl (za rfl (z7 un31 rfl rfl rfl (za rfl (yg rfl rfl (fun h => ?_) (fun h => ?_))))))))))
 ·refine zb (zq rfl (zD (zj (zx (zL (yy [⟨0, 0, .light, [8]⟩, ⟨1, 0, .light, [8]⟩, ⟨2, 3, .light, [8]⟩, ⟨3, 7, .light, [8]⟩, ⟨4, 0, .light, [3]⟩, ⟨5, 0, .light, [3]⟩, ⟨6, 32, .light, [3]⟩, ⟨7, 112, .light, [3]⟩, ⟨8, 240, .light, [3]⟩, ⟨9, 511, .light, []⟩] (by kernel_rfl) (by kernel_rfl) ?_))))))
  have hlb : b < zo := Nat.lt_of_lt_of_le hb hroom
  refine zd rfl rfl (zm rfl ⟨rfl, (zd rfl rfl (zf rfl ⟨rfl, (zd rfl rfl (zB qL rfl rfl (by omega) (by omega) ⟨rfl, (zG rfl rfl yx rfl H.own0 hlb (qJ (k := i) (by omega) (by omega)) (zd rfl rfl (zm rfl ⟨rfl, (zd rfl rfl (zf rfl ⟨rfl, (zd rfl rfl (xm rfl rfl (by unfold zS; omega) ⟨rfl, (zd rfl rfl (zB qL rfl rfl (by omega) (by omega) ⟨rfl, (zG rfl rfl yx rfl H.own0 hlb (qJ (k := i - 1) (by omega) (by omega)) (zd rfl rfl (yJ rfl rfl (fun h => ⟨rfl, ?_⟩) (fun h => ⟨rfl, ?_⟩))))⟩))⟩))⟩))⟩)))⟩))⟩))⟩)
  ·refine zV (zq rfl ?_)
   have hdup : l.getD (i - 1) 0 = l.getD i 0 := h.symm
   refine ze (za rfl (zm rfl (za rfl (zf rfl (za rfl (op_sliceLo (m := i) sl31 rfl rfl rfl H.own0 (by omega) hcap (fun ol cap2 hol hlc => ?_)))))))
   obtain rfl := hol (by omega)
   refine za rfl (zT rfl (zb (zx (ze (za rfl (zh (zb (zL (yB (fun k F s1 => ∃ (G : FF) (w q : Nat) (cs : List Int), F = lay G [(0, .slice (some ⟨b, 0, none⟩) l.length cap), (3, .int .i64 (w : Int)), (4, .slice (some ⟨b, 0 + i * 1, none⟩) (l.length - i) cap2), (5, .int .i64 (q : Int))] ∧ HL [b] s s1 [(b, .cells (yo cs) 23)] 0 ∧ cs.length = l.length ∧ 1 ≤ q ∧ q ≤ l.length - i ∧ w ≤ i + (q - 1) ∧ k = l.length - i - q) ?_ (l.length - i - 1) _ _ ?_)))))))))
   rotate_left
   ·exact ⟨_, i, 1, l, yf ⟨rfl, rfl, rfl, rfl, trivial⟩, H, rfl, by omega, by omega, by omega, by omega⟩
   rintro k F s1 ⟨G, w, q, cs, rfl, H, hcs, hq1, hq, hw, rfl⟩
   refine zx (ze (za rfl (zf rfl (za rfl (zm rfl (za rfl (z7 un31 rfl rfl rfl (za rfl (yg rfl rfl (fun h => ?_) (fun h => ?_))))))))))
   ·refine zb (zq rfl (zD (zj (zx (zL (yy [⟨0, 0, .light, [8]⟩, ⟨1, 0, .light, [8]⟩, ⟨2, 3, .light, [8]⟩, ⟨3, 7, .light, [8]⟩, ⟨4, 0, .light, [3]⟩, ⟨5, 0, .light, [3]⟩, ⟨6, 32, .light, [3]⟩, ⟨7, 112, .light, [3]⟩, ⟨8, 240, .light, [3]⟩, ⟨9, 511, .light, []⟩] (by kernel_rfl) (by kernel_rfl) ?_))))))
    have hlb : b < zo := Nat.lt_of_lt_of_le hb hroom
    refine zd rfl rfl (zm rfl ⟨rfl, (zd rfl rfl (zf rfl ⟨rfl, (zd rfl rfl (zB qL rfl rfl (by omega) (by omega) ⟨rfl, (zG rfl rfl yx rfl H.own0 hlb (qJ (k := i + q) (by omega) (by omega)) (zd rfl rfl (zm rfl ⟨rfl, (zd rfl rfl (zf rfl ⟨rfl, (zd rfl rfl (xm rfl rfl (by unfold zS; omega) ⟨rfl, (zd rfl rfl (zB qL rfl rfl (by omega) (by omega) ⟨rfl, (zG rfl rfl yx rfl H.own0 hlb (qJ (k := i + q - 1) (by omega) (by omega)) (zd rfl rfl (yM rfl rfl (fun h => ⟨rfl, ?_⟩) (fun h => ⟨rfl, ?_⟩))))⟩))⟩))⟩))⟩)))⟩))⟩))⟩)
    ·refine zV (zq rfl (ze (za rfl (zm rfl (za rfl (zf rfl (za rfl (zm rfl (za rfl (zf rfl (za rfl (zB qL rfl rfl (by omega) (by omega) (za rfl (zl yx rfl H.own0 (qJ (k := i + q) (by omega) (by omega)) (za rfl (zB qL rfl rfl (by omega) (by omega) (za rfl (zX (c' := yo (cs.set w (cs.getD (i + q) 0))) H sz23 rfl rfl rfl rfl (lput_ints' (by omega) (by omega)) (by omega) (fun s51 H => ?_)))))))))))))))))))
     refine zb (zF (za rfl (zf rfl (za rfl (zZ rfl rfl (by unfold zS; omega) (za rfl (zk rfl (zb (zP (zj (zF (za rfl (zf rfl (za rfl (zZ rfl rfl (by unfold zS; omega) (za rfl (zk rfl ?_)))))))))))))))))
     refine zb (zO ?_)
     exact ⟨l.length - i - (q + 1), by omega, _, w + 1, q + 1, cs.set w (cs.getD (i + q) 0), yf ⟨rfl, rfl, rfl, rfl, trivial⟩, H, by rw [List.length_set]; exact hcs, by omega, by omega, by omega, rfl⟩
    refine zV (zv rfl (zD (zP (zj (zF (za rfl (zf rfl (za rfl (zZ rfl rfl (by unfold zS; omega) (za rfl (zk rfl (zb (zO ?_)))))))))))))
    exact ⟨l.length - i - (q + 1), by omega, _, w, q + 1, cs, yf ⟨rfl, rfl, rfl, rfl, trivial⟩, H, hcs, by omega, by omega, by omega, rfl⟩
   refine zb (zv rfl (yi (zU (ye (z8 (zj (ze (za rfl (zm rfl (za rfl (zf rfl (za rfl (op_sliceLo (m := w) sl31 rfl rfl rfl H.own0 (by omega) hcap (fun ol2 cap3 hol2 hlc2 => ?_))))))))))))))
   obtain rfl := hol2 (by omega)
   obtain ⟨m, hm⟩ : ∃ m, l.length - w = m + 1 := ⟨l.length - w - 1, by omega⟩
   obtain ⟨c2, hc2, _⟩ := lput_some (n := 0 + w * 1) (vs := repL [.int .i64 0] (m + 1)) (l := yo cs) (by rw [repL_length]; simp [yo]; omega)
   rw [hm]
   refine za rfl (op_clear H sl31 rfl rfl rfl (zeros_plain _) hc2 (by omega) (fun s56 H => ?_))
   refine zb (ze (za rfl (zm rfl (za rfl (zf rfl (za rfl (op_sliceHi (m := w) sl31 rfl rfl rfl H.own0 (by omega) (za rfl (zT rfl (zb (zu (zt (zn (zJ (zt ?_)))))))))))))))
   refine zn (zp (zQ (⟨_, _, _, _, rfl, H, ⟨fun e => by omega, fun ha => ?_⟩⟩)))
   exfalso
   have := ha (i - 1) (by omega)
   rw [show i - 1 + 1 = i by omega] at this
   exact this hdup
  refine zV (zv rfl (zD (zP (zj (zF (za rfl (zf rfl (za rfl (zZ rfl rfl (by unfold zS; omega) (za rfl (zk rfl (zb (zO (⟨l.length - (i + 1), by omega, _, i + 1, yf ⟨rfl, rfl, trivial⟩, H, by omega, by omega, ?_, rfl⟩))))))))))))))
  intro j hj
  by_cases hj2 : j + 1 < i
  ·exact hap j hj2
  ·obtain rfl : j = i - 1 := by omega
   rw [show i - 1 + 1 = i by omega]
   exact fun e => h e.symm
 refine zb (zv rfl (yi (zU (ye (z8 (zj (ze (za rfl (zm rfl (za rfl (zT rfl (zb (zu ?_)))))))))))))
 refine zp (zQ ?_)
 exact ⟨_, _, _, _, rfl, H, ⟨fun _ j hj => hap j (by omega), fun _ => rfl⟩⟩
end Go.Proofs.YtdejleegamcioaaGreat
namespace Go.Proofs.YtdejleegamcioaaGreat
open Go Go.M
theorem fb99 : yw Tryz.f99 (Tryz.f99.body.getD .skip) 2 = true := by kernel_rfl
theorem fc100 : yp Tryz.prog 100 = true := by kernel_rfl
theorem atP_idx : ∀ {ks ns : List Int}, Inc ks → ∀ {i : Nat}, i < ks.length → i < ns.length → atP ks ns (ks.getD i 0) = ns.getD i 0
 | [], _, _, _, h, _ => by simp at h
 | _ :: _, [], _, _, _, h => by simp at h
 | k :: ks, n :: ns, hi, 0, _, _ => by simp [atP]
 | k :: ks, n :: ns, hi, i + 1, h1, h2 => by
  rw [Inc, List.pairwise_cons] at hi
  have hm : ks.getD i 0 ∈ ks := zR (by simpa using h1)
  have := hi.1 _ hm
  rw [List.getD_cons_succ, List.getD_cons_succ, atP, if_neg (by omega)]
  exact atP_idx hi.2 (by simpa using h1) (by simpa using h2)
theorem idx_of_mem {l : List Int} {x : Int} (h : x ∈ l) : ∃ i, i < l.length ∧ l.getD i 0 = x := by
 obtain ⟨j, hj, he⟩ := List.mem_iff_getElem.mp h
 exact ⟨j, hj, by rw [← he]; simp [List.getD_eq_getElem?_getD, List.getElem?_eq_getElem hj]⟩
theorem atP_mem {ks ns : List Int} (hi : Inc ks) (hl : ks.length = ns.length) {x : Int} (hx : x ∈ ks) : atP ks ns x ∈ ns := by
 obtain ⟨i, h1, rfl⟩ := idx_of_mem hx
 rw [atP_idx hi h1 (by omega)]
 exact zR (by omega)
theorem inc_of {l : List Int} (h1 : Srt l) (h2 : Apart l) : Inc l := by
 rw [Inc, List.pairwise_iff_getElem]
 intro i j hi hj hij
 have key : ∀ n, i + n + 1 < l.length → l.getD i 0 < l.getD (i + n + 1) 0 := by
  intro n
  induction n with
  | zero => intro h; rw [Nat.add_zero] at h ⊢; have := h1 i h; have := h2 i h; omega
  | succ n ih => intro h; have := ih (by omega); have := h1 (i + n + 1) (by omega); have := h2 (i + n + 1) (by omega); rw [show i + (n + 1) + 1 = i + n + 1 + 1 by omega]; omega
 have := key (j - i - 1) (by omega)
 rw [show i + (j - i - 1) + 1 = j by omega] at this
 simpa [List.getD_eq_getElem?_getD, List.getElem?_eq_getElem hi, List.getElem?_eq_getElem hj] using this
theorem xx {l : List Int} (h : Inc l) : Srt l ∧ Apart l := by
 rw [Inc, List.pairwise_iff_getElem] at h
 refine ⟨fun j hj => ?_, fun j hj => ?_⟩
 ·have := h j (j + 1) (by omega) hj (by omega)
  have e1 : l.getD j 0 = l[j] := by simp [List.getD_eq_getElem?_getD, List.getElem?_eq_getElem (show j < l.length by omega)]
  have e2 : l.getD (j + 1) 0 = l[j + 1] := by simp [List.getD_eq_getElem?_getD, List.getElem?_eq_getElem hj]
  omega
 ·have := h j (j + 1) (by omega) hj (by omega)
  have e1 : l.getD j 0 = l[j] := by simp [List.getD_eq_getElem?_getD, List.getElem?_eq_getElem (show j < l.length by omega)]
  have e2 : l.getD (j + 1) 0 = l[j + 1] := by simp [List.getD_eq_getElem?_getD, List.getElem?_eq_getElem hj]
  omega
structure Lev (js : List (Int × Int)) (bad : Int) (may : List Sp) (ks ns : List Int) : Prop where
 len : ks.length = ns.length
 inc : Inc ks
 set : ∀ k ∈ ks, 1 ≤ k ∧ k ≤ 65535
 num : ∀ n ∈ ns, 0 ≤ n ∧ n ≤ 65536
 none : ∀ i, i < ks.length → yl (ks.getD i 0) bad 0 js = false → ns.getD i 0 = 0
 low : ∀ i, i < ks.length → yl (ks.getD i 0) bad 0 js = true → ∀ m ∈ may, m.w = ks.getD i 0 → m.p ∈ ks ∧ zI m.w m.p ∈ ks ∧ ns.getD i 0 ≤ 1 + atP ks ns m.p + atP ks ns (zI m.w m.p)
set_option maxHeartbeats 4000000 in
set_option maxRecDepth 10000 in
theorem at_ok2 {I : yb} (hI : Plain I) {s : St} {a1 a2 : Option Addr} {c1 c2 b5 : Nat} {ks ns : List Int} {x : Int} (hg : s.get b5 = some (.cells [.slice a1 ks.length c1, .slice a2 ns.length c2] 36)) (h1 : Sl s 23 1 (.slice a1 ks.length c1) (ks.map dc)) (h2 : Sl s 3 1 (.slice a2 ns.length c2) (ns.map dc)) (hinc : Inc ks) (hln : ks.length = ns.length) (hlen : ks.length ≤ 1000000) :
  ∃ v' s', yI Tryz.prog I 99 #[.int .i64 x, ptr b5] s v' s' ∧ (∃ (n : Int) (b : Bool), v' = .tuple ⟨[.int .i64 n, .bool b]⟩ ∧ (b = true → x ∈ ks ∧ n = atP ks ns x) ∧ (b = false → x ∉ ks ∧ n = 0) ∧ s' = s) := by
 refine yc 2 (hI 99 (by decide) (by decide)) Tryz.func99 rfl fb99 rfl ?_
 refine ze (za rfl (zh (za rfl (zh (zb (ze (za rfl (zg qX rfl (za rfl (zl qe rfl (by exact hg) rfl (za rfl (zf rfl (za rfl (zy rfl fc100 rfl ?_))))))))))))))
 obtain ⟨_, s9, hr, i, bb, rfl, hbt, hbf, hs9⟩ := binSearch_ok (x := x) hI h1 hinc hlen
 rw [hs9] at hr
 refine ⟨_, _, hr, ?_⟩
 clear hr
 cases bb
 ·refine za rfl (yq rfl (za rfl (zE rfl rfl (za rfl (zE rfl rfl (za rfl (zk rfl (za rfl (zr rfl (zb (zx (ze (za rfl (zi rfl (za rfl (yC rfl (zb (zq rfl ?_))))))))))))))))))
  refine ze (za rfl (zh (za rfl (zh (zb (zu (zn (zp (yE rfl rfl ?_)))))))))
  exact ⟨0, false, rfl, (fun h => by cases h), (fun _ => ⟨hbf rfl, rfl⟩), rfl⟩
 refine za rfl (yq rfl (za rfl (zE rfl rfl (za rfl (zE rfl rfl (za rfl (zk rfl (za rfl (zr rfl (zb (zx (ze (za rfl (zi rfl (za rfl (yC rfl (zb (zv rfl ?_))))))))))))))))))
 refine zD (zj (ze (za rfl (zg of36_1 rfl (za rfl (zl yW rfl (by exact hg) rfl (za rfl (zf rfl ?_))))))))
 obtain ⟨e2, oo2, d2, rfl, hg2, hb2, hc2⟩ := h2.atD (i := (i : Int)) (k := i) rfl (by have := (hbt rfl).1; omega)
 have hib := (hbt rfl).1
 refine za rfl (zB xP rfl rfl (by omega) (by omega) (za rfl (zl sh3 rfl hg2 hc2 (za rfl (zk rfl (za rfl (zh (zb (zu (zp (yE rfl rfl (⟨_, true, rfl, (fun _ => ?_), (fun h => by cases h), rfl⟩))))))))))))
 obtain ⟨q1, q2⟩ := hbt rfl
 rw [← q2]
 exact ⟨zR q1, (atP_idx hinc q1 (by omega)).symm⟩
set_option maxHeartbeats 4000000 in
set_option maxRecDepth 10000 in
theorem compact0_ok {I : yb} (hI : Plain I) {s : St} {a : Option Addr} {c : Nat} : ∃ v' s', yI Tryz.prog I 97 #[.slice a 0 c] s v' s' ∧ (v' = .slice a 0 c ∧ s' = s) := by
 refine yc 1 (hI 97 (by decide) (by decide)) Tryz.func97 rfl fb97 rfl ?_
 refine ze (za rfl (zh (zb (zx (ze (za rfl (zm rfl (za rfl (z7 un31 rfl rfl rfl (za rfl (yg rfl rfl (fun h => ?_) (fun h => False.elim (by exact h (by decide))))))))))))))
 refine zb (zq rfl (ze (za rfl (zm rfl (za rfl (zT rfl (zb (zu (zn (zp (zQ ?_)))))))))))
 exact ⟨rfl, rfl⟩
end Go.Proofs.YtdejleegamcioaaGreat
