/- The reference of cleanings: sets in lists, what a set needs. -/
/- The reference of cleanings: its errors, and numbers in levels. -/
import Derived.Test.YtdejleegamcioaaGreatC18
namespace Go.Proofs.YtdejleegamcioaaGreat
open Go Go.M
theorem fb92 : yx Tryz.f92 (Tryz.f92.body.getD .skip) 2 = true := by kernel_rfl
theorem fb55 : yx Tryz.f55 (Tryz.f55.body.getD .skip) 3 = true := by kernel_rfl
theorem fb36 : yx Tryz.f36 (Tryz.f36.body.getD .skip) 1 = true := by kernel_rfl
theorem fb93 : yx Tryz.f93 (Tryz.f93.body.getD .skip) 2 = true := by kernel_rfl
theorem filt_yes {p : Int → Bool} {l : List Int} {i : Nat} (h : i < l.length) (hp : p (l.getD i 0) = true) : (l.take (i + 1)).filter p = (l.take i).filter p ++ [l.getD i 0] := by
 rw [List.take_succ_eq_append_getElem h, List.filter_append]
 have e : l[i] = l.getD i 0 := by simp [List.getD_eq_getElem?_getD, List.getElem?_eq_getElem h]
 rw [e, List.filter_cons_of_pos hp, List.filter_nil]
theorem filt_no {p : Int → Bool} {l : List Int} {i : Nat} (h : i < l.length) (hp : p (l.getD i 0) = false) : (l.take (i + 1)).filter p = (l.take i).filter p := by
 rw [List.take_succ_eq_append_getElem h, List.filter_append]
 have e : l[i] = l.getD i 0 := by simp [List.getD_eq_getElem?_getD, List.getElem?_eq_getElem h]
 rw [e, List.filter_cons_of_neg (by rw [hp]; simp), List.filter_nil, List.append_nil]
theorem Sl.gotJ {s : St} {b off len cap : Nat} {l : List (Int × Int)} (h : Sl s 30 2 (.slice (some ⟨b, off, none⟩) len cap) (l.map jc)) {k : Nat} (hk : k < l.length) : ∃ c, s.get b = some (.cells c 30) ∧ yM c (off + ((k : Int)).toNat * 2 + 0) = some (.int .i64 (l.getD k (0, 0)).1) ∧ yM c (off + ((k : Int)).toNat * 2 + 1) = some (.int .i64 (l.getD k (0, 0)).2) := by
 obtain ⟨b', off', c, h1, h2, h3, h4⟩ := h.atJ (i := (k : Int)) rfl hk
 cases h1
 refine ⟨c, h2, ?_⟩
 rw [qn, qF] at h4
 split at h4
 ·next hle =>
  rw [Option.some.injEq] at h4
  rw [List.length_drop] at hle
  have e : ∀ j, j < 2 → yM c (off + ((k : Int)).toNat * 2 + j) = (jc (l.getD k (0, 0)))[j]? := by
   intro j hj
   rw [yX, ← h4, List.getElem?_take, if_pos hj, List.getElem?_drop]
  exact ⟨e 0 (by omega), e 1 (by omega)⟩
 ·cases h4
theorem dcs_len {l : List Int} : ∀ x ∈ l.map dc, x.length = 1 := by
 intro x hx
 obtain ⟨y, _, rfl⟩ := List.mem_map.mp hx
 rfl
theorem Own.dcs {D : Hp'} {e : TypeId} {v : Value} {l : List Int} (h : Own e 1 D v (yq l) l.length) : SlG D e 1 v (l.map dc) :=
 Own.slG dcs_len (by rw [← ints_flat, List.length_map]; exact h)
set_option maxHeartbeats 4000000 in
set_option maxRecDepth 10000 in
theorem hasL_ok {I : yh} (hI : Plain I) {s : St} {v : Value} {l : List Int} {x : Int} (hl : Sl s 23 1 v (l.map dc)) (hlen : l.length ≤ 1000000) : ∃ v' s', yJ Tryz.prog I 92 #[v, .int .i64 x] s v' s' ∧ (v' = .bool (decide (x ∈ l)) ∧ s' = s) := by
 obtain ⟨a, len, cap, rfl, hn⟩ := hl.isSlice
 rw [List.length_map] at hn
 subst hn
 refine yf 2 (hI 92 (by decide) (by decide)) Tryz.func92 rfl fb92 rfl ?_
 refine zf (za rfl (zh (zb (zy (zf (za rfl (zh (zb (zH (yu (fun k F s1 => ∃ (G : FF) (i : Nat), F = lay G [(0, .slice a l.length cap), (1, .int .i64 x), (5, .int .i64 (i : Int))] ∧ s1 = s ∧ i ≤ l.length ∧ k = l.length - i ∧ ∀ y ∈ l.take i, y ≠ x) ?_ l.length _ _ ?_))))))))))
 rotate_left
 ·exact ⟨_, 0, yb ⟨rfl, rfl, rfl, trivial⟩, rfl, by omega, by omega, (by intro y hy; simp at hy)⟩
 rintro k F s1 ⟨G, i, rfl, rfl, hi, rfl, hno⟩
 refine zy (zf (za rfl (ze rfl (za rfl (zk rfl (za rfl (zZ qd rfl rfl rfl (za rfl (ye rfl rfl (fun h => ?_) (fun h => ?_))))))))))
 ·refine zb (zq rfl (zD (zj (zy (zH (zf (za rfl (zk rfl (za rfl (ze rfl ?_))))))))))
  obtain ⟨b, off, c, rfl, hg, hb, hc⟩ := hl.atD (i := (i : Int)) (k := i) rfl (by omega)
  refine za rfl (zA xU rfl rfl (by omega) (by omega) (za rfl (zn ys rfl hg hc (za rfl (ze rfl (za rfl (yD rfl rfl (fun h => ?_) (fun h => ?_))))))))
  ·refine zb (zq rfl (zf (za rfl (zh (zb (zr (zu (zo (zL (zu (zo (zm ?_))))))))))))
   refine zN (⟨congrArg Value.bool ?_, rfl⟩)
   symm
   rw [decide_eq_true_eq, ← h]
   exact zP (by omega)
  refine zb (zw rfl (zD (zK (zj (zC (za rfl (ze rfl (za rfl (zW rfl rfl (by unfold zV; omega) (za rfl (zl rfl (zb (zI (⟨l.length - (i + 1), by omega, _, i + 1, yb ⟨rfl, rfl, rfl, trivial⟩, rfl, by omega, rfl, ?_⟩))))))))))))))
  intro y hy
  rw [List.take_succ_eq_append_getElem (show i < l.length by omega), List.mem_append, List.mem_singleton] at hy
  rcases hy with hy | hy
  ·exact hno y hy
  ·rw [hy]
   simpa [List.getD_eq_getElem?_getD, List.getElem?_eq_getElem (show i < l.length by omega)] using h
 refine zb (zw rfl (yc (zQ (ya (zY (zj (zf (za rfl (zh (zb (zr (zm ?_))))))))))))
 refine zN (⟨congrArg Value.bool ?_, rfl⟩)
 symm
 rw [decide_eq_false_iff_not]
 intro hx
 refine hno x ?_ rfl
 rw [List.take_of_length_le (by omega)]
 exact hx
set_option maxHeartbeats 4000000 in
set_option maxRecDepth 10000 in
theorem needsR_ok {I : yh} (hI : Plain I) {s : St} {x bad : Int} {v : Value} {js : List (Int × Int)} (hl : Sl s 30 2 v (js.map jc)) (hj : ∀ j ∈ js, kf j) (hlen : js.length ≤ 16) : ∃ v' s', yJ Tryz.prog I 55 #[.int .i64 x, v, .int .i64 bad] s v' s' ∧ (v' = .bool (yj x bad 0 js) ∧ s' = s) := by
 obtain ⟨a, len, cap, rfl, hn⟩ := hl.isSlice
 rw [List.length_map] at hn
 subst hn
 refine yf 3 (hI 55 (by decide) (by decide)) Tryz.func55 rfl fb55 rfl ?_
 refine zf (za rfl (zh (zb (zy (zf (za rfl (zh (zb (zH (yu (fun k F s1 => ∃ (G : FF) (i : Nat), F = lay G [(0, .int .i64 x), (1, .slice a js.length cap), (2, .int .i64 bad), (7, .int .i64 (i : Int))] ∧ s1 = s ∧ i ≤ js.length ∧ k = js.length - i ∧ yj x bad 0 js = yj x bad i (js.drop i)) ?_ js.length _ _ ?_))))))))))
 rotate_left
 ·exact ⟨_, 0, yb ⟨rfl, rfl, rfl, rfl, trivial⟩, rfl, by omega, by omega, rfl⟩
 rintro k F s1 ⟨G, i, rfl, rfl, hi, rfl, hnd⟩
 refine zy (zf (za rfl (ze rfl (za rfl (zk rfl (za rfl (zZ un24 rfl rfl rfl (za rfl (ye rfl rfl (fun h => ?_) (fun h => ?_))))))))))
 ·refine za rfl (zi rfl (za rfl (ze rfl (za rfl (ye rfl rfl (fun h => ?_) (fun h => False.elim (by omega)))))))
  refine za rfl (zM rfl rfl (zb (zq rfl (zD (zj (zy (zH (zf ?_))))))))
  have hjm : kf (js.getD i (0, 0)) := hj _ (zP (by omega))
  have hst : yj x bad i (js.drop i) = ((bit bad i && (bit x (js.getD i (0, 0)).1.toNat && bit x (js.getD i (0, 0)).2.toNat)) || yj x bad (i + 1) (js.drop (i + 1))) := by rw [yw (0, 0) (show i < js.length by omega), yj]
  obtain ⟨b, off, c0, rfl, hg0, hb0, hc0⟩ := hl.atJ (i := (i : Int)) (k := i) rfl (by omega)
  obtain ⟨c, hg, hc1, hc2⟩ := hl.gotJ (k := i) (by omega)
  refine za rfl (ze rfl (za rfl (ze rfl (za rfl (zx rfl fc26 rfl ?_)))))
  obtain ⟨_, _, hr, rfl, rfl⟩ := has_ok (s := _) (x := bad) (k := (i : Int)) hI
  refine ⟨_, _, hr, ?_⟩
  clear hr
  rw [show (decide ((0 : Int) ≤ (i : Int)) && decide ((i : Int) ≤ 15) && bit bad ((i : Int)).toNat) = bit bad i by rw [decide_eq_true (by omega), decide_eq_true (by omega), Int.toNat_natCast]; rfl]
  cases hb1 : bit bad i
  ·refine za rfl (zi rfl (zc rfl (zc rfl (zc rfl (zc rfl (zc rfl (zc rfl (zc rfl (za rfl (z6 rfl (za rfl (zi rfl (zc rfl (zc rfl ?_))))))))))))))
   refine zc rfl (zc rfl (zc rfl (zc rfl (zc rfl (za rfl (z6 rfl (zb (zw rfl (zD (zK (zj (zC ?_))))))))))))
   refine za rfl (ze rfl (za rfl (zW rfl rfl (by unfold zV; omega) (za rfl (zl rfl (zb (zI (⟨js.length - (i + 1), by omega, _, i + 1, yb ⟨rfl, rfl, rfl, rfl, trivial⟩, rfl, by omega, rfl, ?_⟩))))))))
   rw [hnd, hst]
   (rw [hb1]; rfl)
  refine za rfl (zi rfl (za rfl (ze rfl (za rfl (zk rfl (za rfl (ze rfl (za rfl (zA el24 rfl rfl (by omega) (by omega) (za rfl (xb el30 rfl rfl (by omega) (by omega) (za rfl (zn sh3 rfl hg hc1 (za rfl (zx rfl fc26 rfl ?_)))))))))))))))
  obtain ⟨_, _, hr, rfl, rfl⟩ := has_ok (s := _) (x := x) (k := (js.getD i (0, 0)).1) hI
  refine ⟨_, _, hr, ?_⟩
  clear hr
  rw [show (decide ((0 : Int) ≤ (js.getD i (0, 0)).1) && decide ((js.getD i (0, 0)).1 ≤ 15) && bit x (js.getD i (0, 0)).1.toNat) = bit x (js.getD i (0, 0)).1.toNat by rw [decide_eq_true hjm.1.1, decide_eq_true hjm.1.2]; rfl]
  cases hb2 : bit x (js.getD i (0, 0)).1.toNat
  ·refine za rfl (zM rfl rfl (za rfl (zi rfl (zc rfl (zc rfl (zc rfl (zc rfl (zc rfl (zc rfl (zc rfl (za rfl (z6 rfl (zb (zw rfl ?_))))))))))))))
   refine zD (zK (zj (zC (za rfl (ze rfl (za rfl (zW rfl rfl (by unfold zV; omega) (za rfl (zl rfl (zb (zI (⟨js.length - (i + 1), by omega, _, i + 1, yb ⟨rfl, rfl, rfl, rfl, trivial⟩, rfl, by omega, rfl, ?_⟩))))))))))))
   rw [hnd, hst]
   (rw [hb1, hb2]; rfl)
  refine za rfl (zM rfl rfl (za rfl (zi rfl (za rfl (ze rfl (za rfl (zk rfl (za rfl (ze rfl (za rfl (zA el24 rfl rfl (by omega) (by omega) (za rfl (xb el30 rfl rfl (by omega) (by omega) (za rfl (zn sh3 rfl hg hc2 (za rfl (zx rfl fc26 rfl ?_)))))))))))))))))
  obtain ⟨_, _, hr, rfl, rfl⟩ := has_ok (s := _) (x := x) (k := (js.getD i (0, 0)).2) hI
  refine ⟨_, _, hr, ?_⟩
  clear hr
  rw [show (decide ((0 : Int) ≤ (js.getD i (0, 0)).2) && decide ((js.getD i (0, 0)).2 ≤ 15) && bit x (js.getD i (0, 0)).2.toNat) = bit x (js.getD i (0, 0)).2.toNat by rw [decide_eq_true hjm.2.1, decide_eq_true hjm.2.2]; rfl]
  cases hb3 : bit x (js.getD i (0, 0)).2.toNat
  ·refine za rfl (zM rfl rfl (zb (zw rfl (zD (zK (zj (zC (za rfl (ze rfl (za rfl (zW rfl rfl (by unfold zV; omega) (za rfl (zl rfl (zb (zI ?_)))))))))))))))
   refine ⟨js.length - (i + 1), by omega, _, i + 1, yb ⟨rfl, rfl, rfl, rfl, trivial⟩, rfl, by omega, rfl, ?_⟩
   rw [hnd, hst]
   (rw [hb1, hb2, hb3]; rfl)
  refine za rfl (zM rfl rfl (zb (zq rfl (zf (za rfl (zh (zb (zr (zu (zo (zL (zu (zo ?_)))))))))))))
  refine zm (zN (⟨congrArg Value.bool ?_, rfl⟩))
  rw [hnd, hst]
  (rw [hb1, hb2, hb3]; rfl)
 refine za rfl (zi rfl (zc rfl (zc rfl (za rfl (z6 rfl (zb (zw rfl (yc (zQ (ya (zY (zj (zf ?_)))))))))))))
 refine za rfl (zh (zb (zr (zm (zN (⟨congrArg Value.bool ?_, rfl⟩))))))
 rw [hnd, List.drop_eq_nil_of_le (by omega)]
 rfl
set_option maxHeartbeats 4000000 in
set_option maxRecDepth 10000 in
theorem rest_ok {I : yh} (hI : Plain I) {s : St} (hf : Fine s) (hroom : s.next + 1 ≤ zp) {x : Sp} : ∃ v s', yJ Tryz.prog I 36 #[.agg ⟨x.cells⟩] s v s' ∧ (v = .int .i64 (zJ x.w x.p) ∧ HL [] s s' [] 1) := by
 have H := hf.hl
 refine yf 1 (hI 36 (by decide) (by decide)) Tryz.func36 rfl fb36 rfl ?_
 refine zf (za rfl (yI H rfl (by omega) (fun b1 s1 H => ?_)))
 refine za rfl (zh (zb (zf (za rfl (zg xi rfl (za rfl (zn ys rfl H.own0 rfl (za rfl (zg y8 rfl (za rfl (zn ys rfl H.own0 rfl (za rfl (qS rfl rfl (za rfl (zl rfl (zb (zr (zm ?_))))))))))))))))))
 refine zN ?_
 exact ⟨rfl, H.drop0⟩
set_option maxHeartbeats 4000000 in
set_option maxRecDepth 10000 in
theorem add_ok {I : yh} (hI : Plain I) {s : St} (hf : Fine s) {v : Value} {l : List Int} {x : Int} (hl : Sl s 23 1 v (l.map dc)) (hlen : l.length ≤ 1000000) (hroom : s.next + (4 * l.length + 2) ≤ zp) : ∃ v' s', yJ Tryz.prog I 93 #[v, .int .i64 x] s v' s' ∧ (∃ (D : Hp') (so : Slc), v' = so.v ∧ HL [] s s' D (4 * l.length + 2) ∧ SlG D 23 1 so.v ((qB l x).map dc)) := by
 have H := hf.hl
 obtain ⟨a, len, cap, rfl, hn⟩ := hl.isSlice
 rw [List.length_map] at hn
 subst hn
 refine yf 2 (hI 93 (by decide) (by decide)) Tryz.func93 rfl fb93 rfl ?_
 refine zf (za rfl (zh (zb (zf (za rfl (zh (zb (zy (zf (za rfl (zh (zb (zH (yu (fun k F s1 => ∃ (G : FF) (i : Nat) (D1 : Hp') (so : Slc) (out : List Int), F = lay G [(0, .slice a l.length cap), (1, .int .i64 x), (5, so.v), (6, .int .i64 (i : Int))] ∧ HL [] s s1 D1 (0 + 2 * i) ∧ Own 23 1 D1 so.v (yq out) out.length ∧ out = (l.take i).filter (fun y => decide (y < x)) ∧ i ≤ l.length ∧ k = l.length - i) ?_ l.length _ _ ?_))))))))))))))
 rotate_left
 ·exact ⟨_, 0, [], ⟨none, 0, 0⟩, [], yb ⟨rfl, rfl, rfl, rfl, trivial⟩, H, .nil, by simp, by omega, by omega⟩
 rintro k F s1 ⟨G, i, D1, so, out, rfl, H, ho, hout, hi, rfl⟩
 have hol : out.length ≤ 1000001 + i := by rw [hout]; have := List.length_filter_le (fun y => decide (y < x)) (l.take i); simp at this; omega
 refine zy (zf (za rfl (ze rfl (za rfl (zk rfl (za rfl (zZ qd rfl rfl rfl (za rfl (ye rfl rfl (fun h => ?_) (fun h => ?_))))))))))
 ·refine zb (zq rfl (zD (zj (zy (zH (zf (za rfl (zk rfl (za rfl (ze rfl ?_))))))))))
  obtain ⟨b, off, c, rfl, hg, hb, hc⟩ := (hl.kept H).atD (i := (i : Int)) (k := i) rfl (by omega)
  refine za rfl (zA xU rfl rfl (by omega) (by omega) (za rfl (zn ys rfl hg hc (za rfl (ze rfl (za rfl (ye rfl rfl (fun h => ?_) (fun h => ?_))))))))
  ·refine zb (zq rfl (zC (za rfl (zk rfl (za rfl (zk rfl (za rfl (ze rfl (za rfl (zA xU rfl rfl (by omega) (by omega) (za rfl (zn ys rfl hg hc (za rfl (z8 (c := [.int _ _]) H qs rfl rfl (by omega) (fun b25 s1 H => ?_)))))))))))))))
   have hgt := H.own0
   have H := HL.swap (A := []) (B := D1) H.drop0
   refine za rfl (yK H ho qs qd rfl rfl rfl (yN hgt rfl) (by decide) rfl rfl (by have := hol; omega) (by omega) (fun b6 s6 H ho => ?_))
   refine za rfl (zO rfl (zb (zK (zj (zC (za rfl (ze rfl (za rfl (zW rfl rfl (by unfold zV; omega) (za rfl (zl rfl (zb (zI (⟨l.length - (i + 1), by omega, _, i + 1, [(b6, .cells (yq out ++ [.int .i64 (l.getD i 0)]) 23)], ⟨some ⟨b6, 0, none⟩, out.length + 1, 2 * (out.length + 1) + 1⟩, out ++ [l.getD i 0], yb ⟨rfl, rfl, rfl, rfl, trivial⟩, H.up (by omega), ?_, ?_, by omega, rfl⟩))))))))))))))
   ·rw [y6, List.length_append]
    exact ho
   ·rw [filt_yes (show i < l.length by omega) (decide_eq_true h), hout]
  refine zb (zw rfl (zD (zK (zj (zC (za rfl (ze rfl (za rfl (zW rfl rfl (by unfold zV; omega) (za rfl (zl rfl (zb (zI (⟨l.length - (i + 1), by omega, _, i + 1, D1, so, out, yb ⟨rfl, rfl, rfl, rfl, trivial⟩, H.up (by omega), ho, ?_, by omega, rfl⟩))))))))))))))
  rw [filt_no (show i < l.length by omega) (decide_eq_false h), hout]
 refine zb (zw rfl (yc (zQ (ya (zY (zj (zf (za rfl (zk rfl (za rfl (ze rfl (za rfl (z8 (c := [.int _ _]) H qs rfl rfl (by omega) (fun b29 s2 H => ?_))))))))))))))
 have hgt := H.own0
 have H := HL.swap (A := []) (B := D1) H.drop0
 refine za rfl (yK H ho qs qd rfl rfl rfl (yN hgt rfl) (by decide) rfl rfl (by have := hol; omega) (by omega) (fun b7 s7 H ho => ?_))
 refine za rfl (zO rfl (zb (zy (zf (za rfl (zh (zb (zH (yu (fun k F s1 => ∃ (G : FF) (i : Nat) (D1 : Hp') (so : Slc) (out : List Int), F = lay G [(0, .slice a l.length cap), (1, .int .i64 x), (5, so.v), (7, .int .i64 (i : Int))] ∧ HL [] s s1 D1 (2 * l.length + 2 + 2 * i) ∧ Own 23 1 D1 so.v (yq out) out.length ∧ out = l.filter (fun y => decide (y < x)) ++ [x] ++ (l.take i).filter (fun y => decide (x < y)) ∧ i ≤ l.length ∧ k = l.length - i) ?_ l.length _ _ ?_)))))))))
 rotate_left
 ·refine ⟨_, 0, [(b7, .cells (yq out ++ [.int .i64 x]) 23)], ⟨some ⟨b7, 0, none⟩, out.length + 1, 2 * (out.length + 1) + 1⟩, out ++ [x], yb ⟨rfl, rfl, rfl, rfl, trivial⟩, H.up (by omega), ?_, ?_, by omega, by omega⟩
  ·rw [y6, List.length_append]
   exact ho
  ·have hi2 : i = l.length := by omega
   rw [hout, hi2, List.take_length, List.take_zero, List.filter_nil, List.append_nil]
 rintro k F s1 ⟨G, i, D1, so, out, rfl, H, ho, hout, hi, rfl⟩
 have hol : out.length ≤ 1000001 + i := by rw [hout]; have := List.length_filter_le (fun y => decide (y < x)) l; have := List.length_filter_le (fun y => decide (x < y)) (l.take i); simp only [List.length_append, List.length_singleton, List.length_take] at *; omega
 refine zy (zf (za rfl (ze rfl (za rfl (zk rfl (za rfl (zZ qd rfl rfl rfl (za rfl (ye rfl rfl (fun h => ?_) (fun h => ?_))))))))))
 ·refine zb (zq rfl (zD (zj (zy (zH (zf (za rfl (zk rfl (za rfl (ze rfl ?_))))))))))
  obtain ⟨b, off, c, rfl, hg, hb, hc⟩ := (hl.kept H).atD (i := (i : Int)) (k := i) rfl (by omega)
  refine za rfl (zA xU rfl rfl (by omega) (by omega) (za rfl (zn ys rfl hg hc (za rfl (ze rfl (za rfl (yy rfl rfl (fun h => ?_) (fun h => ?_))))))))
  ·refine zb (zq rfl (zC (za rfl (zk rfl (za rfl (zk rfl (za rfl (ze rfl (za rfl (zA xU rfl rfl (by omega) (by omega) (za rfl (zn ys rfl hg hc (za rfl (z8 (c := [.int _ _]) H qs rfl rfl (by omega) (fun b48 s3 H => ?_)))))))))))))))
   have hgt := H.own0
   have H := HL.swap (A := []) (B := D1) H.drop0
   refine za rfl (yK H ho qs qd rfl rfl rfl (yN hgt rfl) (by decide) rfl rfl (by have := hol; omega) (by omega) (fun b12 s12 H ho => ?_))
   refine za rfl (zO rfl (zb (zK (zj (zC (za rfl (ze rfl (za rfl (zW rfl rfl (by unfold zV; omega) (za rfl (zl rfl (zb (zI (⟨l.length - (i + 1), by omega, _, i + 1, [(b12, .cells (yq out ++ [.int .i64 (l.getD i 0)]) 23)], ⟨some ⟨b12, 0, none⟩, out.length + 1, 2 * (out.length + 1) + 1⟩, out ++ [l.getD i 0], yb ⟨rfl, rfl, rfl, rfl, trivial⟩, H.up (by omega), ?_, ?_, by omega, rfl⟩))))))))))))))
   ·rw [y6, List.length_append]
    exact ho
   ·rw [filt_yes (show i < l.length by omega) (decide_eq_true h), hout, List.append_assoc _ _ [l.getD i 0]]
  refine zb (zw rfl (zD (zK (zj (zC (za rfl (ze rfl (za rfl (zW rfl rfl (by unfold zV; omega) (za rfl (zl rfl (zb (zI (⟨l.length - (i + 1), by omega, _, i + 1, D1, so, out, yb ⟨rfl, rfl, rfl, rfl, trivial⟩, H.up (by omega), ho, ?_, by omega, rfl⟩))))))))))))))
  rw [filt_no (show i < l.length by omega) (decide_eq_false h), hout]
 refine zb (zw rfl (yc (zQ (ya (zY (zj (zf (za rfl (zk rfl (za rfl (zO rfl (zb (zr ?_)))))))))))))
 refine zm (zN (⟨D1, so, rfl, H.up (by omega), ?_⟩))
 have hi2 : i = l.length := by omega
 have he : out = qB l x := by rw [hout, hi2, List.take_length]; unfold qB; simp
 rw [← he]
 exact Own.dcs ho
end Go.Proofs.YtdejleegamcioaaGreat
namespace Go.Proofs.YtdejleegamcioaaGreat
open Go Go.M
theorem fb45 : yx Tryz.f45 (Tryz.f45.body.getD .skip) 4 = true := by kernel_rfl
theorem fb46 : yx Tryz.f46 (Tryz.f46.body.getD .skip) 2 = true := by kernel_rfl
theorem y9 : offF Tryz.prog 40 0 = some 0 := by kernel_rfl
theorem y2 : offF Tryz.prog 40 1 = some 1 := by kernel_rfl
theorem split_valid {w p : Int} (h : y1 w p = true) (hp : p < 9223372036854775808) : qi w p = true := by
 have hs := yR h hp
 simp only [y1, Bool.and_eq_true, decide_eq_true_eq] at h
 obtain ⟨⟨⟨⟨h1, h2⟩, h3⟩, h4⟩, h5⟩ := h
 obtain ⟨a, rfl⟩ := Int.eq_ofNat_of_zero_le (show 0 ≤ w by omega)
 obtain ⟨b, rfl⟩ := Int.eq_ofNat_of_zero_le (show 0 ≤ p by omega)
 have ha := xC (a := a) (by omega)
 have hb := xC (a := b) (by omega)
 have hz : BitVec.ofInt 64 (b : Int) &&& ~~~ BitVec.ofInt 64 (a : Int) = 0#64 := by
  have := wrap_zero (BitVec.isLt _) h4
  exact BitVec.eq_of_toNat_eq (by rw [this]; rfl)
 have hz2 : BitVec.ofInt 64 (b : Int) &&& BitVec.ofInt 64 (a : Int) = BitVec.ofInt 64 (b : Int) := by
  apply BitVec.eq_of_getLsbD_eq
  intro i hi
  have := congrArg (fun x => x.getLsbD i) hz
  simp only [BitVec.getLsbD_and, BitVec.getLsbD_not, hi, decide_true, Bool.true_and, BitVec.getLsbD_zero] at this ⊢
  revert this
  cases (BitVec.ofInt 64 (b : Int)).getLsbD i <;> cases (BitVec.ofInt 64 (a : Int)).getLsbD i <;> simp
 have h6 : andI (b : Int) (a : Int) = (b : Int) := by
  rw [andI_nat (by omega) (by omega)]
  have := congrArg BitVec.toNat hz2
  rw [BitVec.toNat_and, ha, hb] at this
  rw [this]
 simp only [qi, Bool.and_eq_true, decide_eq_true_eq]
 exact ⟨⟨⟨⟨by omega, by omega⟩, by omega, by omega⟩, h6⟩, h5⟩
theorem valid_eq {w p : Int} (hp : p < 9223372036854775808) : qi w p = y1 w p := by
 cases h : y1 w p with
 | true => exact split_valid h hp
 | false =>
  cases h2 : qi w p with
  | false => rfl
  | true => rw [(valid_split h2).1] at h; cases h
theorem any_drop {l : List Sp} {i : Nat} (h : i < l.length) {p : Sp → Bool} : (l.drop i).any p = (p (l.getD i default) || (l.drop (i + 1)).any p) := by
 rw [yw default h, List.any_cons]
set_option maxHeartbeats 4000000 in
set_option maxRecDepth 10000 in
theorem error_ok {I : yh} (hI : Plain I) {s : St} (hf : Fine s) {w bad : Int} {vj vm : Value} {js : List (Int × Int)} {l : List Sp} (hj : Sl s 30 2 vj (js.map jc)) (hl : Sl s 62 10 vm (l.map Sp.cells)) (hin : ∀ x ∈ l, x.p < 9223372036854775808) (hll : l.length ≤ 4000) (hjl : js.length ≤ 4000) (hroom : s.next + 10000 ≤ zp) :
  ∃ v' s', yJ Tryz.prog I 45 #[.int .i64 w, vj, .int .i64 bad, vm] s v' s' ∧ (v' = .int .i64 (xm w js bad l) ∧ HL [] s s' [] 10000) := by
 have H := hf.hl
 obtain ⟨a, len, cap, rfl, hn⟩ := hj.isSlice
 rw [List.length_map] at hn
 subst hn
 obtain ⟨a2, len2, cap2, rfl, hn2⟩ := hl.isSlice
 rw [List.length_map] at hn2
 subst hn2
 refine yf 4 (hI 45 (by decide) (by decide)) Tryz.func45 rfl fb45 rfl ?_
 refine zf (za rfl (zh (zb (zy (zf (za rfl (zk rfl (za rfl (zZ xM rfl rfl rfl (za rfl (yy rfl rfl (fun h => False.elim (by omega)) (fun h => ?_))))))))))))
 refine za rfl (zi rfl (za rfl (zk rfl (za rfl (zZ un24 rfl rfl rfl (za rfl (yy rfl rfl (fun h => ?_) (fun h => ?_))))))))
 ·refine za rfl (zv rfl rfl (zb (zq rfl (zf (za rfl (zh (zb (zr (zo (zm (zN (⟨congrArg (Value.int .i64) ?_, H.up (by omega)⟩))))))))))))
  unfold xm
  rw [if_pos (by omega)]
 refine za rfl (zv rfl rfl (zb (zw rfl (zD (zj (zy (zf (za rfl (ze rfl (za rfl (ye rfl rfl (fun h => ?_) (fun h => ?_))))))))))))
 ·refine za rfl (zi rfl (zc rfl (zc rfl (za rfl (zB rfl (za rfl (zi rfl (zc rfl (zc rfl (za rfl (zB rfl (za rfl (zi rfl (zc rfl (zc rfl (zc rfl ?_))))))))))))))))
  refine zc rfl (zc rfl (za rfl (zB rfl (zb (zq rfl (zf (za rfl (zh (zb (zr (zo (zm (zN ?_)))))))))))))
  refine ⟨congrArg (Value.int .i64) ?_, H.up (by omega)⟩
  try simp only [Int.toNat_natCast, Int.one_mul] at h
  unfold xm
  rw [if_neg (by omega), if_pos (by omega)]
 refine za rfl (zi rfl (za rfl (ze rfl (za rfl (yy rfl rfl (fun h => ?_) (fun h => ?_))))))
 ·refine za rfl (zv rfl rfl (za rfl (zi rfl (zc rfl (zc rfl (za rfl (zB rfl (za rfl (zi rfl (zc rfl (zc rfl (zc rfl (zc rfl (zc rfl (za rfl (zB rfl ?_))))))))))))))))
  refine zb (zq rfl (zf (za rfl (zh (zb (zr (zo (zm (zN (⟨congrArg (Value.int .i64) ?_, H.up (by omega)⟩))))))))))
  try simp only [Int.toNat_natCast, Int.one_mul] at h
  unfold xm
  rw [if_neg (by omega), if_pos (by omega)]
 refine za rfl (zv rfl rfl (za rfl (zi rfl (za rfl (ze rfl (za rfl (ye rfl rfl (fun h => ?_) (fun h => ?_))))))))
 ·refine za rfl (zv rfl rfl (za rfl (zi rfl (zc rfl (zc rfl (zc rfl (zc rfl (zc rfl (za rfl (zB rfl (zb (zq rfl (zf (za rfl (zh ?_)))))))))))))))
  refine zb (zr (zo (zm (zN (⟨congrArg (Value.int .i64) ?_, H.up (by omega)⟩)))))
  try simp only [Int.toNat_natCast, Int.one_mul] at h
  unfold xm
  rw [if_neg (by omega), if_pos (by omega)]
 refine za rfl (zv rfl rfl (za rfl (zi rfl (za rfl (ze rfl ?_)))))
 have hp2 := qL (n := js.length) (by omega)
 refine za rfl (zk rfl (za rfl (zZ un24 rfl rfl rfl (za rfl (op_shl rfl rfl (by omega) (by omega) (by unfold zV; simp only [Int.toNat_natCast]; omega) (za rfl (qN rfl rfl (fun h => ?_) (fun h => ?_))))))))
 ·refine za rfl (zv rfl rfl (zb (zq rfl (zf (za rfl (zh (zb (zr (zo (zm (zN (⟨congrArg (Value.int .i64) ?_, H.up (by omega)⟩))))))))))))
  try simp only [Int.toNat_natCast, Int.one_mul] at h
  unfold xm
  rw [if_neg (by omega), if_pos (by omega)]
 refine za rfl (zv rfl rfl (zb (zw rfl (zD (zj (zy ?_))))))
 simp only [Int.toNat_natCast, Int.one_mul] at h
 refine zf (za rfl (zh (zb (zH (yu (fun k F s1 => ∃ (G : FF) (i : Nat), F = lay G [(1, .slice a js.length cap), (3, .slice a2 l.length cap2), (9, .int .i64 (i : Int))] ∧ HL [] s s1 [] i ∧ i ≤ l.length ∧ k = l.length - i ∧ l.any (fun x => !y1 x.w x.p) = (l.drop i).any (fun x => !y1 x.w x.p)) ?_ l.length _ _ ?_)))))
 rotate_left
 ·exact ⟨_, 0, yb ⟨rfl, rfl, rfl, trivial⟩, H, by omega, by omega, rfl⟩
 rintro k F s1 ⟨G, i, rfl, H, hi, rfl, hn⟩
 refine zy (zf (za rfl (ze rfl (za rfl (zk rfl (za rfl (zZ xM rfl rfl rfl (za rfl (ye rfl rfl (fun h => ?_) (fun h => ?_))))))))))
 ·refine zb (zq rfl (zD (zj (zy (zH (zf (za rfl (zk rfl (za rfl (ze rfl ?_))))))))))
  obtain ⟨b, off, c, rfl, hg, hb, hc⟩ := (hl.kept H).atS rfl (show i < l.length by omega)
  refine za rfl (zA x9 rfl rfl (by unfold zp at *; omega) (by unfold zp at *; omega) (za rfl (z7 sh62 rfl hg hc (za rfl (zx rfl fc39 rfl ?_)))))
  obtain ⟨_, s9, hr, rfl, Hc⟩ := valid_ok (x := l.getD i default) hI H.fine (by have := H.most; omega)
  refine ⟨_, _, hr, ?_⟩
  clear hr
  have H := H.call0 Hc
  clear Hc
  rw [valid_eq (hin _ (zP (show i < l.length by omega)))]
  cases hv : y1 (l.getD i default).w (l.getD i default).p
  ·refine za rfl (yz rfl (zb (zq rfl (zf (za rfl (zh (zb (zr (zu (zo (zL (zu (zo ?_)))))))))))))
   refine zm (zN (⟨congrArg (Value.int .i64) ?_, H.up (by omega)⟩))
   unfold xm
   rw [if_neg (by omega), if_neg (by omega), if_pos]
   rw [hn, any_drop (show i < l.length by omega), hv]
   rfl
  refine za rfl (yz rfl (zb (zw rfl (zD (zK (zj (zC (za rfl (ze rfl (za rfl (zW rfl rfl (by unfold zV; (unfold zp at *; omega)) (za rfl (zl rfl (zb (zI ?_)))))))))))))))
  refine ⟨l.length - (i + 1), by omega, _, i + 1, yb ⟨rfl, rfl, rfl, trivial⟩, H.up (by omega), by omega, rfl, ?_⟩
  rw [hn, any_drop (show i < l.length by omega), hv]
  rfl
 refine zb (zw rfl (yc (zQ (ya (zY (zj (zy ?_)))))))
 have hany : l.any (fun x => !y1 x.w x.p) = false := by rw [hn, List.drop_eq_nil_of_le (by omega)]; rfl
 clear hn
 refine zf (za rfl (zh (zb (zH (yu (fun k F s1 => ∃ (G : FF) (i : Nat), F = lay G [(1, .slice a js.length cap), (10, .int .i64 (i : Int))] ∧ HL [] s s1 [] (l.length + i) ∧ i ≤ js.length ∧ k = js.length - i ∧ xp js = xp (js.drop i)) ?_ js.length _ _ ?_)))))
 rotate_left
 ·exact ⟨_, 0, yb ⟨rfl, rfl, trivial⟩, H.up (by omega), by omega, by omega, rfl⟩
 rintro k F s1 ⟨G, i, rfl, H, hi, rfl, hn⟩
 refine zy (zf (za rfl (ze rfl (za rfl (zk rfl (za rfl (zZ un24 rfl rfl rfl (za rfl (ye rfl rfl (fun h => ?_) (fun h => ?_))))))))))
 ·refine zb (zq rfl (zD (zj (zy (zH (zf (za rfl (zk rfl (za rfl (ze rfl ?_))))))))))
  obtain ⟨b, off, c, rfl, hg, hb, hc⟩ := (hj.kept H).atJ rfl (show i < js.length by omega)
  refine za rfl (zA el24 rfl rfl (by unfold zp at *; omega) (by unfold zp at *; omega) (za rfl (z7 sh30 rfl hg hc (za rfl (yi H zf30 (by unfold zp at *; omega) (fun b11 s1 H => ?_))))))
  refine za rfl (yg (vs := [.int _ _, .int _ _]) H sz30 rfl rfl rfl rfl rfl (by unfold zp at *; omega) (fun s2 H => ?_))
  refine zb (zf (za rfl (xb el30 rfl rfl (by unfold zp at *; omega) (by unfold zp at *; omega) (za rfl (zn sh3 rfl H.own0 rfl (za rfl (ye rfl rfl (fun h => ?_) (fun h => ?_))))))))
  ·refine za rfl (zi rfl (zc rfl (zc rfl (zc rfl (za rfl (zB rfl (za rfl (zi rfl (zc rfl (zc rfl (zc rfl (za rfl (zB rfl (za rfl (zi rfl (zc rfl ?_))))))))))))))))
   refine zc rfl (zc rfl (za rfl (zB rfl (za rfl (zi rfl (zc rfl (zc rfl (zc rfl (zc rfl (zc rfl (za rfl (zB rfl (zb (zq rfl ?_))))))))))))))
   refine zf (za rfl (zh (zb (zr (zu (zo (zL (zu (zo (zm (zN (⟨congrArg (Value.int .i64) ?_, H.drop0.up (by omega)⟩))))))))))))
   unfold xm
   rw [if_neg (by omega), if_neg (by omega), if_neg (by rw [hany]; simp), if_neg]
   rw [hn, yw (0, 0) (show i < js.length by omega), xp]
   simp only [Bool.and_eq_true, Bool.not_eq_true', Bool.or_eq_false_iff, decide_eq_false_iff_not]
   omega
  refine za rfl (zi rfl (za rfl (xb el30 rfl rfl (by unfold zp at *; omega) (by unfold zp at *; omega) (za rfl (zn sh3 rfl H.own0 rfl (za rfl (yy rfl rfl (fun h => ?_) (fun h => ?_))))))))
  ·refine za rfl (zv rfl rfl (za rfl (zi rfl (zc rfl (zc rfl (zc rfl (za rfl (zB rfl (za rfl (zi rfl (zc rfl (zc rfl (zc rfl (za rfl (zB rfl (za rfl (zi rfl ?_)))))))))))))))))
   refine zc rfl (zc rfl (zc rfl (zc rfl (zc rfl (za rfl (zB rfl (zb (zq rfl (zf (za rfl (zh (zb (zr ?_)))))))))))))
   refine zu (zo (zL (zu (zo (zm (zN (⟨congrArg (Value.int .i64) ?_, H.drop0.up (by omega)⟩)))))))
   unfold xm
   rw [if_neg (by omega), if_neg (by omega), if_neg (by rw [hany]; simp), if_neg]
   rw [hn, yw (0, 0) (show i < js.length by omega), xp]
   simp only [Bool.and_eq_true, Bool.not_eq_true', Bool.or_eq_false_iff, decide_eq_false_iff_not]
   omega
  refine za rfl (zv rfl rfl (za rfl (zi rfl (za rfl (xb el30 rfl rfl (by unfold zp at *; omega) (by unfold zp at *; omega) (za rfl (zn sh3 rfl H.own0 rfl (za rfl (ye rfl rfl (fun h => ?_) (fun h => ?_))))))))))
  ·refine za rfl (zv rfl rfl (za rfl (zi rfl (zc rfl (zc rfl (zc rfl (za rfl (zB rfl (za rfl (zi rfl (zc rfl (zc rfl (zc rfl (zc rfl (zc rfl ?_)))))))))))))))
   refine za rfl (zB rfl (zb (zq rfl (zf (za rfl (zh (zb (zr (zu (zo (zL (zu (zo ?_)))))))))))))
   refine zm (zN (⟨congrArg (Value.int .i64) ?_, H.drop0.up (by omega)⟩))
   unfold xm
   rw [if_neg (by omega), if_neg (by omega), if_neg (by rw [hany]; simp), if_neg]
   rw [hn, yw (0, 0) (show i < js.length by omega), xp]
   simp only [Bool.and_eq_true, Bool.not_eq_true', Bool.or_eq_false_iff, decide_eq_false_iff_not]
   omega
  refine za rfl (zv rfl rfl (za rfl (zi rfl (za rfl (xb el30 rfl rfl (by unfold zp at *; omega) (by unfold zp at *; omega) (za rfl (zn sh3 rfl H.own0 rfl (za rfl (yy rfl rfl (fun h => ?_) (fun h => ?_))))))))))
  ·refine za rfl (zv rfl rfl (za rfl (zi rfl (zc rfl (zc rfl (zc rfl (zc rfl (zc rfl (za rfl (zB rfl (zb (zq rfl (zf (za rfl (zh ?_)))))))))))))))
   refine zb (zr (zu (zo (zL (zu (zo (zm (zN (⟨congrArg (Value.int .i64) ?_, H.drop0.up (by omega)⟩)))))))))
   unfold xm
   rw [if_neg (by omega), if_neg (by omega), if_neg (by rw [hany]; simp), if_neg]
   rw [hn, yw (0, 0) (show i < js.length by omega), xp]
   simp only [Bool.and_eq_true, Bool.not_eq_true', Bool.or_eq_false_iff, decide_eq_false_iff_not]
   omega
  refine za rfl (zv rfl rfl (za rfl (zi rfl (za rfl (xb el30 rfl rfl (by unfold zp at *; omega) (by unfold zp at *; omega) (za rfl (zn sh3 rfl H.own0 rfl (za rfl (xb el30 rfl rfl (by unfold zp at *; omega) (by unfold zp at *; omega) (za rfl (zn sh3 rfl H.own0 rfl (za rfl (yD rfl rfl (fun h => ?_) (fun h => ?_))))))))))))))
  ·refine za rfl (zv rfl rfl (zb (zq rfl (zf (za rfl (zh (zb (zr (zu (zo (zL (zu (zo ?_)))))))))))))
   refine zm (zN (⟨congrArg (Value.int .i64) ?_, H.drop0.up (by omega)⟩))
   unfold xm
   rw [if_neg (by omega), if_neg (by omega), if_neg (by rw [hany]; simp), if_neg]
   rw [hn, yw (0, 0) (show i < js.length by omega), xp]
   simp only [Bool.and_eq_true, Bool.not_eq_true', Bool.or_eq_false_iff, decide_eq_false_iff_not]
   omega
  refine za rfl (zv rfl rfl (zb (zw rfl (zD (zK (zj (zC (za rfl (ze rfl (za rfl (zW rfl rfl (by unfold zV; (unfold zp at *; omega)) (za rfl (zl rfl (zb (zI ?_)))))))))))))))
  refine ⟨js.length - (i + 1), by omega, _, i + 1, yb ⟨rfl, rfl, trivial⟩, H.drop0.up (by omega), by omega, rfl, ?_⟩
  rw [hn, yw (0, 0) (show i < js.length by omega), xp]
  simp only [Bool.and_eq_right_iff_imp, Bool.not_eq_true', Bool.or_eq_false_iff, decide_eq_false_iff_not]
  intro _
  omega
 refine zb (zw rfl (yc (zQ (ya (zY (zj (zf (za rfl (zh (zb (zr (zm ?_))))))))))))
 refine zN (⟨congrArg (Value.int .i64) ?_, H.up (by omega)⟩)
 unfold xm
 rw [if_neg (by omega), if_neg (by omega), if_neg (by rw [hany]; simp), hn, List.drop_eq_nil_of_le (by omega)]
 rfl
set_option maxHeartbeats 4000000 in
set_option maxRecDepth 10000 in
theorem qR {I : yh} (hI : Plain I) {s : St} (hf : Fine s) {a1 a2 : Option Addr} {c1 c2 : Nat} {ks ns : List Int} {x : Int} (h1 : Sl s 23 1 (.slice a1 ks.length c1) (ks.map dc)) (h2 : Sl s 3 1 (.slice a2 ns.length c2) (ns.map dc)) (hlen : ks.length ≤ 1000000) (hroom : s.next + 1 ≤ zp) :
  ∃ v' s', yJ Tryz.prog I 46 #[.agg ⟨[.slice a1 ks.length c1, .slice a2 ns.length c2]⟩, .int .i64 x] s v' s' ∧ (v' = .int .i64 (atP ks ns x) ∧ HL [] s s' [] 1) := by
 have H := hf.hl
 refine yf 2 (hI 46 (by decide) (by decide)) Tryz.func46 rfl fb46 rfl ?_
 refine zf (za rfl (yI H rfl (by omega) (fun b2 s1 H => ?_)))
 refine za rfl (zh (zb (zy (zf (za rfl (zh (zb (zH (yu (fun k F s1 => ∃ (G : FF) (i : Nat), F = lay G [(1, .int .i64 x), (2, .pointer (some ⟨b2, 0, none⟩)), (5, .int .i64 (i : Int))] ∧ HL [] s s1 [(b2, .cells [.slice a1 ks.length c1, .slice a2 ns.length c2] 40)] 1 ∧ i ≤ ks.length ∧ k = ks.length - i ∧ atP ks ns x = atP (ks.drop i) (ns.drop i) x) ?_ ks.length _ _ ?_)))))))))
 rotate_left
 ·exact ⟨_, 0, yb ⟨rfl, rfl, rfl, trivial⟩, H, by omega, by omega, rfl⟩
 rintro k F s1 ⟨G, i, rfl, H, hi, rfl, hn⟩
 refine zy (zf (za rfl (ze rfl (za rfl (zg y9 rfl (za rfl (zn x5 rfl H.own0 rfl (za rfl (zZ qd rfl rfl rfl (za rfl (ye rfl rfl (fun h => ?_) (fun h => ?_))))))))))))
 ·refine za rfl (zi rfl (za rfl (ze rfl (za rfl (zg y2 rfl (za rfl (zn yS rfl H.own0 rfl (za rfl (zZ xt rfl rfl rfl (za rfl (ye rfl rfl (fun h => ?_) (fun h => ?_))))))))))))
  ·refine za rfl (zM rfl rfl (zb (zq rfl (zD (zj (zy (zH (zf (za rfl (zg y9 rfl (za rfl (zn x5 rfl H.own0 rfl (za rfl (ze rfl ?_))))))))))))))
   obtain ⟨b, off, c, rfl, hg, hb, hc⟩ := (h1.kept H).atD (i := (i : Int)) (k := i) rfl (by omega)
   have hst : atP (ks.drop i) (ns.drop i) x = if ks.getD i 0 = x then ns.getD i 0 else atP (ks.drop (i + 1)) (ns.drop (i + 1)) x := by rw [yw 0 (show i < ks.length by omega), yw 0 (show i < ns.length by omega), atP]
   refine za rfl (zA xU rfl rfl (by omega) (by omega) (za rfl (zn ys rfl hg hc (za rfl (ze rfl (za rfl (yD rfl rfl (fun h => ?_) (fun h => ?_))))))))
   ·refine zb (zq rfl (zf (za rfl (zg y2 rfl (za rfl (zn yS rfl H.own0 rfl (za rfl (ze rfl ?_))))))))
    obtain ⟨e2, off2, cc2, rfl, hg2, hb2, hc2⟩ := (h2.kept H).atD (i := (i : Int)) (k := i) rfl (by omega)
    refine za rfl (zA xP rfl rfl (by omega) (by omega) (za rfl (zn sh3 rfl hg2 hc2 (za rfl (zl rfl (zb (zr (zu (zo (zL (zu (zo (zm (zN ?_))))))))))))))
    refine ⟨congrArg (Value.int .i64) ?_, H.drop0⟩
    rw [hn, hst, if_pos (by assumption)]
   refine zb (zw rfl (zD (zK (zj (zC (za rfl (ze rfl (za rfl (zW rfl rfl (by unfold zV; omega) (za rfl (zl rfl (zb (zI (⟨ks.length - (i + 1), by omega, _, i + 1, yb ⟨rfl, rfl, rfl, trivial⟩, H, by omega, rfl, ?_⟩))))))))))))))
   rw [hn, hst, if_neg (by assumption)]
  refine za rfl (zM rfl rfl (zb (zw rfl (yc (zQ (ya (zY (zj (zf (za rfl (zh (zb (zr ?_)))))))))))))
  refine zm (zN (⟨congrArg (Value.int .i64) ?_, H.drop0⟩))
  rw [hn]
  (rw [List.drop_eq_nil_of_le (show ns.length ≤ i by omega)]; cases ks.drop i <;> rfl)
 refine za rfl (zi rfl (zc rfl (zc rfl (zc rfl (zc rfl (zc rfl (za rfl (z6 rfl (zb (zw rfl (yc (zQ (ya ?_)))))))))))))
 refine zY (zj (zf (za rfl (zh (zb (zr (zm (zN (⟨congrArg (Value.int .i64) ?_, H.drop0⟩)))))))))
 rw [hn]
 (rw [List.drop_eq_nil_of_le (show ks.length ≤ i by omega)]; rfl)
end Go.Proofs.YtdejleegamcioaaGreat
