/- The reference's least cleaning, in plain words. -/
/- The reference of cleanings: sets in lists, what a set needs. -/
/- The reference of cleanings: its errors, and numbers in levels. -/
/- The reference of cleanings: the sets that come about. -/
/- The reference of cleanings: the least numbers. -/
/- The reference of cleanings: the least one. -/
/- The reference of cleanings: what Least returns. -/
/- undo.Least for arguments that are not proper. -/
/- undo.Least, for proper arguments: what it returns. -/
/- Comparisons: what is compared with itself is the same. -/
import Derived.Test.YtdejleegamcioaaGreatF20
namespace Go.Proofs.YtdejleegamcioaaGreat
open Go Go.M
abbrev Inc (l : List Int) : Prop := l.Pairwise (· < ·)
theorem Inc.nodup {l : List Int} (h : Inc l) : l.Nodup := List.Pairwise.imp (fun h => by omega) h
theorem insI_le {x : Int} : ∀ {l : List Int}, l.Pairwise (· ≤ ·) → (insI x l).Pairwise (· ≤ ·)
 | [], _ => by simp [insI]
 | y :: l, h => by
  rw [insI]
  rw [List.pairwise_cons] at h
  cases hb : ile x y with
  | true =>
   have hxy : x ≤ y := by simpa [ile_eq] using hb
   simp only
   rw [List.pairwise_cons, List.pairwise_cons]
   refine ⟨fun z hz => ?_, h.1, h.2⟩
   rcases List.mem_cons.mp hz with e | hz
   ·omega
   ·have := h.1 z hz; omega
  | false =>
   have hxy : ¬ x ≤ y := by simpa [ile_eq] using hb
   simp only
   rw [List.pairwise_cons]
   refine ⟨fun z hz => ?_, insI_le h.2⟩
   rcases List.mem_cons.mp ((insI_perm x l).mem_iff.mp hz) with e | hz
   ·omega
   ·exact h.1 z hz
theorem isort_le : ∀ (l : List Int), (yO l).Pairwise (· ≤ ·)
 | [] => .nil
 | x :: l => insI_le (isort_le l)
theorem isort_inc {l : List Int} (h : l.Nodup) : Inc (yO l) := by
 have h1 := isort_le l
 have h2 : (yO l).Nodup := (xv l).nodup_iff.mpr h
 exact (List.Pairwise.and h1 h2).imp fun ⟨a, b⟩ => by omega
section
variable (js : List (Int × Int)) (bad : Int) (may : List Sp)
def Clo (l : List Sp) (out : List Int) : Prop := ∀ m ∈ l, m.w ∈ out → yl m.w bad 0 js = true → m.p ∈ out ∧ zI m.w m.p ∈ out
variable {js bad may}
theorem Rch.range (hm : y0 may) {w x : Int} (h0 : 0 < w) (h : Rch js bad may w x) : 0 < x ∧ x ≤ w := by
 induction h with
 | self => omega
 | part h hn hm2 hw ih =>
  obtain ⟨a, b⟩ := hm _ hm2
  have := yP a b
  omega
 | @rest S m h hn hm2 hw ih =>
  obtain ⟨a, b⟩ := hm _ hm2
  have := yP a b
  subst hw
  omega
theorem Clo.all {out : List Int} {w : Int} (h : Clo js bad may out) (hw : w ∈ out) {x : Int} (hx : Rch js bad may w x) : x ∈ out := by
 induction hx with
 | self => exact hw
 | part _ hn hm hw ih => subst hw; exact (h _ hm ih hn).1
 | rest _ hn hm hw ih => subst hw; exact (h _ hm ih hn).2
theorem Good.closed {E : List Ent} (h : Good js bad may E) : Clo js bad may (yH E) := fun m hm hk hn => by
 obtain ⟨e, he, hek⟩ := List.mem_map.mp hk
 have := h.clo e he (by rw [hek]; exact hn) m hm hek.symm
 rw [hek] at this
 exact this
def stepN (v : Int → Int) (S : Int) (n : Int) (m : Sp) : Int :=
 if m.w ≠ S then n else if v m.p < 65536 ∧ v (zI S m.p) < 65536 then min n (1 + v m.p + v (zI S m.p)) else n
theorem stepN_eq {v : Int → Int} {S : Int} {acc : Int × Sp} {m : Sp} : (y4 v S acc m).1 = stepN v S acc.1 m := by
 unfold y4 stepN
 by_cases h : m.w = S
 ·have hne : ¬ m.w ≠ S := fun k => k h
  rw [if_neg hne, if_neg hne]
  by_cases h1 : v m.p < 65536 ∧ v (zI S m.p) < 65536
  ·rw [if_pos h1]
   by_cases h2 : 1 + v m.p + v (zI S m.p) < acc.1
   ·rw [if_pos ⟨h1.1, h1.2, h2⟩]; simp only; omega
   ·rw [if_neg (fun h => h2 h.2.2)]; omega
  ·rw [if_neg h1, if_neg (fun h => h1 ⟨h.1, h.2.1⟩)]
 ·rw [if_pos h, if_pos h]
theorem foldN_eq {v : Int → Int} {S : Int} : ∀ {l : List Sp} {acc : Int × Sp}, (l.foldl (y4 v S) acc).1 = l.foldl (stepN v S) acc.1
 | [], _ => rfl
 | m :: l, acc => by rw [List.foldl_cons, List.foldl_cons, foldN_eq, stepN_eq]
theorem foldN_pos {v : Int → Int} {S : Int} (hv : ∀ x, 0 ≤ v x) : ∀ {l : List Sp} {n : Int}, 0 < n → 0 < l.foldl (stepN v S) n
 | [], _, h => h
 | m :: l, n, h => by
  rw [List.foldl_cons]
  refine foldN_pos hv ?_
  have := hv m.p
  have := hv (zI S m.p)
  unfold stepN
  split
  ·exact h
  ·split <;> omega
theorem bb_num (hm : y0 may) {S : Int} (h0 : 0 < S) : (bb js bad may S).1 = if yl S bad 0 js = true then may.foldl (stepN (fun x => (bb js bad may x).1) S) 65536 else 0 := by
 rw [bb_eq hm h0]
 split
 ·exact foldN_eq
 ·rfl
theorem bb_pos (hm : y0 may) {S : Int} (h0 : 0 < S) (hn : yl S bad 0 js = true) : 0 < (bb js bad may S).1 := by
 rw [bb_num hm h0, if_pos hn]
 exact foldN_pos (fun x => (yR x).1) (by omega)
def atP : List Int → List Int → Int → Int
 | s :: S, n :: N, x => if s = x then n else atP S N x
 | _, _, _ => -1
theorem atP_map {g : Int → Int} {x : Int} : ∀ {l : List Int}, x ∈ l → atP l (l.map g) x = g x
 | [], h => by simp at h
 | y :: l, h => by
  rw [List.map_cons, atP]
  by_cases e : y = x
  ·rw [if_pos e, e]
  ·rw [if_neg e]
   rcases List.mem_cons.mp h with e2 | h
   ·exact absurd e2.symm e
   ·exact atP_map h
theorem fold_first {v : Int → Int} {S : Int} (hv : ∀ x, 0 ≤ v x) : ∀ (l : List Sp) (acc : Int × Sp), acc.1 ≤ 65536 →
  (l.foldl (y4 v S) acc).1 = acc.1 ∧ (l.foldl (y4 v S) acc).2 = acc.2 ∨
  (l.foldl (y4 v S) acc).1 < acc.1 ∧ ∃ l1 l2, l = l1 ++ (l.foldl (y4 v S) acc).2 :: l2 ∧ (l.foldl (y4 v S) acc).2.w = S ∧ 1 + v (l.foldl (y4 v S) acc).2.p + v (zI S (l.foldl (y4 v S) acc).2.p) = (l.foldl (y4 v S) acc).1 ∧ ∀ m ∈ l1, m.w = S → 1 + v m.p + v (zI S m.p) ≠ (l.foldl (y4 v S) acc).1
 | [], acc, _ => .inl ⟨rfl, rfl⟩
 | m :: l, acc, ha => by
  rw [List.foldl_cons]
  have h1 := hv m.p
  have h2 := hv (zI S m.p)
  have key : y4 v S acc m = acc ∧ (m.w = S → acc.1 ≤ 1 + v m.p + v (zI S m.p)) ∨ y4 v S acc m = (1 + v m.p + v (zI S m.p), m) ∧ m.w = S ∧ 1 + v m.p + v (zI S m.p) < acc.1 := by
   unfold y4
   by_cases hw : m.w = S
   ·rw [if_neg (by simpa using hw)]
    by_cases hc : v m.p < 65536 ∧ v (zI S m.p) < 65536 ∧ 1 + v m.p + v (zI S m.p) < acc.1
    ·rw [if_pos hc]; exact .inr ⟨rfl, hw, hc.2.2⟩
    ·rw [if_neg hc]; exact .inl ⟨rfl, fun _ => by omega⟩
   ·rw [if_pos hw]; exact .inl ⟨rfl, fun h => absurd h hw⟩
  rcases key with ⟨e, hk⟩ | ⟨e, hk, hlt⟩
  ·rw [e]
   rcases fold_first hv l acc ha with h | ⟨h, l1, l2, h3, h4, h5, h6⟩
   ·exact .inl h
   ·refine .inr ⟨h, m :: l1, l2, by rw [List.cons_append, ← h3], h4, h5, fun x hx hxw => ?_⟩
    rcases List.mem_cons.mp hx with e2 | hx
    ·subst e2; have := hk hxw; omega
    ·exact h6 x hx hxw
  ·rw [e]
   rcases fold_first hv l (1 + v m.p + v (zI S m.p), m) (by simp only; omega) with ⟨h, h3⟩ | ⟨h, l1, l2, h3, h4, h5, h6⟩
   ·refine .inr ⟨by rw [h]; exact hlt, [], l, by rw [h3]; rfl, by rw [h3]; exact hk, by rw [h, h3], fun x hx => by simp at hx⟩
   ·refine .inr ⟨by simp only at h; omega, m :: l1, l2, by rw [List.cons_append, ← h3], h4, h5, fun x hx hxw => ?_⟩
    rcases List.mem_cons.mp hx with e2 | hx
    ·subst e2; simp only at h; omega
    ·exact h6 x hx hxw
theorem bb_first (hm : y0 may) {S : Int} (h0 : 0 < S) (hp : 0 < (bb js bad may S).1) (hl : (bb js bad may S).1 < 65536) :
  ∃ l1 l2, may = l1 ++ (bb js bad may S).2 :: l2 ∧ (bb js bad may S).2.w = S ∧ 1 + (bb js bad may (bb js bad may S).2.p).1 + (bb js bad may (zI S (bb js bad may S).2.p)).1 = (bb js bad may S).1 ∧ ∀ m ∈ l1, m.w = S → 1 + (bb js bad may m.p).1 + (bb js bad may (zI S m.p)).1 ≠ (bb js bad may S).1 := by
 have e := bb_eq (js := js) (bad := bad) hm h0
 by_cases hn : yl S bad 0 js = true
 ·rw [if_pos hn] at e
  rcases fold_first (v := fun x => (bb js bad may x).1) (S := S) (fun x => (yR x).1) may (65536, default) (by simp) with ⟨h, _⟩ | ⟨_, h⟩
  ·rw [← e] at h; simp only at h; omega
  ·rw [← e] at h; exact h
 ·rw [if_neg hn] at e
  rw [e] at hp
  simp at hp
theorem at_split {l l1 l2 : List Sp} {x : Sp} (h : l = l1 ++ x :: l2) : l[l1.length]? = some x := by
 subst h
 simp
end
section
variable (js : List (Int × Int)) (bad : Int) (may : List Sp) (w : Int)
structure LOut where
 x : List Sp
 n : Int
 ks : List Int
 ns : List Int
 e : Int
def LIs (o : LOut) : Prop :=
 (xK w js bad may ≠ 0 ∧ o = ⟨[], 0, [], [], xK w js bad may⟩) ∨
 (xK w js bad may = 0 ∧ (bb js bad may w).1 = 65536 ∧ o = ⟨[], 0, [], [], 6⟩) ∨
 (xK w js bad may = 0 ∧ (bb js bad may w).1 < 65536 ∧ Inc o.ks ∧ (∀ k, k ∈ o.ks ↔ Rch js bad may w k) ∧ o.ns = o.ks.map (fun q => (bb js bad may q).1) ∧ o.x = tk js bad may (w.toNat + 1) w ∧ o.n = (bb js bad may w).1 ∧ o.e = 0)
variable {js bad may w}
theorem err_zero (h : xK w js bad may = 0) : may.length ≤ 4096 ∧ js.length ≤ 16 ∧ 0 < w ∧ w < 65536 ∧ 0 ≤ bad ∧ bad < 2 ^ js.length ∧ (∀ x ∈ may, xl x.w x.p = true) ∧ qb js = true := by
 unfold xK at h
 split at h
 ·omega
 ·split at h
  ·omega
  ·split at h
   ·omega
   ·next h3 =>
    split at h
    ·next h4 =>
     refine ⟨by omega, by omega, by omega, by omega, by omega, by omega, fun x hx => ?_, h4⟩
     cases hs : xl x.w x.p with
     | true => rfl
     | false => exact absurd (List.any_eq_true.mpr ⟨x, hx, by rw [hs]; rfl⟩) h3
    ·omega
theorem joinsB_all : ∀ {js : List (Int × Int)}, qb js = true → ∀ j ∈ js, joinB j ∧ j.1 ≠ j.2
 | [], _ => fun j hj => by simp at hj
 | j :: r, h => by
  rw [qb, Bool.and_eq_true] at h
  intro x hx
  rcases List.mem_cons.mp hx with e | hx
  ·subst e
   have h1 := h.1
   simp only [Bool.not_eq_true', Bool.or_eq_false_iff, decide_eq_false_iff_not] at h1
   unfold joinB
   omega
  ·exact joinsB_all h.2 x hx
end
end Go.Proofs.YtdejleegamcioaaGreat
namespace Go.Proofs.YtdejleegamcioaaGreat
open Go Go.M
theorem fb55 : yw Tryz.f55 (Tryz.f55.body.getD .skip) 3 = true := by kernel_rfl
theorem fb36 : yw Tryz.f36 (Tryz.f36.body.getD .skip) 1 = true := by kernel_rfl
theorem Sl.gotJ {s : St} {b off len cap : Nat} {l : List (Int × Int)} (h : Sl s 30 2 (.slice (some ⟨b, off, none⟩) len cap) (l.map jc)) {k : Nat} (hk : k < l.length) : ∃ c, s.get b = some (.cells c 30) ∧ yA c (off + ((k : Int)).toNat * 2 + 0) = some (.int .i64 (l.getD k (0, 0)).1) ∧ yA c (off + ((k : Int)).toNat * 2 + 1) = some (.int .i64 (l.getD k (0, 0)).2) := by
 obtain ⟨b', off', c, h1, h2, h3, h4⟩ := h.atJ (i := (k : Int)) rfl hk
 cases h1
 refine ⟨c, h2, ?_⟩
 rw [qj, qA] at h4
 split at h4
 ·next hle =>
  rw [Option.some.injEq] at h4
  rw [List.length_drop] at hle
  have e : ∀ j, j < 2 → yA c (off + ((k : Int)).toNat * 2 + j) = (jc (l.getD k (0, 0)))[j]? := by
   intro j hj
   rw [yY, ← h4, List.getElem?_take, if_pos hj, List.getElem?_drop]
  exact ⟨e 0 (by omega), e 1 (by omega)⟩
 ·cases h4
theorem dcs_len {l : List Int} : ∀ x ∈ l.map dc, x.length = 1 := by
 intro x hx
 obtain ⟨y, _, rfl⟩ := List.mem_map.mp hx
 rfl
set_option maxHeartbeats 4000000 in
set_option maxRecDepth 10000 in
theorem needsR_ok {I : yb} (hI : Plain I) {s : St} {x bad : Int} {v : Value} {js : List (Int × Int)} (hl : Sl s 30 2 v (js.map jc)) (hj : ∀ j ∈ js, joinB j) (hlen : js.length ≤ 16) : ∃ v' s', yI Tryz.prog I 55 #[.int .i64 x, v, .int .i64 bad] s v' s' ∧ (v' = .bool (yl x bad 0 js) ∧ s' = s) := by
 obtain ⟨a, len, cap, rfl, hn⟩ := hl.isSlice
 rw [List.length_map] at hn
 subst hn
 refine yc 3 (hI 55 (by decide) (by decide)) Tryz.func55 rfl fb55 rfl ?_
 refine ze (za rfl (zh (zb (zx (ze (za rfl (zh (zb (zL (yB (fun k F s1 => ∃ (G : FF) (i : Nat), F = lay G [(0, .int .i64 x), (1, .slice a js.length cap), (2, .int .i64 bad), (7, .int .i64 (i : Int))] ∧ s1 = s ∧ i ≤ js.length ∧ k = js.length - i ∧ yl x bad 0 js = yl x bad i (js.drop i)) ?_ js.length _ _ ?_))))))))))
 rotate_left
 ·exact ⟨_, 0, yf ⟨rfl, rfl, rfl, rfl, trivial⟩, rfl, by omega, by omega, rfl⟩
 rintro k F s1 ⟨G, i, rfl, rfl, hi, rfl, hnd⟩
 refine zx (ze (za rfl (zf rfl (za rfl (zm rfl (za rfl (z7 un24 rfl rfl rfl (za rfl (yg rfl rfl (fun h => ?_) (fun h => ?_))))))))))
 ·refine za rfl (zi rfl (za rfl (zf rfl (za rfl (yg rfl rfl (fun h => ?_) (fun h => False.elim (by omega)))))))
  refine za rfl (zN rfl rfl (zb (zq rfl (zD (zj (zx (zL (ze ?_))))))))
  have hjm : joinB (js.getD i (0, 0)) := hj _ (zR (by omega))
  have hst : yl x bad i (js.drop i) = ((bit bad i && (bit x (js.getD i (0, 0)).1.toNat && bit x (js.getD i (0, 0)).2.toNat)) || yl x bad (i + 1) (js.drop (i + 1))) := by rw [yF (0, 0) (show i < js.length by omega), yl]
  obtain ⟨b, off, c0, rfl, hg0, hb0, hc0⟩ := hl.atJ (i := (i : Int)) (k := i) rfl (by omega)
  obtain ⟨c, hg, hc1, hc2⟩ := hl.gotJ (k := i) (by omega)
  refine za rfl (zf rfl (za rfl (zf rfl (za rfl (zy rfl fc26 rfl ?_)))))
  obtain ⟨_, _, hr, rfl, rfl⟩ := has_ok (s := _) (x := bad) (k := (i : Int)) hI
  refine ⟨_, _, hr, ?_⟩
  clear hr
  rw [show (decide ((0 : Int) ≤ (i : Int)) && decide ((i : Int) ≤ 15) && bit bad ((i : Int)).toNat) = bit bad i by rw [decide_eq_true (by omega), decide_eq_true (by omega), Int.toNat_natCast]; rfl]
  cases hb1 : bit bad i
  ·refine za rfl (zi rfl (zc rfl (zc rfl (zc rfl (zc rfl (zc rfl (zc rfl (zc rfl (za rfl (zY rfl (za rfl (zi rfl (zc rfl (zc rfl ?_))))))))))))))
   refine zc rfl (zc rfl (zc rfl (zc rfl (zc rfl (za rfl (zY rfl (zb (zv rfl (zD (zP (zj (zF ?_))))))))))))
   refine za rfl (zf rfl (za rfl (zZ rfl rfl (by unfold zS; omega) (za rfl (zk rfl (zb (zO (⟨js.length - (i + 1), by omega, _, i + 1, yf ⟨rfl, rfl, rfl, rfl, trivial⟩, rfl, by omega, rfl, ?_⟩))))))))
   rw [hnd, hst]
   (rw [hb1]; rfl)
  refine za rfl (zi rfl (za rfl (zf rfl (za rfl (zm rfl (za rfl (zf rfl (za rfl (zB el24 rfl rfl (by omega) (by omega) (za rfl (x6 el30 rfl rfl (by omega) (by omega) (za rfl (zl sh3 rfl hg hc1 (za rfl (zy rfl fc26 rfl ?_)))))))))))))))
  obtain ⟨_, _, hr, rfl, rfl⟩ := has_ok (s := _) (x := x) (k := (js.getD i (0, 0)).1) hI
  refine ⟨_, _, hr, ?_⟩
  clear hr
  rw [show (decide ((0 : Int) ≤ (js.getD i (0, 0)).1) && decide ((js.getD i (0, 0)).1 ≤ 15) && bit x (js.getD i (0, 0)).1.toNat) = bit x (js.getD i (0, 0)).1.toNat by rw [decide_eq_true hjm.1.1, decide_eq_true hjm.1.2]; rfl]
  cases hb2 : bit x (js.getD i (0, 0)).1.toNat
  ·refine za rfl (zN rfl rfl (za rfl (zi rfl (zc rfl (zc rfl (zc rfl (zc rfl (zc rfl (zc rfl (zc rfl (za rfl (zY rfl (zb (zv rfl ?_))))))))))))))
   refine zD (zP (zj (zF (za rfl (zf rfl (za rfl (zZ rfl rfl (by unfold zS; omega) (za rfl (zk rfl (zb (zO (⟨js.length - (i + 1), by omega, _, i + 1, yf ⟨rfl, rfl, rfl, rfl, trivial⟩, rfl, by omega, rfl, ?_⟩))))))))))))
   rw [hnd, hst]
   (rw [hb1, hb2]; rfl)
  refine za rfl (zN rfl rfl (za rfl (zi rfl (za rfl (zf rfl (za rfl (zm rfl (za rfl (zf rfl (za rfl (zB el24 rfl rfl (by omega) (by omega) (za rfl (x6 el30 rfl rfl (by omega) (by omega) (za rfl (zl sh3 rfl hg hc2 (za rfl (zy rfl fc26 rfl ?_)))))))))))))))))
  obtain ⟨_, _, hr, rfl, rfl⟩ := has_ok (s := _) (x := x) (k := (js.getD i (0, 0)).2) hI
  refine ⟨_, _, hr, ?_⟩
  clear hr
  rw [show (decide ((0 : Int) ≤ (js.getD i (0, 0)).2) && decide ((js.getD i (0, 0)).2 ≤ 15) && bit x (js.getD i (0, 0)).2.toNat) = bit x (js.getD i (0, 0)).2.toNat by rw [decide_eq_true hjm.2.1, decide_eq_true hjm.2.2]; rfl]
  cases hb3 : bit x (js.getD i (0, 0)).2.toNat
  ·refine za rfl (zN rfl rfl (zb (zv rfl (zD (zP (zj (zF (za rfl (zf rfl (za rfl (zZ rfl rfl (by unfold zS; omega) (za rfl (zk rfl (zb (zO ?_)))))))))))))))
   refine ⟨js.length - (i + 1), by omega, _, i + 1, yf ⟨rfl, rfl, rfl, rfl, trivial⟩, rfl, by omega, rfl, ?_⟩
   rw [hnd, hst]
   (rw [hb1, hb2, hb3]; rfl)
  refine za rfl (zN rfl rfl (zb (zq rfl (ze (za rfl (zh (zb (zu (zt (zn (zJ (zt (zn ?_)))))))))))))
  refine zp (zQ (⟨congrArg Value.bool ?_, rfl⟩))
  rw [hnd, hst]
  (rw [hb1, hb2, hb3]; rfl)
 refine za rfl (zi rfl (zc rfl (zc rfl (za rfl (zY rfl (zb (zv rfl (yi (zU (ye (z8 (zj (ze ?_)))))))))))))
 refine za rfl (zh (zb (zu (zp (zQ (⟨congrArg Value.bool ?_, rfl⟩))))))
 rw [hnd, List.drop_eq_nil_of_le (by omega)]
 rfl
set_option maxHeartbeats 4000000 in
set_option maxRecDepth 10000 in
theorem rest_ok {I : yb} (hI : Plain I) {s : St} (hf : Fine s) (hroom : s.next + 1 ≤ zo) {x : Sp} : ∃ v s', yI Tryz.prog I 36 #[.agg ⟨x.cells⟩] s v s' ∧ (v = .int .i64 (zI x.w x.p) ∧ HL [] s s' [] 1) := by
 have H := hf.hl
 refine yc 1 (hI 36 (by decide) (by decide)) Tryz.func36 rfl fb36 rfl ?_
 refine ze (za rfl (yX H rfl (by omega) (fun b1 s1 H => ?_)))
 refine za rfl (zh (zb (ze (za rfl (zg xT rfl (za rfl (zl yx rfl H.own0 rfl (za rfl (zg y9 rfl (za rfl (zl yx rfl H.own0 rfl (za rfl (x7 rfl rfl (za rfl (zk rfl (zb (zu (zp ?_))))))))))))))))))
 refine zQ ?_
 exact ⟨rfl, H.drop0⟩
end Go.Proofs.YtdejleegamcioaaGreat
namespace Go.Proofs.YtdejleegamcioaaGreat
open Go Go.M
theorem fb46 : yw Tryz.f46 (Tryz.f46.body.getD .skip) 2 = true := by kernel_rfl
theorem xo : offF Tryz.prog 40 0 = some 0 := by kernel_rfl
theorem xf : offF Tryz.prog 40 1 = some 1 := by kernel_rfl
set_option maxHeartbeats 4000000 in
set_option maxRecDepth 10000 in
theorem atR_ok {I : yb} (hI : Plain I) {s : St} (hf : Fine s) {a1 a2 : Option Addr} {c1 c2 : Nat} {ks ns : List Int} {x : Int} (h1 : Sl s 23 1 (.slice a1 ks.length c1) (ks.map dc)) (h2 : Sl s 3 1 (.slice a2 ns.length c2) (ns.map dc)) (hlen : ks.length ≤ 1000000) (hroom : s.next + 1 ≤ zo) :
  ∃ v' s', yI Tryz.prog I 46 #[.agg ⟨[.slice a1 ks.length c1, .slice a2 ns.length c2]⟩, .int .i64 x] s v' s' ∧ (v' = .int .i64 (atP ks ns x) ∧ HL [] s s' [] 1) := by
 have H := hf.hl
 refine yc 2 (hI 46 (by decide) (by decide)) Tryz.func46 rfl fb46 rfl ?_
 refine ze (za rfl (yX H rfl (by omega) (fun b2 s1 H => ?_)))
 refine za rfl (zh (zb (zx (ze (za rfl (zh (zb (zL (yB (fun k F s1 => ∃ (G : FF) (i : Nat), F = lay G [(1, .int .i64 x), (2, .pointer (some ⟨b2, 0, none⟩)), (5, .int .i64 (i : Int))] ∧ HL [] s s1 [(b2, .cells [.slice a1 ks.length c1, .slice a2 ns.length c2] 40)] 1 ∧ i ≤ ks.length ∧ k = ks.length - i ∧ atP ks ns x = atP (ks.drop i) (ns.drop i) x) ?_ ks.length _ _ ?_)))))))))
 rotate_left
 ·exact ⟨_, 0, yf ⟨rfl, rfl, rfl, trivial⟩, H, by omega, by omega, rfl⟩
 rintro k F s1 ⟨G, i, rfl, H, hi, rfl, hn⟩
 refine zx (ze (za rfl (zf rfl (za rfl (zg xo rfl (za rfl (zl qe rfl H.own0 rfl (za rfl (z7 un31 rfl rfl rfl (za rfl (yg rfl rfl (fun h => ?_) (fun h => ?_))))))))))))
 ·refine za rfl (zi rfl (za rfl (zf rfl (za rfl (zg xf rfl (za rfl (zl yW rfl H.own0 rfl (za rfl (z7 xE rfl rfl rfl (za rfl (yg rfl rfl (fun h => ?_) (fun h => ?_))))))))))))
  ·refine za rfl (zN rfl rfl (zb (zq rfl (zD (zj (zx (zL (ze (za rfl (zg xo rfl (za rfl (zl qe rfl H.own0 rfl (za rfl (zf rfl ?_))))))))))))))
   obtain ⟨b, off, c, rfl, hg, hb, hc⟩ := (h1.kept H).atD (i := (i : Int)) (k := i) rfl (by omega)
   have hst : atP (ks.drop i) (ns.drop i) x = if ks.getD i 0 = x then ns.getD i 0 else atP (ks.drop (i + 1)) (ns.drop (i + 1)) x := by rw [yF 0 (show i < ks.length by omega), yF 0 (show i < ns.length by omega), atP]
   refine za rfl (zB qL rfl rfl (by omega) (by omega) (za rfl (zl yx rfl hg hc (za rfl (zf rfl (za rfl (yJ rfl rfl (fun h => ?_) (fun h => ?_))))))))
   ·refine zb (zq rfl (ze (za rfl (zg xf rfl (za rfl (zl yW rfl H.own0 rfl (za rfl (zf rfl ?_))))))))
    obtain ⟨e2, off2, cc2, rfl, hg2, hb2, hc2⟩ := (h2.kept H).atD (i := (i : Int)) (k := i) rfl (by omega)
    refine za rfl (zB xP rfl rfl (by omega) (by omega) (za rfl (zl sh3 rfl hg2 hc2 (za rfl (zk rfl (zb (zu (zt (zn (zJ (zt (zn (zp (zQ ?_))))))))))))))
    refine ⟨congrArg (Value.int .i64) ?_, H.drop0⟩
    rw [hn, hst, if_pos (by assumption)]
   refine zb (zv rfl (zD (zP (zj (zF (za rfl (zf rfl (za rfl (zZ rfl rfl (by unfold zS; omega) (za rfl (zk rfl (zb (zO (⟨ks.length - (i + 1), by omega, _, i + 1, yf ⟨rfl, rfl, rfl, trivial⟩, H, by omega, rfl, ?_⟩))))))))))))))
   rw [hn, hst, if_neg (by assumption)]
  refine za rfl (zN rfl rfl (zb (zv rfl (yi (zU (ye (z8 (zj (ze (za rfl (zh (zb (zu ?_)))))))))))))
  refine zp (zQ (⟨congrArg (Value.int .i64) ?_, H.drop0⟩))
  rw [hn]
  (rw [List.drop_eq_nil_of_le (show ns.length ≤ i by omega)]; cases ks.drop i <;> rfl)
 refine za rfl (zi rfl (zc rfl (zc rfl (zc rfl (zc rfl (zc rfl (za rfl (zY rfl (zb (zv rfl (yi (zU (ye ?_)))))))))))))
 refine z8 (zj (ze (za rfl (zh (zb (zu (zp (zQ (⟨congrArg (Value.int .i64) ?_, H.drop0⟩)))))))))
 rw [hn]
 (rw [List.drop_eq_nil_of_le (show ks.length ≤ i by omega)]; rfl)
end Go.Proofs.YtdejleegamcioaaGreat
namespace Go.Proofs.YtdejleegamcioaaGreat
open Go Go.M
theorem fc36 : yp Tryz.prog 36 = true := by kernel_rfl
theorem fc55 : yp Tryz.prog 55 = true := by kernel_rfl
theorem rch_len {js : List (Int × Int)} {bad : Int} {may : List Sp} (hm : y0 may) {w : Int} (h0 : 0 < w) (h1 : w < 65536) {out : List Int} (hi : Inc out) (hr : ∀ x ∈ out, Rch js bad may w x) : out.length ≤ 65535 :=
 nodup_len 65535 out hi.nodup fun x hx => by have := (hr x hx).range hm h0; omega
end Go.Proofs.YtdejleegamcioaaGreat
namespace Go.Proofs.YtdejleegamcioaaGreat
open Go Go.M
theorem fc46 : yp Tryz.prog 46 = true := by kernel_rfl
theorem sh40 : ys Tryz.prog 40 = some (some 2) := by kernel_rfl
theorem sz31 : xe Tryz.prog 31 = some 1 := by kernel_rfl
theorem sz40 : xe Tryz.prog 40 = some 2 := by kernel_rfl
theorem zf40 : zeroF Tryz.prog 40 = some [.slice none 0 0, .slice none 0 0] := by kernel_rfl
theorem _root_.Go.M.HL.back {W : List Nat} {s0 s s' : St} {L L0 : Hp'} {n n0 : Nat} (H0 : HL W s0 s L0 n0) (H : HL W s0 s' L n) : HL W s0 { next := s'.next, bar := s.bar, prot := s.prot, heap := s'.heap } L n := by
 have h1 : s'.bar = s.bar := H.bar.trans H0.bar.symm
 have h2 : s'.prot = s.prot := H.prot.trans H0.prot.symm
 cases s'
 simp only at h1 h2
 subst h1
 subst h2
 exact H
section
variable (js : List (Int × Int)) (bad : Int) (may : List Sp) (S : Int)
variable {js bad may S}
end
end Go.Proofs.YtdejleegamcioaaGreat
namespace Go.Proofs.YtdejleegamcioaaGreat
open Go Go.M
end Go.Proofs.YtdejleegamcioaaGreat
namespace Go.M
section
variable {P : Program} {I : yb} {F : FF} {s : St} {Q : FF → St → Prop} {d : Option Tmp} {ty : TypeId} {pos : String} {af : Array Edge} {g : Option (Nat × Bool)} {W : List Nat} {s0 : St} {L : Hp'} {n : Nat}
theorem HL.only {b : Nat} {o : MObj} (H : HL W s0 s ((b, o) :: L) n) {X : List Nat} (hX : ∀ p, p ∈ X → p < s.next ∧ p ≠ b) : HL [b] { s with prot := X ++ s.prot } { s with prot := X ++ s.prot } [(b, o)] 0 := by
 have hf := H.fine
 have ho := H.own (b, o) (by simp)
 refine ⟨rfl, rfl, hf.wfb, fun p hp => ?_, Nat.le_refl _, Nat.le_refl _, fun p hp => ?_, by simp, fun _ _ _ => rfl⟩
 ·rcases List.mem_append.mp hp with hp | hp
  ·exact (hX p hp).1
  ·exact hf.wfp p hp
 ·rw [List.mem_singleton] at hp
  subst hp
  refine ⟨ho.1, ho.2.1, ?_, .inr (by simp)⟩
  have hm := ho.2.2.1
  simp only [St.may, Bool.and_eq_true, Bool.not_eq_true', Bool.eq_false_iff, ne_eq, List.any_eq_true, not_exists, not_and] at hm ⊢
  refine ⟨hm.1, fun p hp he => ?_⟩
  rcases List.mem_append.mp hp with hp | hp
  ·exact (hX p hp).2 (Nat.eq_of_beq_eq_true he).symm
  ·exact hm.2 p hp he
end
end Go.M
namespace Go.Proofs.YtdejleegamcioaaGreat
open Go Go.M
theorem Fine.fresh {s : St} (h : Fine s) : Fine { s with bar := s.next } := ⟨Nat.le_refl _, h.wfp⟩
end Go.Proofs.YtdejleegamcioaaGreat
namespace Go.Proofs.YtdejleegamcioaaGreat
open Go Go.M
theorem bf40 : buildF Tryz.prog 40 = some ([.slice none 0 0, .slice none 0 0], [(0, 1), (1, 1)]) := by kernel_rfl
def LPost (js : List (Int × Int)) (bad : Int) (may : List Sp) (w : Int) (s : St) (N : Nat) (v' : Value) (s' : St) : Prop := ∃ (o : LOut) (D : Hp') (sx p1 p2 : Slc), LIs js bad may w o ∧ v' = .tuple ⟨[sx.v, .int .i64 o.n, .agg ⟨[p1.v, p2.v]⟩, .int .i64 o.e]⟩ ∧ HL [] s s' D N ∧ SlG D 62 10 sx.v (o.x.map Sp.cells) ∧ SlG D 23 1 p1.v (o.ks.map dc) ∧ SlG D 3 1 p2.v (o.ns.map dc)
theorem LPost.fail {js : List (Int × Int)} {bad : Int} {may : List Sp} {w : Int} {s s' : St} {N : Nat} (h : xK w js bad may ≠ 0) (H : HL [] s s' [] N) : LPost js bad may w s N (.tuple ⟨[.slice none 0 0, .int .i64 0, .agg ⟨[.slice none 0 0, .slice none 0 0]⟩, .int .i64 (xK w js bad may)]⟩) s' :=
 ⟨⟨[], 0, [], [], xK w js bad may⟩, [], ⟨none, 0, 0⟩, ⟨none, 0, 0⟩, ⟨none, 0, 0⟩, .inl ⟨h, rfl⟩, rfl, H, .nil 0 rfl rfl, .nil 0 rfl rfl, .nil 0 rfl rfl⟩
theorem LPost.none {js : List (Int × Int)} {bad : Int} {may : List Sp} {w : Int} {s s' : St} {N : Nat} (h : xK w js bad may = 0) (h2 : (bb js bad may w).1 = 65536) (H : HL [] s s' [] N) : LPost js bad may w s N (.tuple ⟨[.slice none 0 0, .int .i64 0, .agg ⟨[.slice none 0 0, .slice none 0 0]⟩, .int .i64 6]⟩) s' :=
 ⟨⟨[], 0, [], [], 6⟩, [], ⟨Option.none, 0, 0⟩, ⟨Option.none, 0, 0⟩, ⟨Option.none, 0, 0⟩, .inr (.inl ⟨h, h2, rfl⟩), rfl, H, .nil 0 rfl rfl, .nil 0 rfl rfl, .nil 0 rfl rfl⟩
end Go.Proofs.YtdejleegamcioaaGreat
namespace Go.Proofs.YtdejleegamcioaaGreat
open Go Go.M
def PreE (e : Int) (s : St) (N : Nat) : FOut → Prop
 | .ret F s' => ∃ (b10 : Nat), F 8 = .slice none 0 0 ∧ F 9 = .int .i64 0 ∧ F 10 = ptr b10 ∧ F 11 = .int .i64 e ∧ HL [] s s' [(b10, .cells [.slice none 0 0, .slice none 0 0] 36)] N
 | _ => False
set_option maxHeartbeats 4000000 in
set_option maxRecDepth 10000 in
theorem pre_err {I : yb} (hI : Plain I) {s : St} (hf : Fine s) {w bad : Int} {vj vm : Value} {js : List (Int × Int)} {may : List Sp} (hJ : Sl s 30 2 vj (js.map jc)) (hM : Sl s 62 10 vm (may.map Sp.cells)) (herr : xK w js bad may ≠ 0) (hroom : s.next + 10020 ≤ zo) :
  xD Tryz.prog I y6 (frameOf #[.int .i64 w, vj, .int .i64 bad, vm]) s (PreE (xK w js bad may) s 10020) := by
 have H := hf.hl
 obtain ⟨ja, jn, jcp, rfl, hjn⟩ := hJ.isSlice
 obtain ⟨ma, mn, mcp, rfl, hmn⟩ := hM.isSlice
 refine ze (za rfl (op_boxS H rfl (by omega) (fun b5 s1 H => ?_)))
 refine za rfl (op_boxI H rfl (by omega) (fun b6 s2 H => ?_))
 refine za rfl (op_boxS H rfl (by omega) (fun b7 s3 H => ?_))
 refine za rfl (zh (za rfl (zh (za rfl (z6 H zf36 (by omega) (fun b10 s4 H => ?_))))))
 refine za rfl (zh (zb (zx (ze (za rfl (zf rfl (za rfl (zl sh24 rfl H.own3 rfl (za rfl (zl yx rfl H.own2 rfl (za rfl (zl sh25 rfl H.own1 rfl (za rfl (zy rfl fc40 rfl ?_))))))))))))))
 obtain ⟨_, s9, hr, rfl, Hc⟩ := valid_args_ok (w := w) (bad := bad) hI H.fine (hJ.kept H) (hM.kept H) (by have := H.most; omega)
 refine ⟨_, _, hr, ?_⟩
 clear hr
 have H := H.call0 Hc
 clear Hc
 refine za rfl (zk rfl (zb (ze (za rfl (zf rfl (za rfl (yM rfl rfl (fun h => ?_) (fun h => False.elim (by exact h herr)))))))))
 refine zb (zq rfl (ze (za rfl (yZ (c := [.slice _ _ _, .slice _ _ _]) bf36 rfl (za rfl (zf rfl (za rfl (zh (za rfl (zh (za rfl (zX (vs := [.slice _ _ _, .slice _ _ _]) H sz36 rfl rfl rfl rfl rfl (by omega) (fun s5 H => ?_)))))))))))))
 refine za rfl (zk rfl (zb (zu (zn (⟨b10, rfl, rfl, rfl, rfl, ?_⟩)))))
 exact (H.sub (L' := [(b10, .cells [.slice none 0 0, .slice none 0 0] 36)]) (.cons_cons _ (List.nil_sublist _))).up (by omega)
end Go.Proofs.YtdejleegamcioaaGreat
namespace Go.Proofs.YtdejleegamcioaaGreat
open Go Go.M
theorem finish_of {F : FF} {a : Fr} {s : St} {Post : Value → St → Prop} (ha : Agrees 78 F a) (h : endQ Tryz.prog Tryz.f12.results.toList Post F s) : ∃ v, finish Tryz.prog Tryz.f12 a s = .ret v s ∧ Post v s ∧ ∀ a2, Agrees 78 F a2 → finish Tryz.prog Tryz.f12 a2 s = .ret v s := by
 have key : ∃ v, Post v s ∧ ∀ a2, Agrees 78 F a2 → finish Tryz.prog Tryz.f12 a2 s = .ret v s := by
  unfold endQ at h
  split at h
  ·next v hv => exact ⟨v, h, fun a ha => by unfold finish; rw [qN ha _ resN, hv]⟩
  ·next l hl hv =>
   refine ⟨_, h, fun a ha => ?_⟩
   unfold finish
   rw [qN ha _ resN, hv]
   cases l with
   | nil => rfl
   | cons x l => cases l with
    | nil => exact (hl x rfl).elim
    | cons y l => rfl
  ·exact h.elim
 obtain ⟨v, h1, h2⟩ := key
 exact ⟨v, h2 a ha, h1, h2⟩
theorem least_pre {args : Array Value} (h4 : args.toList.length = 4) (s : St) (n : Nat) : SimOut 78 (y2 Tryz.prog yG n y6 (frameOf args) s) (yh Tryz.prog yG n y6 (Fr.make args 78) s) :=
 x3 n y6 _ _ s preN (agrees_make (by omega) (by decide))
theorem room_help {a b c d k o : Nat} (h1 : a + 20000000000 ≤ d) (h2 : b ≤ 1200000000) (h3 : c ≤ 65535) (hk : k ≤ 400000) (ho : o ≤ 1) : a + (b + 2 * c + o + 2 * c + k) ≤ d := by omega
theorem room_help2 {b c k o : Nat} (h2 : b ≤ 1200000000) (h3 : c ≤ 65535) (hk : k ≤ 400000) (ho : o ≤ 1) : b + 2 * c + o + 2 * c + k ≤ 20000000000 := by omega
def LeastG (I : yb) : Prop := ∀ (s : St) (w bad : Int) (vj vm : Value) (js : List (Int × Int)) (may : List Sp), Fine s → Sl s 30 2 vj (js.map jc) → Sl s 62 10 vm (may.map Sp.cells) → (∀ x ∈ may, x.p < 9223372036854775808) → may.length ≤ 15 → s.next + 20000000000 ≤ zo →
 ∃ v' s', yI Tryz.prog I 12 #[.int .i64 w, vj, .int .i64 bad, vm] s v' s' ∧ LPost js bad may w s 20000000000 v' s'
set_option maxHeartbeats 4000000 in
set_option maxRecDepth 10000 in
theorem leastE {I : yb} (hI : I 12 = some leastI) {s : St} {w bad : Int} {vj vm : Value} {js : List (Int × Int)} {may : List Sp} (hf : Fine s) (hJ : Sl s 30 2 vj (js.map jc)) (hM : Sl s 62 10 vm (may.map Sp.cells)) (herr : xK w js bad may ≠ 0) (hroom : s.next + 20000000000 ≤ zo) :
  ∃ v' s', yI Tryz.prog I 12 #[.int .i64 w, vj, .int .i64 bad, vm] s v' s' ∧ LPost js bad may w s 20000000000 v' s' := by
 obtain ⟨o, hq, n1, hn1⟩ := pre_err plain_none hf hJ hM herr (by omega)
 have hsim := least_pre (args := #[.int .i64 w, vj, .int .i64 bad, vm]) rfl s
 have hret : ∀ v s', Ever #[.int .i64 w, vj, .int .i64 bad, vm] s v s' → yI Tryz.prog I 12 #[.int .i64 w, vj, .int .i64 bad, vm] s v s' := fun v s' h => ⟨0, fun m _ => by
  simp only [callM, xi, hI]
  exact leastI_eq h⟩
 cases o with
 | exit i F s' => exact hq.elim
 | stuck => exact hq.elim
 | normal F s' => exact hq.elim
 | ret F s' =>
  obtain ⟨b10, e8, e9, e10, e11, H⟩ := hq
  have he : endQ Tryz.prog Tryz.f12.results.toList (fun v s2 => v = .tuple ⟨[.slice none 0 0, .int .i64 0, .agg ⟨[.slice none 0 0, .slice none 0 0]⟩, .int .i64 (xK w js bad may)]⟩ ∧ s2 = s') F s' :=
   end_ttct e8 e9 sh36 e10 H.own0 rfl e11 ⟨rfl, rfl⟩
  refine ⟨_, s', hret _ s' ⟨n1, fun n hn => ?_⟩, LPost.fail herr (H.drop0.up (by omega))⟩
  have h0 := hsim n
  rw [hn1 n hn] at h0
  cases hm2 : yh Tryz.prog yG n y6 (Fr.make #[.int .i64 w, vj, .int .i64 bad, vm] 78) s with
  | ret a s2 =>
   rw [hm2] at h0
   obtain ⟨rfl, ha⟩ := h0
   obtain ⟨v, hv, ⟨rfl, _⟩, _⟩ := finish_of ha he
   simp only [qZ, hm2]
   exact hv
  | _ => rw [hm2] at h0; exact h0.elim
set_option maxHeartbeats 4000000 in
set_option maxRecDepth 10000 in
theorem leastG {I : yb} (hI : I 12 = some leastI) : LeastG I := by
 intro s w bad vj vm js may hf hJ hM hin hml hroom
 by_cases herr : xK w js bad may = 0
 case neg => exact leastE hI hf hJ hM herr hroom
 obtain ⟨_, hjl, hw0, hw1, hb0, hb1, hsp, hjb⟩ := err_zero herr
 have hm : y0 may := fun x hx => ⟨hsp x hx, hin x hx⟩
 have hj := joinsB_all hjb
 have htb := tb_small hm hml (w.toNat + 1) w
 have hrg := yR (js := js) (bad := bad) (may := may) w
 obtain ⟨o, hq, n1, hn1⟩ := pre_ok plain_none hf hJ hM hj hjl hm hml hw0 hw1 hb0 hb1 (by omega)
 have hsim := least_pre (args := #[.int .i64 w, vj, .int .i64 bad, vm]) rfl s
 have hret : ∀ v s', Ever #[.int .i64 w, vj, .int .i64 bad, vm] s v s' → yI Tryz.prog I 12 #[.int .i64 w, vj, .int .i64 bad, vm] s v s' := fun v s' h => ⟨0, fun m _ => by
  simp only [callM, xi, hI]
  exact leastI_eq h⟩
 cases o with
 | exit i F s' => exact hq.elim
 | stuck => exact hq.elim
 | ret F s' =>
  obtain ⟨h1, b10, e8, e9, e10, e11, H⟩ := hq
  have he : endQ Tryz.prog Tryz.f12.results.toList (fun v s2 => v = .tuple ⟨[.slice none 0 0, .int .i64 0, .agg ⟨[.slice none 0 0, .slice none 0 0]⟩, .int .i64 6]⟩ ∧ s2 = s') F s' :=
   end_ttct e8 e9 sh36 e10 H.own0 rfl e11 ⟨rfl, rfl⟩
  refine ⟨_, s', hret _ s' ⟨n1, fun n hn => ?_⟩, LPost.none herr h1 (H.drop0.up (by omega))⟩
  have h0 := hsim n
  rw [hn1 n hn] at h0
  cases hm2 : yh Tryz.prog yG n y6 (Fr.make #[.int .i64 w, vj, .int .i64 bad, vm] 78) s with
  | ret a s2 =>
   rw [hm2] at h0
   obtain ⟨rfl, ha⟩ := h0
   obtain ⟨v, hv, ⟨rfl, _⟩, _⟩ := finish_of ha he
   simp only [qZ, hm2]
   exact hv
  | _ => rw [hm2] at h0; exact h0.elim
 | normal F s1 =>
  obtain ⟨h1, G, b10, bK, b16, r, E, rfl, hg, hk, hEl, hRc, H⟩ := hq
  have hE : 0 < E.length := by
   cases E with
   | nil => simp [yH] at hk
   | cons a b => simp
  obtain ⟨N, hN⟩ : ∃ N, N = 10020 + tb may (w.toNat + 1) w := ⟨_, rfl⟩
  rw [← hN] at H
  have hNb : N ≤ 1200000000 := by omega
  clear hN htb
  obtain ⟨s2, bS, hseg, H2⟩ := seg_ok H hE (by omega) (by omega)
  have hlen : (yO (yH E)).length = E.length := by rw [(xv _).length_eq]; simp [yH]
  have hk7 : (yO (yH E)).length ≤ 10000000 := by rw [hlen]; omega
  have hroom2 : s.next + (N + 2 * E.length + 1 + 2 * (yO (yH E)).length + 400000) ≤ zo := by
   rw [hlen]
   exact room_help hroom hNb hEl (Nat.le_refl _) (Nat.le_refl _)
  obtain ⟨o2, hq2, n2, hn2⟩ := tail_ok (I := yG) (G := G) (ks := yO (yH E)) (n0 := N + 2 * E.length + 1) (cS := 2 * E.length + 1) plain_none hm hw0 hw1 h1 hg hk (fun x hx => (xv _).mem_iff.mp hx) hk7 (by omega) H2 hroom2
  have hpre : ∀ n, n1 + n2 ≤ n → ∃ a, yh Tryz.prog yG n y6 (Fr.make #[.int .i64 w, vj, .int .i64 bad, vm] 78) s = .normal a s1 ∧ Agrees 78 (lay G [(0, .int .i64 w), (10, ptr b10), (13, ptr bK), (15, .int .i64 (bb js bad may w).1), (16, ptr b16)]) a ∧ segS (a.get 13) (a.get 16) s1 = some s2 := by
   intro n hn
   have h0 := hsim n
   rw [hn1 n (by omega)] at h0
   cases hm2 : yh Tryz.prog yG n y6 (Fr.make #[.int .i64 w, vj, .int .i64 bad, vm] 78) s with
   | normal a s3 =>
    rw [hm2] at h0
    obtain ⟨rfl, ha⟩ := h0
    refine ⟨a, rfl, ha, ?_⟩
    rw [ha.get 13 (by decide), ha.get 16 (by decide)]
    exact hseg
   | _ => rw [hm2] at h0; exact h0.elim
  have hend : ∀ (F3 : FF) (s' : St), (∀ n, n2 ≤ n → y2 Tryz.prog yG n leastTail (lay G [(0, .int .i64 w), (10, ptr b10), (13, ptr bK), (15, .int .i64 (bb js bad may w).1), (16, ptr b16)]) s2 = .ret F3 s') ∨ (∀ n, n2 ≤ n → y2 Tryz.prog yG n leastTail (lay G [(0, .int .i64 w), (10, ptr b10), (13, ptr bK), (15, .int .i64 (bb js bad may w).1), (16, ptr b16)]) s2 = .normal F3 s') →
    endQ Tryz.prog Tryz.f12.results.toList (fun v' s' => ∃ (D : Hp') (sx p1 p2 : Slc), v' = .tuple ⟨[sx.v, .int .i64 (bb js bad may w).1, .agg ⟨[p1.v, p2.v]⟩, .int .i64 0]⟩ ∧ HL [] s s' D (N + 2 * E.length + 1 + 2 * (yO (yH E)).length + 400000) ∧ SlG D 62 10 sx.v ((tk js bad may (w.toNat + 1) w).map Sp.cells) ∧ SlG D 23 1 p1.v ((yO (yH E)).map dc) ∧ SlG D 3 1 p2.v (((yO (yH E)).map fun q => (bb js bad may q).1).map dc)) F3 s' →
    ∃ v' s', yI Tryz.prog I 12 #[.int .i64 w, vj, .int .i64 bad, vm] s v' s' ∧ LPost js bad may w s 20000000000 v' s' := by
   intro F3 s' hrun he
   -- the frame at one great fuel
   obtain ⟨a, hpa, hag, hsg⟩ := hpre (n1 + n2) (Nat.le_refl _)
   have htail : ∀ n, n2 ≤ n → ∀ a, Agrees 78 (lay G [(0, .int .i64 w), (10, ptr b10), (13, ptr bK), (15, .int .i64 (bb js bad may w).1), (16, ptr b16)]) a → ∃ a3, Agrees 78 F3 a3 ∧ (yh Tryz.prog yG n leastTail a s2 = .ret a3 s' ∨ yh Tryz.prog yG n leastTail a s2 = .normal a3 s') := by
    intro n hn a ha
    have h0 := x3 (P := Tryz.prog) (I := yG) n leastTail _ a s2 tailN ha
    rcases hrun with hrun | hrun
    ·rw [hrun n hn] at h0
     cases hm3 : yh Tryz.prog yG n leastTail a s2 with
     | ret a3 s3 =>
      rw [hm3] at h0
      obtain ⟨rfl, ha3⟩ := h0
      exact ⟨a3, ha3, .inl rfl⟩
     | _ => rw [hm3] at h0; exact h0.elim
    ·rw [hrun n hn] at h0
     cases hm3 : yh Tryz.prog yG n leastTail a s2 with
     | normal a3 s3 =>
      rw [hm3] at h0
      obtain ⟨rfl, ha3⟩ := h0
      exact ⟨a3, ha3, .inr rfl⟩
     | _ => rw [hm3] at h0; exact h0.elim
   obtain ⟨a3, ha3, _⟩ := htail (n1 + n2) (by omega) a hag
   obtain ⟨v, _, ⟨D, sx, p1, p2, hv, HD, hG, hG1, hG2⟩, hall⟩ := finish_of ha3 he
   refine ⟨v, s', hret v s' ⟨n1 + n2, fun n hn => ?_⟩, ⟨⟨tk js bad may (w.toNat + 1) w, (bb js bad may w).1, yO (yH E), (yO (yH E)).map fun q => (bb js bad may q).1, 0⟩, D, sx, p1, p2, .inr (.inr ⟨herr, h1, isort_inc hg.nodup, fun k => ⟨fun hk2 => hRc k ((xv _).mem_iff.mp hk2), fun hk2 => (xv _).mem_iff.mpr (hg.closed.all hk hk2)⟩, rfl, rfl, rfl, rfl⟩), hv, HD.up (by rw [hlen]; exact room_help2 hNb hEl (Nat.le_refl _) (Nat.le_refl _)), hG, hG1, hG2⟩⟩
   obtain ⟨a4, hp4, hag4, hsg4⟩ := hpre n hn
   obtain ⟨a5, ha5, h5⟩ := htail n (by omega) a4 hag4
   rcases h5 with h5 | h5
   ·simp only [qZ, hp4, hsg4, h5]
    exact hall a5 ha5
   ·simp only [qZ, hp4, hsg4, h5]
    exact hall a5 ha5
  cases o2 with
  | exit i F s' => exact hq2.elim
  | stuck => exact hq2.elim
  | normal F3 s' => exact hend F3 s' (.inr hn2) hq2
  | ret F3 s' => exact hend F3 s' (.inl hn2) hq2
end Go.Proofs.YtdejleegamcioaaGreat
namespace Go.Proofs.YtdejleegamcioaaGreat
open Go Go.M
theorem of58_0 : offF Tryz.prog 58 0 = some 0 := by kernel_rfl
theorem of58_1 : offF Tryz.prog 58 1 = some 2 := by kernel_rfl
theorem of60_0 : offF Tryz.prog 60 0 = some 0 := by kernel_rfl
theorem of60_1 : offF Tryz.prog 60 1 = some 4 := by kernel_rfl
theorem fb16 : yw Tryz.f16 (Tryz.f16.body.getD .skip) 1 = true := by kernel_rfl
set_option maxHeartbeats 4000000 in
set_option maxRecDepth 10000 in
theorem plain_ok {I : yb} (hI : Plain I) {s : St} (hf : Fine s) {a1 a2 : Option Addr} {n1 n2 c1 c2 : Nat} (hroom : s.next + 2 ≤ zo) :
  ∃ v' s', yI Tryz.prog I 16 #[.agg ⟨[.slice a1 n1 c1, .slice a2 n2 c2]⟩] s v' s' ∧ (v' = .agg ⟨[.slice a1 n1 c1, .slice a2 n2 c2]⟩ ∧ HL [] s s' [] 2) := by
 have H := hf.hl
 refine yc 1 (hI 16 (by decide) (by decide)) Tryz.func16 rfl fb16 rfl ?_
 refine ze (za rfl (yX H rfl (by omega) (fun b1 s1 H => ?_)))
 refine za rfl (z6 H zf40 (by omega) (fun b2 s2 H => ?_))
 refine zb (ze (za rfl (zg qX rfl (za rfl (zl qe rfl H.own1 rfl (za rfl (zg of36_1 rfl (za rfl (zl yW rfl H.own1 rfl (za rfl (yZ (c := [.slice _ _ _, .slice _ _ _]) bf40 rfl (za rfl (zX (vs := [.slice _ _ _, .slice _ _ _]) H sz40 rfl rfl rfl rfl rfl (by omega) (fun s3 H => ?_))))))))))))))
 refine zb (zu (zp (yU sh40 rfl H.own0 rfl ?_)))
 exact ⟨rfl, H.sub (List.nil_sublist _)⟩
end Go.Proofs.YtdejleegamcioaaGreat
