/- Comparisons of splits: what they tell. -/
/- Comparisons of splits, of the program and of the reference. -/
/- The reference of cleanings: what a list begins with. -/
/- The reference of cleanings: what a list of splits begins with. -/
/- undo.clean: what is left of a list that begins with a cleaning. -/
import Derived.Test.YtdejleegamcioaaGreatF21
namespace Go.Proofs.YtdejleegamcioaaGreat
open Go Go.M
theorem fb202 : yw Tryz.f202 (Tryz.f202.body.getD .skip) 2 = true := by kernel_rfl
theorem fb154 : yw Tryz.f154 (Tryz.f154.body.getD .skip) 2 = true := by kernel_rfl
theorem fc202 : yp Tryz.prog 202 = true := by kernel_rfl
theorem list_step {l1 l2 : List Int} {i : Nat} (h1 : i < l1.length) (h2 : i < l2.length) (he : l1.take i = l2.take i) (hx : l1.getD i 0 = l2.getD i 0) : l1.take (i + 1) = l2.take (i + 1) := by
 rw [List.take_succ_eq_append_getElem h1, List.take_succ_eq_append_getElem h2, he]
 have e1 : l1[i] = l1.getD i 0 := by simp [List.getD_eq_getElem?_getD, List.getElem?_eq_getElem h1]
 have e2 : l2[i] = l2.getD i 0 := by simp [List.getD_eq_getElem?_getD, List.getElem?_eq_getElem h2]
 rw [e1, e2, hx]
theorem list_diff {l1 l2 : List Int} {i : Nat} (hx : l1.getD i 0 ≠ l2.getD i 0) : ¬ l1 = l2 := fun h => hx (by rw [h])
def ratB (n1 : Bool) (l1 l2 : List Int) (m1 : Bool) (k1 k2 : List Int) : Bool := (n1 == m1) && (decide (l1 = k1) && decide (l2 = k2))
set_option maxHeartbeats 4000000 in
set_option maxRecDepth 10000 in
theorem equalInts_ok {I : yb} (hI : Plain I) {s : St} (hf : Fine s) {v1 v2 : Value} {l1 l2 : List Int} (h1 : SlD s v1 l1) (h2 : SlD s v2 l2) (hlen : l1.length ≤ 1000000) (hroom : s.next ≤ zo) :
  ∃ v' s', yI Tryz.prog I 202 #[v1, v2] s v' s' ∧ (v' = .bool (decide (l1 = l2)) ∧ HL [] s s' [] 0) := by
 have H := hf.hl
 obtain ⟨a1, n1, c1, rfl, hn1⟩ := h1.isSlice
 rw [List.length_map] at hn1
 subst hn1
 obtain ⟨a2, n2, c2, rfl, hn2⟩ := h2.isSlice
 rw [List.length_map] at hn2
 subst hn2
 refine yc 2 (hI 202 (by decide) (by decide)) Tryz.func202 rfl fb202 rfl ?_
 refine ze (za rfl (zh (zb (zx (ze (za rfl (zm rfl (za rfl (z7 xE rfl rfl rfl (za rfl (zm rfl (za rfl (z7 xE rfl rfl rfl (za rfl (yM rfl rfl (fun h => ?_) (fun h => ?_))))))))))))))))
 ·refine zb (zq rfl (ze (za rfl (zh (zb (zu (zn (zp (zQ (⟨congrArg Value.bool ?_, H⟩))))))))))
  symm
  rw [decide_eq_false_iff_not]
  intro he
  apply h
  rw [he]
 refine zb (zv rfl (zD (zj (zx (ze (za rfl (zm rfl (za rfl (z7 xE rfl rfl rfl (za rfl (xL (zb (zL (yB (fun k F s1 => ∃ (G : FF) (i : Nat), F = lay G [(0, .slice a1 l1.length c1), (1, .slice a2 l2.length c2), (12, .int .i64 (l1.length : Int)), (13, .int .i64 (i : Int))] ∧ HL [] s s1 [] 0 ∧ i ≤ l1.length ∧ k = l1.length - i ∧ l1.take i = l2.take i) ?_ l1.length _ _ ?_))))))))))))))
 rotate_left
 ·exact ⟨_, 0, yf ⟨rfl, rfl, rfl, rfl, trivial⟩, H, by omega, by omega, by simp⟩
 rintro k F s1 ⟨G, i, rfl, H, hi, rfl, hte⟩
 refine ze (za rfl (yg rfl rfl (fun h => ?_) (fun h => ?_)))
 ·refine zb (zx (zq rfl (zD (zj (zx (zL (ze (za rfl (zf rfl (za rfl (zk rfl (zb (yy [⟨0, 0, .light, [7]⟩, ⟨1, 0, .light, [7]⟩, ⟨2, 3, .light, [7]⟩, ⟨3, 7, .light, [7]⟩, ⟨4, 0, .light, [3]⟩, ⟨5, 0, .light, [3]⟩, ⟨6, 48, .light, [3]⟩, ⟨7, 112, .light, [3]⟩, ⟨8, 255, .light, []⟩] (by kernel_rfl) (by kernel_rfl) ?_)))))))))))))
  obtain ⟨b1, oo1, d1, rfl, hg1, hb1, hc1⟩ := (h1.kept H).atD (i := (i : Int)) (k := i) rfl (by omega)
  obtain ⟨b2, oo2, d2, rfl, hg2, hb2, hc2⟩ := (h2.kept H).atD (i := (i : Int)) (k := i) rfl (by omega)
  have hl1 : b1 < zo := Nat.lt_of_lt_of_le hb1 (by have hmo := H.most; (try simp only at hmo); omega)
  have hl2 : b2 < zo := Nat.lt_of_lt_of_le hb2 (by have hmo := H.most; (try simp only at hmo); omega)
  refine zd rfl rfl (zm rfl ⟨rfl, (zd rfl rfl (zf rfl ⟨rfl, (zd rfl rfl (zB xP rfl rfl (by omega) (by omega) ⟨rfl, (zG rfl rfl sh3 rfl hg1 hl1 hc1 (zd rfl rfl (zm rfl ⟨rfl, (zd rfl rfl (zf rfl ⟨rfl, (zd rfl rfl (zB xP rfl rfl (by omega) (by omega) ⟨rfl, (zG rfl rfl sh3 rfl hg2 hl2 hc2 (zd rfl rfl (yM rfl rfl (fun h => ⟨rfl, ?_⟩) (fun h => ⟨rfl, ?_⟩))))⟩))⟩))⟩)))⟩))⟩))⟩)
  ·refine zV (zq rfl (ze (za rfl (zh (zb (zu (zt (zn (zJ (zt (zn (zp ?_))))))))))))
   refine zQ (⟨congrArg Value.bool ?_, H⟩)
   symm
   rw [decide_eq_false_iff_not]
   exact list_diff h
  refine zV (zv rfl (zD (zP (zj (zF (za rfl (zZ rfl rfl (by unfold zS; omega) (za rfl (zf rfl (zb (zO ?_)))))))))))
  exact ⟨l1.length - (i + 1), by omega, _, i + 1, yf ⟨rfl, rfl, rfl, rfl, trivial⟩, H, by omega, rfl, list_step (by omega) (by omega) hte (by omega)⟩
 refine zb (zx (zv rfl (yi (zU (ye (z8 (zj (ze (za rfl (zh (zb (zu ?_))))))))))))
 refine zp (zQ (⟨congrArg Value.bool ?_, H⟩))
 symm
 rw [decide_eq_true_eq]
 rw [List.take_of_length_le (by omega), List.take_of_length_le (by omega)] at hte
 exact hte
set_option maxHeartbeats 4000000 in
set_option maxRecDepth 10000 in
theorem equal_ok {I : yb} (hI : Plain I) {s : St} (hf : Fine s) {n1 n2 m1 m2 : Bool} {a1 a2 e1 e2 : Option Addr} {k1 k2 j1 j2 c1 c2 d1 d2 : Nat} {l1 l2 q1 q2 : List Int} (h1 : SlD s (.slice a1 k1 c1) l1) (h2 : SlD s (.slice a2 k2 c2) l2) (g1 : SlD s (.slice e1 j1 d1) q1) (g2 : SlD s (.slice e2 j2 d2) q2) (hl1 : l1.length ≤ 3) (hl2 : l2.length ≤ 3) (hroom : s.next + 2 ≤ zo) :
  ∃ v' s', yI Tryz.prog I 154 #[.agg ⟨[.bool n1, .slice a1 k1 c1, .bool n2, .slice a2 k2 c2]⟩, .agg ⟨[.bool m1, .slice e1 j1 d1, .bool m2, .slice e2 j2 d2]⟩] s v' s' ∧ (v' = .bool (ratB n1 l1 l2 m1 q1 q2) ∧ HL [] s s' [] 2) := by
 have H := hf.hl
 refine yc 2 (hI 154 (by decide) (by decide)) Tryz.func154 rfl fb154 rfl ?_
 refine ze (za rfl (yX H rfl (by omega) (fun b2 s1 H => ?_)))
 refine za rfl (yX H rfl (by omega) (fun b3 s2 H => ?_))
 refine za rfl (zh (zb (ze (za rfl (zg of58_0 rfl (za rfl (zg of56_0 rfl (za rfl (zl sh4 rfl H.own1 rfl (za rfl (zg of58_0 rfl (za rfl (zg of56_0 rfl (za rfl (zl sh4 rfl H.own0 rfl (za rfl (op_eqb un4 rfl rfl ?_)))))))))))))))))
 cases hb1 : (n1 == m1)
 ·refine za rfl (zi rfl (zc rfl (zc rfl (zc rfl (zc rfl (zc rfl (zc rfl (zc rfl (za rfl (zY rfl (za rfl (zi rfl (zc rfl (zc rfl ?_))))))))))))))
  refine zc rfl (zc rfl (zc rfl (zc rfl (zc rfl (za rfl (zY rfl (za rfl (zr rfl (zb (zu (zp (zQ (⟨congrArg Value.bool ?_, H.sub (List.nil_sublist _)⟩)))))))))))))
  unfold ratB
  simp [*]
 refine za rfl (zi rfl (za rfl (zg of58_0 rfl (za rfl (zg yS rfl (za rfl (zl yW rfl H.own1 rfl (za rfl (zg of58_0 rfl (za rfl (zg yS rfl (za rfl (zl yW rfl H.own0 rfl (za rfl (zy rfl fc202 rfl ?_)))))))))))))))
 obtain ⟨_, s9, hr, rfl, Hc⟩ := equalInts_ok hI H.fine (h1.kept H) (g1.kept H) (by omega) (by have := H.most; omega)
 refine ⟨_, _, hr, ?_⟩
 clear hr
 have H := H.call0 Hc
 clear Hc
 cases hb2 : decide (l1 = q1)
 ·refine za rfl (zN rfl rfl (za rfl (zi rfl (zc rfl (zc rfl (zc rfl (zc rfl (zc rfl (zc rfl (zc rfl (za rfl (zY rfl (za rfl (zr rfl (zb ?_)))))))))))))))
  refine zu (zp (zQ (⟨congrArg Value.bool ?_, H.sub (List.nil_sublist _)⟩)))
  unfold ratB
  simp [*]
 refine za rfl (zN rfl rfl (za rfl (zi rfl (za rfl (zg of58_1 rfl (za rfl (zg yS rfl (za rfl (zl yW rfl H.own1 rfl (za rfl (zg of58_1 rfl (za rfl (zg yS rfl (za rfl (zl yW rfl H.own0 rfl (za rfl (zy rfl fc202 rfl ?_)))))))))))))))))
 obtain ⟨_, s9, hr, rfl, Hc⟩ := equalInts_ok hI H.fine (h2.kept H) (g2.kept H) (by omega) (by have := H.most; omega)
 refine ⟨_, _, hr, ?_⟩
 clear hr
 have H := H.call0 Hc
 clear Hc
 cases hb3 : decide (l2 = q2)
 ·refine za rfl (zN rfl rfl (za rfl (zr rfl (zb (zu (zp (zQ (⟨congrArg Value.bool ?_, H.sub (List.nil_sublist _)⟩))))))))
  unfold ratB
  simp [*]
 refine za rfl (zN rfl rfl (za rfl (zr rfl (zb (zu (zp (zQ (⟨congrArg Value.bool ?_, H.sub (List.nil_sublist _)⟩))))))))
 unfold ratB
 simp [*]
end Go.Proofs.YtdejleegamcioaaGreat
namespace Go.Proofs.YtdejleegamcioaaGreat
open Go Go.M
theorem el215 : elemF Tryz.prog 215 = some (true, 0, 4) := by kernel_rfl
theorem fb153 : yw Tryz.f153 (Tryz.f153.body.getD .skip) 3 = true := by kernel_rfl
theorem fc154 : yp Tryz.prog 154 = true := by kernel_rfl
theorem un215 : Tryz.prog.underlying 215 = some (.slice 58) := by kernel_rfl
theorem fb95 : yw Tryz.f95 (Tryz.f95.body.getD .skip) 2 = true := by kernel_rfl
theorem fc153 : yp Tryz.prog 153 = true := by kernel_rfl
theorem sl215 : xG Tryz.prog 215 = some (58, 4, 64, [.bool false, .slice none 0 0, .bool false, .slice none 0 0]) := by kernel_rfl
theorem fb94 : yw Tryz.f94 (Tryz.f94.body.getD .skip) 2 = true := by kernel_rfl
theorem fc95 : yp Tryz.prog 95 = true := by kernel_rfl
structure Rt where
 n1 : Bool
 s1 : Slc
 n2 : Bool
 s2 : Slc
instance : Inhabited Rt := ⟨⟨false, default, false, default⟩⟩
def Rt.cells (r : Rt) : List Value := [.bool r.n1, r.s1.v, .bool r.n2, r.s2.v]
def Sp.r1 (x : Sp) : Rt := ⟨x.n1, x.s1, x.n2, x.s2⟩
def Sp.r2 (x : Sp) : Rt := ⟨x.n3, x.s3, x.n4, x.s4⟩
def RtS (s : St) (δ : Slc → List Int) (r : Rt) : Prop := (SlD s r.s1.v (δ r.s1) ∧ (δ r.s1).length ≤ 3) ∧ (SlD s r.s2.v (δ r.s2) ∧ (δ r.s2).length ≤ 3)
def DigS (s : St) (δ : Slc → List Int) (x : Sp) : Prop := RtS s δ x.r1 ∧ RtS s δ x.r2
def eqZ (δ : Slc → List Int) (r q : Rt) : Bool := ratB r.n1 (δ r.s1) (δ r.s2) q.n1 (δ q.s1) (δ q.s2)
def sameZ (δ : Slc → List Int) (x y : Sp) : Bool := decide (x.w = y.w) && (decide (x.p = y.p) && (eqZ δ x.r1 y.r1 && eqZ δ x.r2 y.r2))
theorem RtS.kept {s s' : St} {δ : Slc → List Int} {r : Rt} {L : Hp'} {n : Nat} (h : RtS s δ r) (H : HL [] s s' L n) : RtS s' δ r := ⟨⟨h.1.1.kept H, h.1.2⟩, ⟨h.2.1.kept H, h.2.2⟩⟩
theorem DigS.kept {s s' : St} {δ : Slc → List Int} {x : Sp} {L : Hp'} {n : Nat} (h : DigS s δ x) (H : HL [] s s' L n) : DigS s' δ x := ⟨h.1.kept H, h.2.kept H⟩
theorem sl_two {s : St} {b cap : Nat} {x y : List Value} (hx : x.length = 4) (hy : y.length = 4) (hg : s.get b = some (.cells (x ++ y) 58)) (hb : b < s.next) (hcap : 2 ≤ cap / 2) : Sl s 58 4 (.slice (some ⟨b, 0, none⟩) 2 cap) [x, y] := by
 refine .block b 0 cap (x ++ y) rfl hg hb hcap fun k hk => ?_
 have hf := flat_get (sz := 4) (es := [x, y]) (by intro z hz; simp only [List.mem_cons, List.not_mem_nil, or_false] at hz; rcases hz with rfl | rfl <;> assumption) hk
 simpa using hf
set_option maxHeartbeats 4000000 in
set_option maxRecDepth 10000 in
theorem equalFunc_ok {I : yb} (hI : Plain I) {s : St} (hf : Fine s) {δ : Slc → List Int} {v1 v2 : Value} {r1 r2 q1 q2 : Rt} (h1 : Sl s 58 4 v1 [r1.cells, r2.cells]) (h2 : Sl s 58 4 v2 [q1.cells, q2.cells]) (hr1 : RtS s δ r1) (hr2 : RtS s δ r2) (hq1 : RtS s δ q1) (hq2 : RtS s δ q2) (hroom : s.next + 8 ≤ zo) :
  ∃ v' s', yI Tryz.prog I 153 #[v1, v2, .func (.func 154) #[] #[]] s v' s' ∧ (v' = .bool (eqZ δ r1 q1 && eqZ δ r2 q2) ∧ HL [] s s' [] 8) := by
 have H := hf.hl
 obtain ⟨a1, n1, c1, rfl, hn1⟩ := h1.isSlice
 simp only [List.length_cons, List.length_nil] at hn1
 subst hn1
 obtain ⟨a2, n2, c2, rfl, hn2⟩ := h2.isSlice
 simp only [List.length_cons, List.length_nil] at hn2
 subst hn2
 obtain ⟨b1, oo1, d1, rfl, hg1, hb1, hc1⟩ := h1.at (i := 0) (k := 0) rfl (by simp)
 obtain ⟨_, _, _, he, hg1b, _, hc1b⟩ := h1.at (i := 1) (k := 1) rfl (by simp)
 cases he
 rw [hg1] at hg1b
 cases hg1b
 obtain ⟨b2, oo2, d2, rfl, hg2, hb2, hc2⟩ := h2.at (i := 0) (k := 0) rfl (by simp)
 obtain ⟨_, _, _, he, hg2b, _, hc2b⟩ := h2.at (i := 1) (k := 1) rfl (by simp)
 cases he
 rw [hg2] at hg2b
 cases hg2b
 refine yc 3 (hI 153 (by decide) (by decide)) Tryz.func153 rfl fb153 rfl ?_
 refine ze (za rfl (zh (zb (zx (ze (za rfl (zm rfl (za rfl (z7 un215 rfl rfl rfl (za rfl (zm rfl (za rfl (z7 un215 rfl rfl rfl (za rfl (yM rfl rfl (fun h => False.elim (by exact h rfl)) (fun h => ?_))))))))))))))))
 refine zb (zv rfl (zD (zj (zx (ze (za rfl (zm rfl (za rfl (z7 un215 rfl rfl rfl (za rfl (xL (zb (zL (qt ?_))))))))))))))
 refine ze (za rfl (yg rfl rfl (fun h => ?_) (fun h => False.elim (by exact h (by decide)))))
 refine zb (zx (zq rfl (zD (zj (zx (zL (ze (za rfl (zf rfl (za rfl (zB el215 rfl rfl (by omega) (by omega) (za rfl (ya sh58 rfl (H.old hb1 hg1) hc1 (za rfl (z6 H zf58 (by omega) (fun b8 s1 H => ?_))))))))))))))))
 refine za rfl (zk rfl (za rfl (zX (vs := [.bool _, .slice _ _ _, .bool _, .slice _ _ _]) H sz58 rfl rfl rfl rfl rfl (by omega) (fun s2 H => ?_))))
 refine zb (ze (za rfl (zm rfl (za rfl (zf rfl (za rfl (zB el215 rfl rfl (by omega) (by omega) (za rfl (ya sh58 rfl (H.old hb2 hg2) hc2 (za rfl (z6 H zf58 (by omega) (fun b9 s3 H => ?_))))))))))))
 refine za rfl (zX (vs := [.bool _, .slice _ _ _, .bool _, .slice _ _ _]) H sz58 rfl rfl rfl rfl rfl (by omega) (fun s4 H => ?_))
 refine zb (ze (za rfl (xh rfl (za rfl (ya sh58 rfl H.own1 rfl (za rfl (ya sh58 rfl H.own0 rfl (za rfl (zy rfl fc154 rfl ?_)))))))))
 obtain ⟨_, s9, hr, rfl, Hc⟩ := equal_ok hI H.fine (hr1.1.1.kept H) (hr1.2.1.kept H) (hq1.1.1.kept H) (hq1.2.1.kept H) hr1.1.2 hr1.2.2 (by have := H.most; omega)
 refine ⟨_, _, hr, ?_⟩
 clear hr
 have H := H.call0 Hc
 clear Hc
 cases hbb1 : ratB r1.n1 (δ r1.s1) (δ r1.s2) q1.n1 (δ q1.s1) (δ q1.s2)
 ·refine za rfl (yC rfl (zb (zq rfl (ze (za rfl (zh (zb (zu (zt (zn (zn (zt (zn ?_)))))))))))))
  refine zp (zQ (⟨congrArg Value.bool ?_, (H.sub (List.nil_sublist _)).up (by omega)⟩))
  unfold eqZ
  simp [*]
 refine za rfl (yC rfl (zb (zv rfl (zD (zP (zj (zF (za rfl (zZ rfl rfl (by unfold zS; omega) (za rfl (zf rfl (zb (zj (qt ?_))))))))))))))
 refine ze (za rfl (yg rfl rfl (fun h => ?_) (fun h => False.elim (by exact h (by decide)))))
 refine zb (zx (zq rfl (zD (zj (zx (zL (ze (za rfl (zf rfl (za rfl (zB el215 rfl rfl (by omega) (by omega) (za rfl (ya sh58 rfl (H.old hb1 hg1) hc1b (za rfl (z6 H zf58 (by omega) (fun b8 s5 H => ?_))))))))))))))))
 refine za rfl (zk rfl (za rfl (zX (vs := [.bool _, .slice _ _ _, .bool _, .slice _ _ _]) H sz58 rfl rfl rfl rfl rfl (by omega) (fun s6 H => ?_))))
 refine zb (ze (za rfl (zm rfl (za rfl (zf rfl (za rfl (zB el215 rfl rfl (by omega) (by omega) (za rfl (ya sh58 rfl (H.old hb2 hg2) hc2b (za rfl (z6 H zf58 (by omega) (fun b9 s7 H => ?_))))))))))))
 refine za rfl (zX (vs := [.bool _, .slice _ _ _, .bool _, .slice _ _ _]) H sz58 rfl rfl rfl rfl rfl (by omega) (fun s8 H => ?_))
 refine zb (ze (za rfl (xh rfl (za rfl (ya sh58 rfl H.own1 rfl (za rfl (ya sh58 rfl H.own0 rfl (za rfl (zy rfl fc154 rfl ?_)))))))))
 obtain ⟨_, s9, hr, rfl, Hc⟩ := equal_ok hI H.fine (hr2.1.1.kept H) (hr2.2.1.kept H) (hq2.1.1.kept H) (hq2.2.1.kept H) hr2.1.2 hr2.2.2 (by have := H.most; omega)
 refine ⟨_, _, hr, ?_⟩
 clear hr
 have H := H.call0 Hc
 clear Hc
 cases hbb2 : ratB r2.n1 (δ r2.s1) (δ r2.s2) q2.n1 (δ q2.s1) (δ q2.s2)
 ·refine za rfl (yC rfl (zb (zq rfl (ze (za rfl (zh (zb (zu (zt (zn (zn (zt (zn ?_)))))))))))))
  refine zp (zQ (⟨congrArg Value.bool ?_, (H.sub (List.nil_sublist _)).up (by omega)⟩))
  unfold eqZ
  simp [*]
 refine za rfl (yC rfl (zb (zv rfl (zD (zP (zj (zF (za rfl (zZ rfl rfl (by unfold zS; omega) (za rfl (zf rfl (zb (zj (qt ?_))))))))))))))
 refine ze (za rfl (yg rfl rfl (fun h => False.elim (by exact absurd h (by decide))) (fun h => ?_)))
 refine zb (zx (zv rfl (yi (zU (zU (z8 (zj (ze (za rfl (zh (zb (zu ?_))))))))))))
 refine zp (zQ (⟨congrArg Value.bool ?_, (H.sub (List.nil_sublist _)).up (by omega)⟩))
 unfold eqZ
 simp [*]
set_option maxHeartbeats 4000000 in
set_option maxRecDepth 10000 in
theorem same_ok {I : yb} (hI : Plain I) {s : St} (hf : Fine s) {δ : Slc → List Int} {x y : Sp} (hx : DigS s δ x) (hy : DigS s δ y) (hroom : s.next + 12 ≤ zo) :
  ∃ v' s', yI Tryz.prog I 95 #[.agg ⟨x.cells⟩, .agg ⟨y.cells⟩] s v' s' ∧ (v' = .bool (sameZ δ x y) ∧ HL [] s s' [] 12) := by
 have H := hf.hl
 refine yc 2 (hI 95 (by decide) (by decide)) Tryz.func95 rfl fb95 rfl ?_
 refine ze (za rfl (yX H rfl (by omega) (fun b2 s1 H => ?_)))
 refine za rfl (yX H rfl (by omega) (fun b3 s2 H => ?_))
 refine za rfl (zh (zb (ze (za rfl (zg xT rfl (za rfl (zl yx rfl H.own1 rfl (za rfl (zg xT rfl (za rfl (zl yx rfl H.own0 rfl (za rfl (yJ rfl rfl (fun h => ?_) (fun h => ?_))))))))))))))
 ·refine za rfl (zi rfl (za rfl (zg y9 rfl (za rfl (zl yx rfl H.own1 rfl (za rfl (zg y9 rfl (za rfl (zl yx rfl H.own0 rfl (za rfl (yJ rfl rfl (fun h => ?_) (fun h => ?_))))))))))))
  ·refine za rfl (zN rfl rfl (za rfl (zi rfl (za rfl (zg of62_2 rfl (za rfl (zg of60_0 rfl (za rfl (ya sh58 rfl H.own1 rfl (za rfl (zg of62_2 rfl (za rfl (zg of60_1 rfl (za rfl (ya sh58 rfl H.own1 rfl (za rfl (yd (c := [.bool _, .slice _ _ _, .bool _, .slice _ _ _, .bool _, .slice _ _ _, .bool _, .slice _ _ _]) H sl215 rfl rfl (by omega) (fun b24 s3 H => ?_))))))))))))))))))
   refine za rfl (zg of62_2 rfl (za rfl (zg of60_0 rfl (za rfl (ya sh58 rfl H.own1 rfl (za rfl (zg of62_2 rfl (za rfl (zg of60_1 rfl (za rfl (ya sh58 rfl H.own1 rfl (za rfl (yd (c := [.bool _, .slice _ _ _, .bool _, .slice _ _ _, .bool _, .slice _ _ _, .bool _, .slice _ _ _]) H sl215 rfl rfl (by omega) (fun b31 s4 H => ?_))))))))))))))
   refine za rfl (zy rfl fc153 rfl ?_)
   obtain ⟨_, s9, hr, rfl, Hc⟩ := equalFunc_ok (r1 := x.r1) (r2 := x.r2) (q1 := y.r1) (q2 := y.r2) hI H.fine (sl_two (x := x.r1.cells) (y := x.r2.cells) rfl rfl H.own1 H.lt1 (cap := 2 * 2) (by decide)) (sl_two (x := y.r1.cells) (y := y.r2.cells) rfl rfl H.own0 H.lt0 (cap := 2 * 2) (by decide)) (hx.1.kept H) (hx.2.kept H) (hy.1.kept H) (hy.2.kept H) (by have := H.most; omega)
   refine ⟨_, _, hr, ?_⟩
   clear hr
   have H := H.call0 Hc
   clear Hc
   cases hb : (eqZ δ x.r1 y.r1 && eqZ δ x.r2 y.r2)
   ·refine za rfl (zN rfl rfl (za rfl (zr rfl (zb (zu (zp (zQ (⟨congrArg Value.bool ?_, (H.sub (List.nil_sublist _)).up (by omega)⟩))))))))
    unfold sameZ
    simp [*]
   refine za rfl (zN rfl rfl (za rfl (zr rfl (zb (zu (zp (zQ (⟨congrArg Value.bool ?_, (H.sub (List.nil_sublist _)).up (by omega)⟩))))))))
   unfold sameZ
   simp [*]
  refine za rfl (zN rfl rfl (za rfl (zi rfl (zc rfl (zc rfl (zc rfl (zc rfl (zc rfl (zc rfl (zc rfl (zc rfl (zc rfl (zc rfl ?_)))))))))))))
  refine zc rfl (zc rfl (zc rfl (zc rfl (zc rfl (za rfl (zY rfl (za rfl (zr rfl (zb (zu (zp (zQ (⟨congrArg Value.bool ?_, (H.sub (List.nil_sublist _)).up (by omega)⟩)))))))))))))
  unfold sameZ
  simp [*]
 refine za rfl (zi rfl (zc rfl (zc rfl (zc rfl (zc rfl (zc rfl (za rfl (zY rfl (za rfl (zi rfl (zc rfl (zc rfl (zc rfl (zc rfl ?_))))))))))))))
 refine zc rfl (zc rfl (zc rfl (zc rfl (zc rfl (zc rfl (zc rfl (zc rfl (zc rfl (zc rfl (zc rfl (za rfl (zY rfl ?_))))))))))))
 refine za rfl (zr rfl (zb (zu (zp (zQ (⟨congrArg Value.bool ?_, (H.sub (List.nil_sublist _)).up (by omega)⟩))))))
 unfold sameZ
 simp [*]
set_option maxHeartbeats 4000000 in
set_option maxRecDepth 10000 in
theorem cleanF_ok {I : yb} (hI : Plain I) {s : St} (hf : Fine s) {δ : Slc → List Int} {x : Sp} {l : List Sp} {b9 : Nat} {vl : Value} (hg9 : s.get b9 = some (.cells [vl] 25)) (hb9 : b9 < s.next) (hl : Sl s 62 10 vl (l.map Sp.cells)) (hne : 0 < l.length) (hx : DigS s δ x) (hy : DigS s δ (l.getD 0 default)) (hroom : s.next + 13 ≤ zo) :
  ∃ v' s', yI Tryz.prog I 94 #[.agg ⟨x.cells⟩, ptr b9] s v' s' ∧ (v' = .bool (sameZ δ x (l.getD 0 default)) ∧ HL [] s s' [] 13) := by
 have H := hf.hl
 obtain ⟨a, n, c, rfl, hn⟩ := hl.isSlice
 rw [List.length_map] at hn
 subst hn
 obtain ⟨b1, oo1, d1, rfl, hg1, hb1, hc1⟩ := hl.atS (i := 0) (k := 0) rfl hne
 refine yc 2 (hI 94 (by decide) (by decide)) Tryz.func94 rfl fb94 rfl ?_
 refine ze (za rfl (yX H rfl (by omega) (fun b2 s1 H => ?_)))
 refine za rfl (zh (zb (yy [⟨0, 0, .light, [1, 3]⟩, ⟨1, 0, .light, [0]⟩, ⟨2, 2, .light, [0]⟩, ⟨3, 6, .light, [0]⟩, ⟨4, 15, .whole, []⟩, ⟨5, 31, .light, []⟩] (by kernel_rfl) (by kernel_rfl) (yV rfl rfl sh62 rfl H.own0 (by exact H.lim0 (by omega)) rfl (zG rfl rfl sh25 rfl (by exact H.old hb9 hg9) (by (have hmo := H.most; have hle := H.le; omega)) rfl (zd rfl rfl (zB el25 rfl rfl (by omega) (by omega) ⟨rfl, (yV rfl rfl sh62 rfl (H.old hb1 hg1) (by have hmo := H.most; have hle := H.le; omega) hc1 (yn rfl rfl (zy rfl fc95 rfl ?_)))⟩)))))))
 obtain ⟨_, s9, hr, rfl, Hc⟩ := same_ok hI H.fine (hx.kept H) (hy.kept H) (by have hmo := H.most; (try simp only at hmo); show _ + _ ≤ _; (try simp only); omega)
 refine ⟨_, _, hr, ?_⟩
 clear hr
 have H := H.call0 (HL.wider H.fine (Nat.le_refl _) (fun _ h => h) Hc)
 clear Hc
 refine zd rfl rfl (zr rfl ⟨rfl, (zV (zu (zp (zQ ?_))))⟩)
 exact ⟨rfl, (H.sub (List.nil_sublist _)).up (by omega)⟩
end Go.Proofs.YtdejleegamcioaaGreat
namespace Go.Proofs.YtdejleegamcioaaGreat
open Go Go.M
end Go.Proofs.YtdejleegamcioaaGreat
namespace Go.Proofs.YtdejleegamcioaaGreat
open Go Go.M
section
variable (δ : Slc → List Int) (js : List (Int × Int)) (bad : Int) (may : List Sp)
def y3 : Nat → Int → List Sp → Option (List Sp)
 | 0, _, _ => none
 | f + 1, S, l => if yl S bad 0 js = true then (match l with
   | [] => none
   | x :: r => if x.w = S ∧ may.any (fun m => sameZ δ m x) = true then (match y3 f x.p r with
     | some r' => y3 f (zI S x.p) r'
     | none => none) else none) else some l
variable {δ js bad may}
theorem cleanZ_no {f : Nat} {S : Int} {l : List Sp} (h : yl S bad 0 js = false) : y3 δ js bad may (f + 1) S l = some l := by
 cases l <;> simp [y3, h]
theorem cleanZ_nil {f : Nat} {S : Int} (h : yl S bad 0 js = true) : y3 δ js bad may (f + 1) S [] = none := by
 simp [y3, h]
theorem xB {f : Nat} {S : Int} {x : Sp} {r : List Sp} (h : yl S bad 0 js = true) : y3 δ js bad may (f + 1) S (x :: r) = if x.w = S ∧ may.any (fun m => sameZ δ m x) = true then (match y3 δ js bad may f x.p r with
  | some r' => y3 δ js bad may f (zI S x.p) r'
  | none => none) else none := by
 simp only [y3, h, if_true]
theorem cleanZ_drop : ∀ (f : Nat) (S : Int) (l r : List Sp), y3 δ js bad may f S l = some r → ∃ k, k ≤ l.length ∧ r = l.drop k
 | 0, _, _, _, h => by simp [y3] at h
 | f + 1, S, l, r, h => by
  cases hn : yl S bad 0 js with
  | false =>
   rw [cleanZ_no hn] at h
   cases h
   exact ⟨0, by omega, rfl⟩
  | true =>
   cases l with
   | nil => rw [cleanZ_nil hn] at h; cases h
   | cons x l =>
    rw [xB hn] at h
    split at h
    ·cases hc : y3 δ js bad may f x.p l with
     | none => rw [hc] at h; cases h
     | some r' =>
      rw [hc] at h
      obtain ⟨k, hk, rfl⟩ := cleanZ_drop f x.p l r' hc
      obtain ⟨k2, hk2, rfl⟩ := cleanZ_drop f _ _ r h
      refine ⟨k + k2 + 1, ?_, ?_⟩
      ·simp only [List.length_drop, List.length_cons] at hk2 ⊢; omega
      ·rw [List.drop_succ_cons, List.drop_drop]
    ·cases h
theorem same_split (hm : y0 may) {x : Sp} (h : may.any (fun m => sameZ δ m x) = true) : xl x.w x.p = true ∧ x.p < 9223372036854775808 := by
 obtain ⟨m, hmm, hs⟩ := List.any_eq_true.mp h
 simp only [sameZ, Bool.and_eq_true, decide_eq_true_eq] at hs
 obtain ⟨a, b⟩ := hm m hmm
 rw [hs.1, hs.2.1] at a
 rw [hs.2.1] at b
 exact ⟨a, b⟩
end
def tc : Nat → Nat
 | 0 => 300
 | n + 1 => 300 + 2 * tc n
theorem tc_mono : ∀ {a b : Nat}, a ≤ b → tc a ≤ tc b
 | 0, 0, _ => Nat.le_refl _
 | 0, b + 1, _ => by simp only [tc]; omega
 | a + 1, 0, h => by omega
 | a + 1, b + 1, h => by have := tc_mono (a := a) (b := b) (by omega); simp only [tc]; omega
structure UsSt (s : St) (δ : Slc → List Int) (vj vm vl : Value) (js : List (Int × Int)) (may l : List Sp) : Prop where
 sJ : Sl s 30 2 vj (js.map jc)
 sM : Sl s 62 10 vm (may.map Sp.cells)
 sL : Sl s 62 10 vl (l.map Sp.cells)
 dM : ∀ x ∈ may, DigS s δ x ∧ x.n2 = false ∧ x.n4 = false
 dL : ∀ x ∈ l, DigS s δ x ∧ x.n2 = false ∧ x.n4 = false
theorem UsSt.kept {s s' : St} {δ : Slc → List Int} {vj vm vl : Value} {js : List (Int × Int)} {may l : List Sp} {L : Hp'} {n : Nat} (h : UsSt s δ vj vm vl js may l) (H : HL [] s s' L n) : UsSt s' δ vj vm vl js may l :=
 ⟨h.sJ.kept H, h.sM.kept H, h.sL.kept H, fun x hx => ⟨(h.dM x hx).1.kept H, (h.dM x hx).2⟩, fun x hx => ⟨(h.dL x hx).1.kept H, (h.dL x hx).2⟩⟩
end Go.Proofs.YtdejleegamcioaaGreat
namespace Go.Proofs.YtdejleegamcioaaGreat
open Go Go.M
theorem fb56 : yw Tryz.f56 (Tryz.f56.body.getD .skip) 5 = true := by kernel_rfl
theorem fc56 : yp Tryz.prog 56 = true := by kernel_rfl
theorem fc94 : yp Tryz.prog 94 = true := by kernel_rfl
end Go.Proofs.YtdejleegamcioaaGreat
namespace Go.M
section
variable {P : Program} {I : yb} {F : FF} {s : St} {Q : FF → St → Prop} {d : Option Tmp} {ty : TypeId} {pos : String} {af : Array Edge} {g : Option (Nat × Bool)}
theorem op_sliceLo {t e : TypeId} {x lo : Operand} {sz by_ b off len cap m : Nat} {z c : List Value} {kd : IntKind} {a : Int} (hs : xG P t = some (e, sz, by_, z)) (hx : zH F x = .slice (some ⟨b, off, none⟩) len cap) (hh : zH F lo = .int kd a) (hm : a = (m : Int)) (hg : s.get b = some (.cells c e)) (h1 : m ≤ len) (h2 : len ≤ cap / 2)
  (k : ∀ off' cap', (m < len → off' = off + m * sz) → cap' / 2 = cap / 2 - m → Q (upd F d (.slice (some ⟨b, off', none⟩) (len - m) cap')) s) : OpW P I ⟨d, .slice t x (some lo) none none, ty, pos, af, g⟩ F s Q := by
 obtain ⟨hu, inf, z', hi', rfl, rfl, hz, hz1, hz2⟩ := y8 hs
 subst hm
 have hb : (Nat.ble m len && Nat.ble len (cap / 2) && Nat.ble (cap / 2) (cap / 2) && ((none : Option Value).isSome || !(none : Option Value).isSome)) = true := by
  simp only [Bool.and_eq_true]
  exact ⟨⟨⟨Nat.ble_eq_true_of_le h1, Nat.ble_eq_true_of_le h2⟩, Nat.ble_eq_true_of_le (Nat.le_refl _)⟩, rfl⟩
 have hrow : rowB e (some ⟨b, off, none⟩) cap s = true := by
  simp only [rowB, hg, Nat.beq_refl]
  split <;> rfl
 have hadd : ∀ n, Option.map (fun x => x.add n) (some (⟨b, off, none⟩ : Addr)) = some ⟨b, off + n, none⟩ := fun n => by
  simp only [Option.map_some, Addr.add]
  split
  ·next h => rw [h]; rfl
  ·rfl
 rcases Nat.mod_two_eq_zero_or_one cap with h | h
 ·by_cases hq : cap / 2 = m
  ·refine yj (v := .slice (some ⟨b, off, none⟩) (len - m) (2 * (cap / 2 - m))) (s' := s) ?_ (k off (2 * (cap / 2 - m)) (fun hl => by omega) (by omega))
   simp only [zK, sliceM, hu, hi', hx, Option.map_none, Option.map_some, hh, h]
   simp only [qG, xc (v := some (.int kd (m : Int))) (d := 0) (m := m) (.inr ⟨kd, rfl⟩), xc (v := none) (d := len) (m := len) (.inl ⟨rfl, rfl⟩), xc (v := none) (d := cap / 2) (m := cap / 2) (.inl ⟨rfl, rfl⟩), hb, Bool.true_or]
   rw [show Nat.beq (cap / 2) m = true from Nat.beq_eq.mpr hq, if_pos rfl]
   rfl
  ·refine yj (v := .slice (some ⟨b, off + m * inf.size, none⟩) (len - m) (2 * (cap / 2 - m))) (s' := s) ?_ (k (off + m * inf.size) (2 * (cap / 2 - m)) (fun _ => rfl) (by omega))
   simp only [zK, sliceM, hu, hi', hx, Option.map_none, Option.map_some, hh, h]
   simp only [qG, xc (v := some (.int kd (m : Int))) (d := 0) (m := m) (.inr ⟨kd, rfl⟩), xc (v := none) (d := len) (m := len) (.inl ⟨rfl, rfl⟩), xc (v := none) (d := cap / 2) (m := cap / 2) (.inl ⟨rfl, rfl⟩), hb, Bool.true_or]
   rw [if_neg (by intro hc; exact hq (Nat.beq_eq.mp hc)), hadd]
   rfl
 ·refine yj (v := .slice (some ⟨b, off + m * inf.size, none⟩) (len - m) (2 * (cap / 2 - m) + 1)) (s' := s) ?_ (k (off + m * inf.size) (2 * (cap / 2 - m) + 1) (fun _ => rfl) (by omega))
  simp only [zK, sliceM, hu, hi', hx, Option.map_none, Option.map_some, hh, h]
  simp only [hrow, qG, xc (v := some (.int kd (m : Int))) (d := 0) (m := m) (.inr ⟨kd, rfl⟩), xc (v := none) (d := len) (m := len) (.inl ⟨rfl, rfl⟩), xc (v := none) (d := cap / 2) (m := cap / 2) (.inl ⟨rfl, rfl⟩), hb, Bool.false_or]
  rw [hadd]
  rfl
end
end Go.M
namespace Go.Proofs.YtdejleegamcioaaGreat
open Go Go.M
theorem Sl.cap2 {s : St} {e : TypeId} {sz : Nat} {a : Option Addr} {len cap : Nat} {es : List (List Value)} (h : Sl s e sz (.slice a len cap) es) : len ≤ cap / 2 := h.cap
theorem Sl.dropS {s : St} {e : TypeId} {sz : Nat} {b off cap : Nat} {es : List (List Value)} {len : Nat} (h : Sl s e sz (.slice (some ⟨b, off, none⟩) len cap) es) (hlen : len = es.length) {m off' cap' : Nat} (hm : m ≤ len) (ho : m < len → off' = off + m * sz) (hc2 : cap' / 2 = cap / 2 - m) : Sl s e sz (.slice (some ⟨b, off', none⟩) (len - m) cap') (es.drop m) := by
 subst hlen
 cases h with
 | nil c hv hl => cases hv
 | block b off cap c hv hg hb hcap hc =>
  cases hv
  refine .block b off' cap' c (by rw [List.length_drop]) hg hb (by rw [List.length_drop]; omega) fun k hk => ?_
  rw [List.length_drop] at hk
  rw [ho (by omega), show off + m * sz + k * sz = off + (m + k) * sz by rw [Nat.add_mul]; omega, hc (m + k) (by omega)]
  simp [List.getD_eq_getElem?_getD]
def CnP (o : Option (List Sp)) (s' : St) (v' : Value) : Prop := match o with
 | some r => ∃ a c, v' = .tuple ⟨[.slice a r.length c, .bool true]⟩ ∧ Sl s' 62 10 (.slice a r.length c) (r.map Sp.cells)
 | none => v' = .tuple ⟨[.slice none 0 0, .bool false]⟩
def CnC (I : yb) (δ : Slc → List Int) (js : List (Int × Int)) (bad : Int) (may : List Sp) (ja ma : Option Addr) (jcp mcp : Nat) (f : Nat) : Prop :=
 ∀ (S : Int), 0 < S → S.toNat < f → ∀ (l : List Sp) (la : Option Addr) (lcp : Nat), l.length ≤ 1000 → ∀ (s : St), Fine s → UsSt s δ (.slice ja js.length jcp) (.slice ma may.length mcp) (.slice la l.length lcp) js may l → s.next + tc l.length ≤ zo →
  ∃ v' s', yI Tryz.prog I 56 #[.int .i64 S, .slice ja js.length jcp, .int .i64 bad, .slice ma may.length mcp, .slice la l.length lcp] s v' s' ∧ (CnP (y3 δ js bad may f S l) s' v' ∧ HL [] s s' [] (tc l.length))
set_option maxHeartbeats 4000000 in
set_option maxRecDepth 10000 in
theorem clean_step2 {I : yb} (hI : Plain I) {δ : Slc → List Int} {js : List (Int × Int)} {bad : Int} {may : List Sp} (hj : ∀ j ∈ js, joinB j) (hjl : js.length ≤ 16) (hm : y0 may) (hml : may.length ≤ 15) {ja ma : Option Addr} {jcp mcp : Nat} {f : Nat} (ih : CnC I δ js bad may ja ma jcp mcp f) : CnC I δ js bad may ja ma jcp mcp (f + 1) := by
 intro S hS hSf l la lcp hlen s hf hu hroom
 have H := hf.hl
 have hT : 300 ≤ tc l.length := tc_mono (a := 0) (by omega)
 refine yc 5 (hI 56 (by decide) (by decide)) Tryz.func56 rfl fb56 rfl ?_
 refine ze (za rfl (op_boxS H rfl (by omega) (fun b9 s1 H => ?_)))
 refine za rfl (zh (za rfl (zh (zb (zx (ze (za rfl (zf rfl (za rfl (zm rfl (za rfl (zf rfl (za rfl (zy rfl fc42 rfl ?_))))))))))))))
 obtain ⟨_, s9, hr, rfl, Hc⟩ := needs_ok (x := S) (bad := bad) hI H.fine (hu.sJ.kept H) hj hjl (by have := H.most; omega)
 refine ⟨_, _, hr, ?_⟩
 clear hr
 have H := H.call0 Hc
 clear Hc
 cases hnd : yl S bad 0 js
 ·refine za rfl (yC rfl (zb (zq rfl (ze (za rfl (zl sh25 rfl H.own0 rfl (za rfl (zT rfl (za rfl (zh (zb (zu (zn (zp (yE rfl rfl ?_)))))))))))))))
  refine ⟨?_, H.drop0.up (by omega)⟩
  rw [cleanZ_no hnd]
  exact ⟨_, _, rfl, hu.sL.kept H⟩
 refine za rfl (yC rfl (zb (zv rfl (zD (zj (zx (ze (za rfl (zl sh25 rfl H.own0 rfl (za rfl (z7 qF rfl rfl rfl (za rfl (yJ rfl rfl (fun h => ?_) (fun h => ?_))))))))))))))
 ·refine za rfl (zi rfl (zc rfl (zc rfl (zc rfl (zc rfl (zc rfl (zc rfl (za rfl (zC rfl (za rfl (zi rfl (zc rfl (zc rfl (zc rfl ?_))))))))))))))
  refine zc rfl (za rfl (zC rfl (zb (zq rfl (ze (za rfl (zh (za rfl (zh (zb (zu (zn (zp (yE rfl rfl ?_))))))))))))))
  refine ⟨?_, H.drop0.up (by omega)⟩
  have hz : y3 δ js bad may (f + 1) S l = none := by
   first
    | (rw [List.eq_nil_of_length_eq_zero (show l.length = 0 by omega), cleanZ_nil hnd])
    | (rw [hdr, xB hnd, if_neg]; rintro ⟨hw, hany⟩; first | exact h hw | (rw [hb] at hany; cases hany))
  rw [hz]
  exact rfl
 refine za rfl (zi rfl ?_)
 have hdr : l = (l.getD 0 default) :: l.drop 1 := by have := yF (l := l) (k := 0) default (by omega); simpa using this
 obtain ⟨el, ool, dl, hel, hgl, hbl, hcl⟩ := (hu.sL.kept H).atS (i := 0) (k := 0) rfl (by omega)
 cases hel
 obtain ⟨cl2, hgl2, hlw, hlp⟩ := (hu.sL.kept H).gotS (k := 0) (by omega)
 have hll : el < zo := Nat.lt_of_lt_of_le hbl (by have hmo := H.most; (try simp only at hmo ⊢); omega)
 refine za rfl (zl sh25 rfl H.own0 rfl (za rfl (zB el25 rfl rfl (by omega) (by omega) (za rfl (zg xT rfl (za rfl (zl yx rfl hgl2 hlw (za rfl (zf rfl (za rfl (yM rfl rfl (fun h => ?_) (fun h => ?_))))))))))))
 ·refine za rfl (zw rfl rfl (za rfl (zi rfl (zc rfl (zc rfl (zc rfl (zc rfl (za rfl (zC rfl (zb (zq rfl (ze (za rfl (zh (za rfl (zh ?_))))))))))))))))
  refine zb (zu (zn (zp (yE rfl rfl (⟨?_, H.drop0.up (by omega)⟩)))))
  have hz : y3 δ js bad may (f + 1) S l = none := by
   first
    | (rw [List.eq_nil_of_length_eq_zero (show l.length = 0 by omega), cleanZ_nil hnd])
    | (rw [hdr, xB hnd, if_neg]; rintro ⟨hw, hany⟩; first | exact h hw | (rw [hb] at hany; cases hany))
  rw [hz]
  exact rfl
 refine za rfl (zw rfl rfl (za rfl (zi rfl (za rfl (zm rfl (za rfl (op_makeFunc (za rfl (zy rfl fc84 rfl ?_)))))))))
 obtain ⟨_, s9, hr, rfl, Hc⟩ := containsFunc_ok (fa := #[]) (fb := #[ptr b9]) (K := 13) (p := fun m => sameZ δ m (l.getD 0 default)) hI H.fine (hu.sM.kept H) fc94 (fun s1 m x hx H1 hr1 => cleanF_ok hI H1.fine (H1.old H.lt0 H.own0) (by have := H1.le; have := H.lt0; omega) ((hu.sL.kept H).kept H1) (by omega) (((hu.dM x hx).1.kept H).kept H1) (((hu.dL _ (zR (by omega))).1.kept H).kept H1) hr1) (by omega) (by have := H.most; omega)
 refine ⟨_, _, hr, ?_⟩
 clear hr
 have H := H.call0 Hc
 clear Hc
 cases hb : may.any (fun m => sameZ δ m (l.getD 0 default))
 ·refine za rfl (yC rfl (za rfl (zw rfl rfl (zb (zq rfl (ze (za rfl (zh (za rfl (zh (zb (zu (zn (zp (yE rfl rfl ?_)))))))))))))))
  refine ⟨?_, H.drop0.up (by omega)⟩
  have hz : y3 δ js bad may (f + 1) S l = none := by
   first
    | (rw [List.eq_nil_of_length_eq_zero (show l.length = 0 by omega), cleanZ_nil hnd])
    | (rw [hdr, xB hnd, if_neg]; rintro ⟨hw, hany⟩; first | exact h hw | (rw [hb] at hany; cases hany))
  rw [hz]
  exact rfl
 refine za rfl (yC rfl (za rfl (zw rfl rfl (zb (zv rfl (zD (zj ?_)))))))
 have hxw : (l.getD 0 default).w = S := by simpa using h
 obtain ⟨hsp, hpb⟩ := same_split hm hb
 obtain ⟨hf1, hf2, hf3, hf4, hf5, hf6⟩ := yP hsp hpb
 obtain ⟨n1, hn1⟩ : ∃ n1, l.length = n1 + 1 := ⟨l.length - 1, by omega⟩
 have hT1 : tc l.length = 300 + 2 * tc (l.length - 1) := by rw [hn1]; rfl
 refine yy [⟨0, 0, .light, [7]⟩, ⟨1, 1, .light, [7]⟩, ⟨2, 3, .light, [7]⟩, ⟨3, 7, .light, [7]⟩, ⟨4, 0, .light, [0, 3, 7]⟩, ⟨5, 0, .light, [0, 3, 7]⟩, ⟨6, 0, .light, [0, 3, 7]⟩, ⟨7, 0, .light, [0, 3]⟩, ⟨8, 128, .whole, [0, 3]⟩, ⟨9, 511, .whole, []⟩, ⟨10, 1023, .light, []⟩, ⟨11, 2047, .light, []⟩, ⟨12, 2047, .light, []⟩, ⟨13, 4095, .light, []⟩, ⟨14, 16383, .light, []⟩] (by kernel_rfl) (by kernel_rfl) ?_
 obtain ⟨el, ool, dl, hel, hgl, hbl, hcl⟩ := (hu.sL.kept H).atS (i := 0) (k := 0) rfl (by omega)
 cases hel
 obtain ⟨cl2, hgl2, hlw, hlp⟩ := (hu.sL.kept H).gotS (k := 0) (by omega)
 have hll : el < zo := Nat.lt_of_lt_of_le hbl (by have hmo := H.most; (try simp only at hmo ⊢); omega)
 refine zG rfl rfl sh25 rfl H.own0 (by exact H.lim0 (by omega)) rfl (zd rfl rfl (zB el25 rfl rfl (by omega) (by omega) ⟨rfl, (zd rfl rfl (zg y9 rfl ⟨rfl, (zG rfl rfl yx rfl hgl2 hll hlp (zd rfl rfl (zm rfl ⟨rfl, (zd rfl rfl (zf rfl ⟨rfl, (zd rfl rfl (zm rfl ⟨rfl, (zG rfl rfl sh25 rfl H.own0 (by exact H.lim0 (by omega)) rfl (yn rfl rfl (op_sliceLo (m := 1) sl25 rfl rfl rfl hgl2 (by omega) (hu.sL.kept H).cap2 (fun ol lc hol hlc => ?_))))⟩))⟩))⟩)))⟩))⟩))
 refine yn rfl rfl (zy rfl fc56 rfl ?_)
 have hsd := Sl.dropS (m := 1) (off' := ol) (cap' := lc) (hu.sL.kept H) (by rw [List.length_map]) (by omega) hol hlc
 rw [← List.map_drop] at hsd
 obtain ⟨v9, s9, hr, hP, Hc⟩ := ih (l.getD 0 default).p hf1 (by omega) (l.drop 1) (some ⟨el, ol, none⟩) lc (by rw [List.length_drop]; omega) _ H.fine ⟨hu.sJ.kept H, hu.sM.kept H, by rw [List.length_drop]; exact hsd, fun x hx => ⟨(hu.dM x hx).1.kept H, (hu.dM x hx).2⟩, fun x hx => ⟨(hu.dL x (List.mem_of_mem_drop hx)).1.kept H, (hu.dL x (List.mem_of_mem_drop hx)).2⟩⟩ (by have hmo := H.most; (try simp only at hmo); rw [List.length_drop]; omega)
 rw [List.length_drop] at hr Hc
 refine ⟨_, _, hr, ?_⟩
 clear hr
 have H := H.call0 (HL.wider H.fine (Nat.le_refl _) (fun _ h => h) Hc)
 clear Hc
 rcases hcz : y3 δ js bad may f (l.getD 0 default).p (l.drop 1) with _ | r
 ·rw [hcz] at hP
  obtain rfl : v9 = .tuple ⟨[.slice none 0 0, .bool false]⟩ := hP
  refine zd rfl rfl (yq rfl ⟨rfl, (zd rfl rfl (zE rfl rfl ⟨rfl, (zd rfl rfl (zE rfl rfl ⟨rfl, (zd rfl rfl (zT rfl ⟨rfl, (zd rfl rfl (zr rfl ⟨rfl, (zV (zx (ze (za rfl (zi rfl (za rfl (yC rfl (zb (zq rfl ?_)))))))))⟩))⟩))⟩))⟩))⟩)
  refine ze (za rfl (zh (za rfl (zh (zb (zu (zn (zp (yE rfl rfl (⟨?_, H.drop0.up (by omega)⟩))))))))))
  have hz : y3 δ js bad may (f + 1) S l = none := by rw [hdr, xB hnd, if_pos ⟨hxw, hb⟩, hcz]
  rw [hz]
  exact rfl
 rw [hcz] at hP
 obtain ⟨ra, rc, rfl, hrS⟩ := hP
 refine zd rfl rfl (yq rfl ⟨rfl, (zd rfl rfl (zE rfl rfl ⟨rfl, (zd rfl rfl (zE rfl rfl ⟨rfl, (zd rfl rfl (zT rfl ⟨rfl, (zd rfl rfl (zr rfl ⟨rfl, (zV (zx (ze (za rfl (zi rfl (za rfl (yC rfl (zb (zv rfl ?_)))))))))⟩))⟩))⟩))⟩))⟩)
 refine zD (zj ?_)
 obtain ⟨kk, hkk, hrk⟩ := cleanZ_drop _ _ _ _ hcz
 rw [List.length_drop] at hkk
 have hrl : r.length = l.length - 1 - kk := by rw [hrk, List.length_drop, List.length_drop]
 have hrsub : ∀ x ∈ r, x ∈ l := fun x hx => by rw [hrk] at hx; exact List.mem_of_mem_drop (List.mem_of_mem_drop hx)
 have hT2 : tc r.length ≤ tc (l.length - 1) := tc_mono (by omega)
 refine ze (za rfl (zf rfl ?_))
 obtain ⟨el, ool, dl, hel, hgl, hbl, hcl⟩ := (hu.sL.kept H).atS (i := 0) (k := 0) rfl (by omega)
 cases hel
 obtain ⟨cl2, hgl2, hlw, hlp⟩ := (hu.sL.kept H).gotS (k := 0) (by omega)
 have hll : el < zo := Nat.lt_of_lt_of_le hbl (by have hmo := H.most; (try simp only at hmo ⊢); omega)
 refine za rfl (zl sh25 rfl H.own0 rfl (za rfl (zB el25 rfl rfl (by omega) (by omega) (za rfl (zg y9 rfl (za rfl (zl yx rfl hgl2 hlp (za rfl (x7 rfl rfl (za rfl (zm rfl (za rfl (zf rfl (za rfl (zm rfl (za rfl (zm rfl (za rfl (zy rfl fc56 rfl ?_)))))))))))))))))))
 obtain ⟨v10, s10, hr, hP2, Hc⟩ := ih (zI S (l.getD 0 default).p) (by rw [hxw] at hf3; exact hf3) (by rw [hxw] at hf4 hf2; omega) r ra rc (by omega) _ H.fine ⟨hu.sJ.kept H, hu.sM.kept H, hrS.heap rfl rfl, fun x hx => ⟨(hu.dM x hx).1.kept H, (hu.dM x hx).2⟩, fun x hx => ⟨(hu.dL x (hrsub x hx)).1.kept H, (hu.dL x (hrsub x hx)).2⟩⟩ (by have hmo := H.most; (try simp only at hmo ⊢); omega)
 refine ⟨_, _, hr, ?_⟩
 clear hr
 have H := H.call0 Hc
 clear Hc
 rcases hcz2 : y3 δ js bad may f (zI S (l.getD 0 default).p) r with _ | r2
 ·rw [hcz2] at hP2
  obtain rfl : v10 = .tuple ⟨[.slice none 0 0, .bool false]⟩ := hP2
  refine za rfl (zE rfl rfl (za rfl (zE rfl rfl (za rfl (zT rfl (za rfl (zr rfl (zb (zu (zp (yE rfl rfl (⟨?_, H.drop0.up (by omega)⟩))))))))))))
  have hz : y3 δ js bad may (f + 1) S l = y3 δ js bad may f (zI S (l.getD 0 default).p) r := by
   conv => lhs; rw [hdr]
   rw [xB hnd, if_pos ⟨hxw, hb⟩, hcz]
  rw [hz]
  rw [hcz2]
  exact rfl
 rw [hcz2] at hP2
 obtain ⟨ra2, rc2, rfl, hrS2⟩ := hP2
 refine za rfl (zE rfl rfl (za rfl (zE rfl rfl (za rfl (zT rfl (za rfl (zr rfl (zb (zu (zp (yE rfl rfl (⟨?_, H.drop0.up (by omega)⟩))))))))))))
 have hz : y3 δ js bad may (f + 1) S l = y3 δ js bad may f (zI S (l.getD 0 default).p) r := by
  conv => lhs; rw [hdr]
  rw [xB hnd, if_pos ⟨hxw, hb⟩, hcz]
 rw [hz]
 rw [hcz2]
 exact ⟨_, _, rfl, hrS2⟩
theorem cleanP_ok {I : yb} (hI : Plain I) {δ : Slc → List Int} {js : List (Int × Int)} {bad : Int} {may : List Sp} (hj : ∀ j ∈ js, joinB j) (hjl : js.length ≤ 16) (hm : y0 may) (hml : may.length ≤ 15) {ja ma : Option Addr} {jcp mcp : Nat} : ∀ f, CnC I δ js bad may ja ma jcp mcp f
 | 0 => fun S _ h => by omega
 | f + 1 => clean_step2 hI hj hjl hm hml (cleanP_ok hI hj hjl hm hml f)
end Go.Proofs.YtdejleegamcioaaGreat
