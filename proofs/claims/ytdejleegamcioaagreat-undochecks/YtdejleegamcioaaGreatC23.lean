/- Comparisons of splits, of the program and of the reference. -/
/- The reference of cleanings: what a list begins with. -/
/- The reference of cleanings: what a list of splits begins with. -/
import Derived.Test.YtdejleegamcioaaGreatC22
namespace Go.Proofs.YtdejleegamcioaaGreat
open Go Go.M
theorem el215 : elemF Tryz.prog 215 = some (true, 0, 4) := by kernel_rfl
theorem fb153 : yx Tryz.f153 (Tryz.f153.body.getD .skip) 3 = true := by kernel_rfl
theorem fc154 : yp Tryz.prog 154 = true := by kernel_rfl
theorem un215 : Tryz.prog.underlying 215 = some (.slice 58) := by kernel_rfl
theorem fb95 : yx Tryz.f95 (Tryz.f95.body.getD .skip) 2 = true := by kernel_rfl
theorem fc153 : yp Tryz.prog 153 = true := by kernel_rfl
theorem sl215 : xn Tryz.prog 215 = some (58, 4, 64, [.bool false, .slice none 0 0, .bool false, .slice none 0 0]) := by kernel_rfl
theorem fb94 : yx Tryz.f94 (Tryz.f94.body.getD .skip) 2 = true := by kernel_rfl
theorem fc95 : yp Tryz.prog 95 = true := by kernel_rfl
structure Rt where
 n1 : Bool
 s1 : Slc
 n2 : Bool
 s2 : Slc
instance : Inhabited Rt := ⟨⟨false, default, false, default⟩⟩
def Rt.cells (r : Rt) : List Value := [.bool r.n1, r.s1.v, .bool r.n2, r.s2.v]
def Sp.r1 (x : Sp) : Rt := ⟨x.n1, x.s1, x.n2, x.s2⟩
def Sp.r2 (x : Sp) : Rt := ⟨x.n3, x.s3, x.n4, x.s4⟩
def RtS (s : St) (δ : Slc → List Int) (r : Rt) : Prop := (SlD s r.s1.v (δ r.s1) ∧ (δ r.s1).length ≤ 3) ∧ (SlD s r.s2.v (δ r.s2) ∧ (δ r.s2).length ≤ 3)
def DigS (s : St) (δ : Slc → List Int) (x : Sp) : Prop := RtS s δ x.r1 ∧ RtS s δ x.r2
def eqZ (δ : Slc → List Int) (r q : Rt) : Bool := ratB r.n1 (δ r.s1) (δ r.s2) q.n1 (δ q.s1) (δ q.s2)
def x6 (δ : Slc → List Int) (x y : Sp) : Bool := decide (x.w = y.w) && (decide (x.p = y.p) && (eqZ δ x.r1 y.r1 && eqZ δ x.r2 y.r2))
theorem RtS.kept {s s' : St} {δ : Slc → List Int} {r : Rt} {L : Hp'} {n : Nat} (h : RtS s δ r) (H : HL [] s s' L n) : RtS s' δ r := ⟨⟨h.1.1.kept H, h.1.2⟩, ⟨h.2.1.kept H, h.2.2⟩⟩
theorem DigS.kept {s s' : St} {δ : Slc → List Int} {x : Sp} {L : Hp'} {n : Nat} (h : DigS s δ x) (H : HL [] s s' L n) : DigS s' δ x := ⟨h.1.kept H, h.2.kept H⟩
theorem sl_two {s : St} {b cap : Nat} {x y : List Value} (hx : x.length = 4) (hy : y.length = 4) (hg : s.get b = some (.cells (x ++ y) 58)) (hb : b < s.next) (hcap : 2 ≤ cap / 2) : Sl s 58 4 (.slice (some ⟨b, 0, none⟩) 2 cap) [x, y] := by
 refine .block b 0 cap (x ++ y) rfl hg hb hcap fun k hk => ?_
 have hf := flat_get (sz := 4) (es := [x, y]) (by intro z hz; simp only [List.mem_cons, List.not_mem_nil, or_false] at hz; rcases hz with rfl | rfl <;> assumption) hk
 simpa using hf
set_option maxHeartbeats 4000000 in
set_option maxRecDepth 10000 in
theorem equalFunc_ok {I : yh} (hI : Plain I) {s : St} (hf : Fine s) {δ : Slc → List Int} {v1 v2 : Value} {r1 r2 q1 q2 : Rt} (h1 : Sl s 58 4 v1 [r1.cells, r2.cells]) (h2 : Sl s 58 4 v2 [q1.cells, q2.cells]) (hr1 : RtS s δ r1) (hr2 : RtS s δ r2) (hq1 : RtS s δ q1) (hq2 : RtS s δ q2) (hroom : s.next + 8 ≤ zp) :
  ∃ v' s', yJ Tryz.prog I 153 #[v1, v2, .func (.func 154) #[] #[]] s v' s' ∧ (v' = .bool (eqZ δ r1 q1 && eqZ δ r2 q2) ∧ HL [] s s' [] 8) := by
 have H := hf.hl
 obtain ⟨a1, n1, c1, rfl, hn1⟩ := h1.isSlice
 simp only [List.length_cons, List.length_nil] at hn1
 subst hn1
 obtain ⟨a2, n2, c2, rfl, hn2⟩ := h2.isSlice
 simp only [List.length_cons, List.length_nil] at hn2
 subst hn2
 obtain ⟨b1, oo1, d1, rfl, hg1, hb1, hc1⟩ := h1.at (i := 0) (k := 0) rfl (by simp)
 obtain ⟨_, _, _, he, hg1b, _, hc1b⟩ := h1.at (i := 1) (k := 1) rfl (by simp)
 cases he
 rw [hg1] at hg1b
 cases hg1b
 obtain ⟨b2, oo2, d2, rfl, hg2, hb2, hc2⟩ := h2.at (i := 0) (k := 0) rfl (by simp)
 obtain ⟨_, _, _, he, hg2b, _, hc2b⟩ := h2.at (i := 1) (k := 1) rfl (by simp)
 cases he
 rw [hg2] at hg2b
 cases hg2b
 refine yf 3 (hI 153 (by decide) (by decide)) Tryz.func153 rfl fb153 rfl ?_
 refine zf (za rfl (zh (zb (zy (zf (za rfl (zk rfl (za rfl (zZ un215 rfl rfl rfl (za rfl (zk rfl (za rfl (zZ un215 rfl rfl rfl (za rfl (yG rfl rfl (fun h => False.elim (by exact h rfl)) (fun h => ?_))))))))))))))))
 refine zb (zw rfl (zD (zj (zy (zf (za rfl (zk rfl (za rfl (zZ un215 rfl rfl rfl (za rfl (ql (zb (zH (qw ?_))))))))))))))
 refine zf (za rfl (ye rfl rfl (fun h => ?_) (fun h => False.elim (by exact h (by decide)))))
 refine zb (zy (zq rfl (zD (zj (zy (zH (zf (za rfl (ze rfl (za rfl (zA el215 rfl rfl (by omega) (by omega) (za rfl (z7 sh58 rfl (H.old hb1 hg1) hc1 (za rfl (yi H zf58 (by omega) (fun b8 s1 H => ?_))))))))))))))))
 refine za rfl (zl rfl (za rfl (yg (vs := [.bool _, .slice _ _ _, .bool _, .slice _ _ _]) H sz58 rfl rfl rfl rfl rfl (by omega) (fun s2 H => ?_))))
 refine zb (zf (za rfl (zk rfl (za rfl (ze rfl (za rfl (zA el215 rfl rfl (by omega) (by omega) (za rfl (z7 sh58 rfl (H.old hb2 hg2) hc2 (za rfl (yi H zf58 (by omega) (fun b9 s3 H => ?_))))))))))))
 refine za rfl (yg (vs := [.bool _, .slice _ _ _, .bool _, .slice _ _ _]) H sz58 rfl rfl rfl rfl rfl (by omega) (fun s4 H => ?_))
 refine zb (zf (za rfl (xk rfl (za rfl (z7 sh58 rfl H.own1 rfl (za rfl (z7 sh58 rfl H.own0 rfl (za rfl (zx rfl fc154 rfl ?_)))))))))
 obtain ⟨_, s9, hr, rfl, Hc⟩ := equal_ok hI H.fine (hr1.1.1.kept H) (hr1.2.1.kept H) (hq1.1.1.kept H) (hq1.2.1.kept H) hr1.1.2 hr1.2.2 (by have := H.most; omega)
 refine ⟨_, _, hr, ?_⟩
 clear hr
 have H := H.call0 Hc
 clear Hc
 cases hbb1 : ratB r1.n1 (δ r1.s1) (δ r1.s2) q1.n1 (δ q1.s1) (δ q1.s2)
 ·refine za rfl (yz rfl (zb (zq rfl (zf (za rfl (zh (zb (zr (zu (zo (zo (zu (zo ?_)))))))))))))
  refine zm (zN (⟨congrArg Value.bool ?_, (H.sub (List.nil_sublist _)).up (by omega)⟩))
  unfold eqZ
  simp [*]
 refine za rfl (yz rfl (zb (zw rfl (zD (zK (zj (zC (za rfl (zW rfl rfl (by unfold zV; omega) (za rfl (ze rfl (zb (zj (qw ?_))))))))))))))
 refine zf (za rfl (ye rfl rfl (fun h => ?_) (fun h => False.elim (by exact h (by decide)))))
 refine zb (zy (zq rfl (zD (zj (zy (zH (zf (za rfl (ze rfl (za rfl (zA el215 rfl rfl (by omega) (by omega) (za rfl (z7 sh58 rfl (H.old hb1 hg1) hc1b (za rfl (yi H zf58 (by omega) (fun b8 s5 H => ?_))))))))))))))))
 refine za rfl (zl rfl (za rfl (yg (vs := [.bool _, .slice _ _ _, .bool _, .slice _ _ _]) H sz58 rfl rfl rfl rfl rfl (by omega) (fun s6 H => ?_))))
 refine zb (zf (za rfl (zk rfl (za rfl (ze rfl (za rfl (zA el215 rfl rfl (by omega) (by omega) (za rfl (z7 sh58 rfl (H.old hb2 hg2) hc2b (za rfl (yi H zf58 (by omega) (fun b9 s7 H => ?_))))))))))))
 refine za rfl (yg (vs := [.bool _, .slice _ _ _, .bool _, .slice _ _ _]) H sz58 rfl rfl rfl rfl rfl (by omega) (fun s8 H => ?_))
 refine zb (zf (za rfl (xk rfl (za rfl (z7 sh58 rfl H.own1 rfl (za rfl (z7 sh58 rfl H.own0 rfl (za rfl (zx rfl fc154 rfl ?_)))))))))
 obtain ⟨_, s9, hr, rfl, Hc⟩ := equal_ok hI H.fine (hr2.1.1.kept H) (hr2.2.1.kept H) (hq2.1.1.kept H) (hq2.2.1.kept H) hr2.1.2 hr2.2.2 (by have := H.most; omega)
 refine ⟨_, _, hr, ?_⟩
 clear hr
 have H := H.call0 Hc
 clear Hc
 cases hbb2 : ratB r2.n1 (δ r2.s1) (δ r2.s2) q2.n1 (δ q2.s1) (δ q2.s2)
 ·refine za rfl (yz rfl (zb (zq rfl (zf (za rfl (zh (zb (zr (zu (zo (zo (zu (zo ?_)))))))))))))
  refine zm (zN (⟨congrArg Value.bool ?_, (H.sub (List.nil_sublist _)).up (by omega)⟩))
  unfold eqZ
  simp [*]
 refine za rfl (yz rfl (zb (zw rfl (zD (zK (zj (zC (za rfl (zW rfl rfl (by unfold zV; omega) (za rfl (ze rfl (zb (zj (qw ?_))))))))))))))
 refine zf (za rfl (ye rfl rfl (fun h => False.elim (by exact absurd h (by decide))) (fun h => ?_)))
 refine zb (zy (zw rfl (yc (zQ (zQ (zY (zj (zf (za rfl (zh (zb (zr ?_))))))))))))
 refine zm (zN (⟨congrArg Value.bool ?_, (H.sub (List.nil_sublist _)).up (by omega)⟩))
 unfold eqZ
 simp [*]
set_option maxHeartbeats 4000000 in
set_option maxRecDepth 10000 in
theorem same_ok {I : yh} (hI : Plain I) {s : St} (hf : Fine s) {δ : Slc → List Int} {x y : Sp} (hx : DigS s δ x) (hy : DigS s δ y) (hroom : s.next + 12 ≤ zp) :
  ∃ v' s', yJ Tryz.prog I 95 #[.agg ⟨x.cells⟩, .agg ⟨y.cells⟩] s v' s' ∧ (v' = .bool (x6 δ x y) ∧ HL [] s s' [] 12) := by
 have H := hf.hl
 refine yf 2 (hI 95 (by decide) (by decide)) Tryz.func95 rfl fb95 rfl ?_
 refine zf (za rfl (yI H rfl (by omega) (fun b2 s1 H => ?_)))
 refine za rfl (yI H rfl (by omega) (fun b3 s2 H => ?_))
 refine za rfl (zh (zb (zf (za rfl (zg xi rfl (za rfl (zn ys rfl H.own1 rfl (za rfl (zg xi rfl (za rfl (zn ys rfl H.own0 rfl (za rfl (yD rfl rfl (fun h => ?_) (fun h => ?_))))))))))))))
 ·refine za rfl (zi rfl (za rfl (zg y8 rfl (za rfl (zn ys rfl H.own1 rfl (za rfl (zg y8 rfl (za rfl (zn ys rfl H.own0 rfl (za rfl (yD rfl rfl (fun h => ?_) (fun h => ?_))))))))))))
  ·refine za rfl (zM rfl rfl (za rfl (zi rfl (za rfl (zg of62_2 rfl (za rfl (zg of60_0 rfl (za rfl (z7 sh58 rfl H.own1 rfl (za rfl (zg of62_2 rfl (za rfl (zg of60_1 rfl (za rfl (z7 sh58 rfl H.own1 rfl (za rfl (z8 (c := [.bool _, .slice _ _ _, .bool _, .slice _ _ _, .bool _, .slice _ _ _, .bool _, .slice _ _ _]) H sl215 rfl rfl (by omega) (fun b24 s3 H => ?_))))))))))))))))))
   refine za rfl (zg of62_2 rfl (za rfl (zg of60_0 rfl (za rfl (z7 sh58 rfl H.own1 rfl (za rfl (zg of62_2 rfl (za rfl (zg of60_1 rfl (za rfl (z7 sh58 rfl H.own1 rfl (za rfl (z8 (c := [.bool _, .slice _ _ _, .bool _, .slice _ _ _, .bool _, .slice _ _ _, .bool _, .slice _ _ _]) H sl215 rfl rfl (by omega) (fun b31 s4 H => ?_))))))))))))))
   refine za rfl (zx rfl fc153 rfl ?_)
   obtain ⟨_, s9, hr, rfl, Hc⟩ := equalFunc_ok (r1 := x.r1) (r2 := x.r2) (q1 := y.r1) (q2 := y.r2) hI H.fine (sl_two (x := x.r1.cells) (y := x.r2.cells) rfl rfl H.own1 H.lt1 (cap := 2 * 2) (by decide)) (sl_two (x := y.r1.cells) (y := y.r2.cells) rfl rfl H.own0 H.lt0 (cap := 2 * 2) (by decide)) (hx.1.kept H) (hx.2.kept H) (hy.1.kept H) (hy.2.kept H) (by have := H.most; omega)
   refine ⟨_, _, hr, ?_⟩
   clear hr
   have H := H.call0 Hc
   clear Hc
   cases hb : (eqZ δ x.r1 y.r1 && eqZ δ x.r2 y.r2)
   ·refine za rfl (zM rfl rfl (za rfl (zt rfl (zb (zr (zm (zN (⟨congrArg Value.bool ?_, (H.sub (List.nil_sublist _)).up (by omega)⟩))))))))
    unfold x6
    simp [*]
   refine za rfl (zM rfl rfl (za rfl (zt rfl (zb (zr (zm (zN (⟨congrArg Value.bool ?_, (H.sub (List.nil_sublist _)).up (by omega)⟩))))))))
   unfold x6
   simp [*]
  refine za rfl (zM rfl rfl (za rfl (zi rfl (zc rfl (zc rfl (zc rfl (zc rfl (zc rfl (zc rfl (zc rfl (zc rfl (zc rfl (zc rfl ?_)))))))))))))
  refine zc rfl (zc rfl (zc rfl (zc rfl (zc rfl (za rfl (z6 rfl (za rfl (zt rfl (zb (zr (zm (zN (⟨congrArg Value.bool ?_, (H.sub (List.nil_sublist _)).up (by omega)⟩)))))))))))))
  unfold x6
  simp [*]
 refine za rfl (zi rfl (zc rfl (zc rfl (zc rfl (zc rfl (zc rfl (za rfl (z6 rfl (za rfl (zi rfl (zc rfl (zc rfl (zc rfl (zc rfl ?_))))))))))))))
 refine zc rfl (zc rfl (zc rfl (zc rfl (zc rfl (zc rfl (zc rfl (zc rfl (zc rfl (zc rfl (zc rfl (za rfl (z6 rfl ?_))))))))))))
 refine za rfl (zt rfl (zb (zr (zm (zN (⟨congrArg Value.bool ?_, (H.sub (List.nil_sublist _)).up (by omega)⟩))))))
 unfold x6
 simp [*]
set_option maxHeartbeats 4000000 in
set_option maxRecDepth 10000 in
theorem cleanF_ok {I : yh} (hI : Plain I) {s : St} (hf : Fine s) {δ : Slc → List Int} {x : Sp} {l : List Sp} {b9 : Nat} {vl : Value} (hg9 : s.get b9 = some (.cells [vl] 25)) (hb9 : b9 < s.next) (hl : Sl s 62 10 vl (l.map Sp.cells)) (hne : 0 < l.length) (hx : DigS s δ x) (hy : DigS s δ (l.getD 0 default)) (hroom : s.next + 13 ≤ zp) :
  ∃ v' s', yJ Tryz.prog I 94 #[.agg ⟨x.cells⟩, ptr b9] s v' s' ∧ (v' = .bool (x6 δ x (l.getD 0 default)) ∧ HL [] s s' [] 13) := by
 have H := hf.hl
 obtain ⟨a, n, c, rfl, hn⟩ := hl.isSlice
 rw [List.length_map] at hn
 subst hn
 obtain ⟨b1, oo1, d1, rfl, hg1, hb1, hc1⟩ := hl.atS (i := 0) (k := 0) rfl hne
 refine yf 2 (hI 94 (by decide) (by decide)) Tryz.func94 rfl fb94 rfl ?_
 refine zf (za rfl (yI H rfl (by omega) (fun b2 s1 H => ?_)))
 refine za rfl (zh (zb (yn [⟨0, 0, .light, [1, 3]⟩, ⟨1, 0, .light, [0]⟩, ⟨2, 2, .light, [0]⟩, ⟨3, 6, .light, [0]⟩, ⟨4, 15, .whole, []⟩, ⟨5, 31, .light, []⟩] (by kernel_rfl) (by kernel_rfl) (yr rfl rfl sh62 rfl H.own0 (by exact H.lim0 (by omega)) rfl (zG rfl rfl sh25 rfl (by exact H.old hb9 hg9) (by (have hmo := H.most; have hle := H.le; omega)) rfl (zd rfl rfl (zA x9 rfl rfl (by omega) (by omega) ⟨rfl, (yr rfl rfl sh62 rfl (H.old hb1 hg1) (by have hmo := H.most; have hle := H.le; omega) hc1 (zX rfl rfl (zx rfl fc95 rfl ?_)))⟩)))))))
 obtain ⟨_, s9, hr, rfl, Hc⟩ := same_ok hI H.fine (hx.kept H) (hy.kept H) (by have hmo := H.most; (try simp only at hmo); show _ + _ ≤ _; (try simp only); omega)
 refine ⟨_, _, hr, ?_⟩
 clear hr
 have H := H.call0 (HL.wider H.fine (Nat.le_refl _) (fun _ h => h) Hc)
 clear Hc
 refine zd rfl rfl (zt rfl ⟨rfl, (zR (zr (zm (zN ?_))))⟩)
 exact ⟨rfl, (H.sub (List.nil_sublist _)).up (by omega)⟩
end Go.Proofs.YtdejleegamcioaaGreat
namespace Go.Proofs.YtdejleegamcioaaGreat
open Go Go.M
theorem bne_false {a b : Bool} (h : (!(a == b)) = false) : (a == b) = true := by cases a <;> cases b <;> simp_all
theorem bne_true {a b : Bool} (h : (!(a == b)) = true) : (a == b) = false := by cases a <;> cases b <;> simp_all
set_option maxHeartbeats 4000000 in
set_option maxRecDepth 10000 in
theorem same03G {I : yh} (hI : Plain I) {s : St} (hf : Fine s) {n m : Bool} {v1 v2 : Value} {l1 l2 : List Int} (h1 : SlD s v1 l1) (h2 : SlD s v2 l2) (hlen : l1.length ≤ 1000000) (hroom : s.next + 2 ≤ zp) :
  ∃ v' s', yJ Tryz.prog I 151 #[.agg ⟨[.bool n, v1]⟩, .agg ⟨[.bool m, v2]⟩] s v' s' ∧ (v' = .bool ((n == m) && decide (l1 = l2)) ∧ HL [] s s' [] 2) := by
 have H := hf.hl
 obtain ⟨a1, n1, c1, rfl, hn1⟩ := h1.isSlice
 rw [List.length_map] at hn1
 subst hn1
 obtain ⟨a2, n2, c2, rfl, hn2⟩ := h2.isSlice
 rw [List.length_map] at hn2
 subst hn2
 refine yf 2 (hI 151 (by decide) (by decide)) Tryz.func151 rfl fb151 rfl ?_
 refine zf (za rfl (yI H rfl (by omega) (fun b2 s1 H => ?_)))
 refine za rfl (yI H rfl (by omega) (fun b3 s2 H => ?_))
 refine za rfl (zh (zb (zy (zf (za rfl (zg of56_0 rfl (za rfl (zn sh4 rfl H.own1 rfl (za rfl (zg of56_0 rfl (za rfl (zn sh4 rfl H.own0 rfl (za rfl (op_neqb un4 rfl rfl ?_))))))))))))))
 cases hb1 : (!(n == m))
 ·refine za rfl (zi rfl (za rfl (zg yO rfl (za rfl (zn yS rfl H.own1 rfl (za rfl (zZ xt rfl rfl rfl (za rfl (zg yO rfl (za rfl (zn yS rfl H.own0 rfl (za rfl (zZ xt rfl rfl rfl (za rfl (yG rfl rfl (fun h => ?_) (fun h => ?_))))))))))))))))
  ·refine za rfl (zv rfl rfl (zb (zq rfl (zf (za rfl (zh (zb (zr (zo (zm (zN (⟨congrArg Value.bool ?_, H.sub (List.nil_sublist _)⟩))))))))))))
   first
    | (rw [bne_true hb1]; rfl)
    | (symm; rw [Bool.and_eq_false_iff]; right; rw [decide_eq_false_iff_not]; intro he; apply h; rw [he])
  refine za rfl (zv rfl rfl (zb (zw rfl (zD (zj (zy (zf (za rfl (zh (zb (zH (yu (fun k F s1 => ∃ (G : FF) (i : Nat), F = lay G [(2, ptr b2), (3, ptr b3), (5, .int .i64 (i : Int))] ∧ HL [] s s1 [(b3, .cells [.bool m, .slice a2 l2.length c2] 56), (b2, .cells [.bool n, .slice a1 l1.length c1] 56)] 2 ∧ i ≤ l1.length ∧ k = l1.length - i ∧ l1.take i = l2.take i) ?_ l1.length _ _ ?_))))))))))))
  rotate_left
  ·exact ⟨_, 0, yb ⟨rfl, rfl, rfl, trivial⟩, H, by omega, by omega, by simp⟩
  rintro k F s1 ⟨G, i, rfl, H, hi, rfl, hte⟩
  refine zy (zf (za rfl (ze rfl (za rfl (zg yO rfl (za rfl (zn yS rfl H.own1 rfl (za rfl (zZ xt rfl rfl rfl (za rfl (ye rfl rfl (fun h => ?_) (fun h => ?_))))))))))))
  ·refine zb (zq rfl (zD (zj (zy (zH (yn [⟨0, 0, .light, [6, 9]⟩, ⟨1, 1, .light, [6, 9]⟩, ⟨2, 0, .light, [1, 6, 9]⟩, ⟨3, 7, .light, [6, 9]⟩, ⟨4, 15, .light, [6, 9]⟩, ⟨5, 0, .light, [1, 4]⟩, ⟨6, 32, .light, [1, 4]⟩, ⟨7, 0, .light, [1, 4, 6]⟩, ⟨8, 224, .light, [1, 4]⟩, ⟨9, 480, .light, [1, 4]⟩, ⟨10, 1023, .light, []⟩] (by kernel_rfl) (by kernel_rfl) ?_))))))
   obtain ⟨e1, oo1, d1, rfl, hg1, hb1x, hc1⟩ := (h1.kept H).atD (i := (i : Int)) (k := i) rfl (by omega)
   have hl1 : e1 < zp := Nat.lt_of_lt_of_le hb1x (by have hmo := H.most; (try simp only at hmo); omega)
   obtain ⟨e2, oo2, d2, rfl, hg2, hb2x, hc2⟩ := (h2.kept H).atD (i := (i : Int)) (k := i) rfl (by omega)
   have hl2 : e2 < zp := Nat.lt_of_lt_of_le hb2x (by have hmo := H.most; (try simp only at hmo); omega)
   refine zd rfl rfl (zg yO rfl ⟨rfl, (zG rfl rfl yS rfl H.own1 (by exact H.lim1 (by omega)) rfl (zd rfl rfl (ze rfl ⟨rfl, (zd rfl rfl (zA xP rfl rfl (by omega) (by omega) ⟨rfl, (zG rfl rfl sh3 rfl hg1 hl1 hc1 (zd rfl rfl (zg yO rfl ⟨rfl, (zG rfl rfl yS rfl H.own0 (by exact H.lim0 (by omega)) rfl (zd rfl rfl (ze rfl ⟨rfl, (zd rfl rfl (zA xP rfl rfl (by omega) (by omega) ⟨rfl, (zG rfl rfl sh3 rfl hg2 hl2 hc2 (zd rfl rfl (yG rfl rfl (fun h => ⟨rfl, ?_⟩) (fun h => ⟨rfl, ?_⟩))))⟩))⟩)))⟩)))⟩))⟩)))⟩)
   ·refine zR (zq rfl (zf (za rfl (zh (zb (zr (zu (zo (zL (zu (zo (zm ?_))))))))))))
    refine zN (⟨congrArg Value.bool ?_, H.sub (List.nil_sublist _)⟩)
    symm
    rw [Bool.and_eq_false_iff]
    right
    rw [decide_eq_false_iff_not]
    exact list_diff h
   refine zR (zw rfl (zD (zK (zj (zC (za rfl (ze rfl (za rfl (zW rfl rfl (by unfold zV; omega) (za rfl (zl rfl (zb (zI ?_)))))))))))))
   exact ⟨l1.length - (i + 1), by omega, _, i + 1, yb ⟨rfl, rfl, rfl, trivial⟩, H, by omega, rfl, list_step (by omega) (by omega) hte (by omega)⟩
  refine zb (zw rfl (yc (zQ (ya (zY (zj (zf (za rfl (zh (zb (zr (zm ?_))))))))))))
  refine zN (⟨congrArg Value.bool ?_, H.sub (List.nil_sublist _)⟩)
  rw [List.take_of_length_le (by omega), List.take_of_length_le (by omega)] at hte
  rw [bne_false hb1, decide_eq_true hte]
  rfl
 refine za rfl (zi rfl (zc rfl (zc rfl (zc rfl (zc rfl (zc rfl (zc rfl (zc rfl (za rfl (zB rfl (zb (zq rfl (zf ?_)))))))))))))
 refine za rfl (zh (zb (zr (zo (zm (zN (⟨congrArg Value.bool ?_, H.sub (List.nil_sublist _)⟩)))))))
 first
  | (rw [bne_true hb1]; rfl)
  | (symm; rw [Bool.and_eq_false_iff]; right; rw [decide_eq_false_iff_not]; intro he; apply h; rw [he])
set_option maxHeartbeats 4000000 in
set_option maxRecDepth 10000 in
theorem same04G {I : yh} (hI : Plain I) {s : St} (hf : Fine s) {n1 n2 m1 m2 : Bool} {a1 a2 e1 e2 : Option Addr} {k1 k2 j1 j2 c1 c2 d1 d2 : Nat} {l1 l2 q1 q2 : List Int} (h1 : SlD s (.slice a1 k1 c1) l1) (h2 : SlD s (.slice a2 k2 c2) l2) (g1 : SlD s (.slice e1 j1 d1) q1) (g2 : SlD s (.slice e2 j2 d2) q2) (hl1 : l1.length ≤ 3) (hl2 : l2.length ≤ 3) (hroom : s.next + 6 ≤ zp) :
  ∃ v' s', yJ Tryz.prog I 89 #[.agg ⟨[.bool n1, .slice a1 k1 c1, .bool n2, .slice a2 k2 c2]⟩, .agg ⟨[.bool m1, .slice e1 j1 d1, .bool m2, .slice e2 j2 d2]⟩] s v' s' ∧ (v' = .bool (((n1 == m1) && decide (l1 = q1)) && ((n2 == m2) && decide (l2 = q2))) ∧ HL [] s s' [] 6) := by
 have H := hf.hl
 refine yf 2 (hI 89 (by decide) (by decide)) Tryz.func89 rfl fb89 rfl ?_
 refine zf (za rfl (yI H rfl (by omega) (fun b2 s1 H => ?_)))
 refine za rfl (yI H rfl (by omega) (fun b3 s2 H => ?_))
 refine za rfl (zh (zb (zf (za rfl (zg of58_0 rfl (za rfl (z7 qy rfl H.own1 rfl (za rfl (zg of58_0 rfl (za rfl (z7 qy rfl H.own0 rfl (za rfl (zx rfl fc151 rfl ?_)))))))))))))
 obtain ⟨_, s9, hr, rfl, Hc⟩ := same03G (n := n1) (m := m1) hI H.fine (h1.kept H) (g1.kept H) (by omega) (by have := H.most; omega)
 refine ⟨_, _, hr, ?_⟩
 clear hr
 have H := H.call0 Hc
 clear Hc
 cases hb1 : ((n1 == m1) && decide (l1 = q1))
 ·refine za rfl (zi rfl (zc rfl (zc rfl (zc rfl (zc rfl (zc rfl (za rfl (z6 rfl (za rfl (zt rfl (zb (zr (zm (zN ?_))))))))))))))
  exact ⟨rfl, (H.sub (List.nil_sublist _)).up (by omega)⟩
 refine za rfl (zi rfl (za rfl (zg of58_1 rfl (za rfl (z7 qy rfl H.own1 rfl (za rfl (zg of58_1 rfl (za rfl (z7 qy rfl H.own0 rfl (za rfl (zx rfl fc151 rfl ?_)))))))))))
 obtain ⟨_, s9, hr, rfl, Hc⟩ := same03G (n := n2) (m := m2) hI H.fine (h2.kept H) (g2.kept H) (by omega) (by have := H.most; omega)
 refine ⟨_, _, hr, ?_⟩
 clear hr
 have H := H.call0 Hc
 clear Hc
 cases hb2 : ((n2 == m2) && decide (l2 = q2))
 ·refine za rfl (zM rfl rfl (za rfl (zt rfl (zb (zr (zm (zN ?_)))))))
  exact ⟨rfl, (H.sub (List.nil_sublist _)).up (by omega)⟩
 refine za rfl (zM rfl rfl (za rfl (zt rfl (zb (zr (zm (zN ?_)))))))
 exact ⟨rfl, (H.sub (List.nil_sublist _)).up (by omega)⟩
set_option maxHeartbeats 4000000 in
set_option maxRecDepth 10000 in
theorem same27G {I : yh} (hI : Plain I) {s : St} (hf : Fine s) {δ : Slc → List Int} {x y : Sp} (hx : DigS s δ x) (hy : DigS s δ y) (hxn : x.n2 = false ∧ x.n4 = false) (hyn : y.n2 = false ∧ y.n4 = false) (hroom : s.next + 14 ≤ zp) :
  ∃ v' s', yJ Tryz.prog I 48 #[.agg ⟨x.cells⟩, .agg ⟨y.cells⟩] s v' s' ∧ (v' = .bool (x6 δ x y) ∧ HL [] s s' [] 14) := by
 have H := hf.hl
 refine yf 2 (hI 48 (by decide) (by decide)) Tryz.func48 rfl fb48 rfl ?_
 refine zf (za rfl (yI H rfl (by omega) (fun b2 s1 H => ?_)))
 refine za rfl (yI H rfl (by omega) (fun b3 s2 H => ?_))
 refine za rfl (zh (zb (zf (za rfl (zg xi rfl (za rfl (zn ys rfl H.own1 rfl (za rfl (zg xi rfl (za rfl (zn ys rfl H.own0 rfl (za rfl (yD rfl rfl (fun h => ?_) (fun h => ?_))))))))))))))
 ·refine za rfl (zi rfl (za rfl (zg y8 rfl (za rfl (zn ys rfl H.own1 rfl (za rfl (zg y8 rfl (za rfl (zn ys rfl H.own0 rfl (za rfl (yD rfl rfl (fun h => ?_) (fun h => ?_))))))))))))
  ·refine za rfl (zM rfl rfl (za rfl (zi rfl (za rfl (zg of62_2 rfl (za rfl (zg of60_0 rfl (za rfl (z7 sh58 rfl H.own1 rfl (za rfl (zg of62_2 rfl (za rfl (zg of60_0 rfl (za rfl (z7 sh58 rfl H.own0 rfl (za rfl (zx rfl fc89 rfl ?_)))))))))))))))))
   obtain ⟨_, s9, hr, rfl, Hc⟩ := same04G (n1 := x.r1.n1) (n2 := x.r1.n2) (m1 := y.r1.n1) (m2 := y.r1.n2) hI H.fine (hx.1.1.1.kept H) (hx.1.2.1.kept H) (hy.1.1.1.kept H) (hy.1.2.1.kept H) hx.1.1.2 hx.1.2.2 (by have := H.most; omega)
   refine ⟨_, _, hr, ?_⟩
   clear hr
   have H := H.call0 Hc
   clear Hc
   rw [show (((x.r1.n1 == y.r1.n1) && decide (δ x.r1.s1 = δ y.r1.s1)) && ((x.r1.n2 == y.r1.n2) && decide (δ x.r1.s2 = δ y.r1.s2))) = eqZ δ x.r1 y.r1 by unfold eqZ ratB; rw [show x.r1.n2 = false from hxn.1, show y.r1.n2 = false from hyn.1, Bool.and_assoc]; rfl]
   cases hbb1 : eqZ δ x.r1 y.r1
   ·refine za rfl (zM rfl rfl (za rfl (zi rfl (zc rfl (zc rfl (zc rfl (zc rfl (zc rfl (zc rfl (zc rfl (za rfl (z6 rfl (za rfl (zt rfl (zb ?_)))))))))))))))
    refine zr (zm (zN (⟨congrArg Value.bool ?_, (H.sub (List.nil_sublist _)).up (by omega)⟩)))
    unfold x6
    simp [*]
   refine za rfl (zM rfl rfl (za rfl (zi rfl (za rfl (zg of62_2 rfl (za rfl (zg of60_1 rfl (za rfl (z7 sh58 rfl H.own1 rfl (za rfl (zg of62_2 rfl (za rfl (zg of60_1 rfl (za rfl (z7 sh58 rfl H.own0 rfl (za rfl (zx rfl fc89 rfl ?_)))))))))))))))))
   obtain ⟨_, s9, hr, rfl, Hc⟩ := same04G (n1 := x.r2.n1) (n2 := x.r2.n2) (m1 := y.r2.n1) (m2 := y.r2.n2) hI H.fine (hx.2.1.1.kept H) (hx.2.2.1.kept H) (hy.2.1.1.kept H) (hy.2.2.1.kept H) hx.2.1.2 hx.2.2.2 (by have := H.most; omega)
   refine ⟨_, _, hr, ?_⟩
   clear hr
   have H := H.call0 Hc
   clear Hc
   rw [show (((x.r2.n1 == y.r2.n1) && decide (δ x.r2.s1 = δ y.r2.s1)) && ((x.r2.n2 == y.r2.n2) && decide (δ x.r2.s2 = δ y.r2.s2))) = eqZ δ x.r2 y.r2 by unfold eqZ ratB; rw [show x.r2.n2 = false from hxn.2, show y.r2.n2 = false from hyn.2, Bool.and_assoc]; rfl]
   cases hbb2 : eqZ δ x.r2 y.r2
   ·refine za rfl (zM rfl rfl (za rfl (zt rfl (zb (zr (zm (zN (⟨congrArg Value.bool ?_, (H.sub (List.nil_sublist _)).up (by omega)⟩))))))))
    unfold x6
    simp [*]
   refine za rfl (zM rfl rfl (za rfl (zt rfl (zb (zr (zm (zN (⟨congrArg Value.bool ?_, (H.sub (List.nil_sublist _)).up (by omega)⟩))))))))
   unfold x6
   simp [*]
  refine za rfl (zM rfl rfl (za rfl (zi rfl (zc rfl (zc rfl (zc rfl (zc rfl (zc rfl (zc rfl (zc rfl (za rfl (z6 rfl (za rfl (zi rfl (zc rfl ?_)))))))))))))))
  refine zc rfl (zc rfl (zc rfl (zc rfl (zc rfl (zc rfl (za rfl (z6 rfl (za rfl (zt rfl (zb (zr (zm (zN ?_)))))))))))))
  refine ⟨congrArg Value.bool ?_, (H.sub (List.nil_sublist _)).up (by omega)⟩
  unfold x6
  simp [*]
 refine za rfl (zi rfl (zc rfl (zc rfl (zc rfl (zc rfl (zc rfl (za rfl (z6 rfl (za rfl (zi rfl (zc rfl (zc rfl (zc rfl (zc rfl ?_))))))))))))))
 refine zc rfl (zc rfl (zc rfl (za rfl (z6 rfl (za rfl (zi rfl (zc rfl (zc rfl (zc rfl (zc rfl (zc rfl (zc rfl (zc rfl ?_)))))))))))))
 refine za rfl (z6 rfl (za rfl (zt rfl (zb (zr (zm (zN (⟨congrArg Value.bool ?_, (H.sub (List.nil_sublist _)).up (by omega)⟩))))))))
 unfold x6
 simp [*]
end Go.Proofs.YtdejleegamcioaaGreat
namespace Go.Proofs.YtdejleegamcioaaGreat
open Go Go.M
theorem fb58 : yx Tryz.f58 (Tryz.f58.body.getD .skip) 6 = true := by kernel_rfl
theorem fc58 : yp Tryz.prog 58 = true := by kernel_rfl
section
variable (δ : Slc → List Int) (js : List (Int × Int)) (bad : Int) (may : List Sp)
def yP : Nat → Int → List Sp → Option (List Sp)
 | 0, _, _ => none
 | f + 1, S, l => if yj S bad 0 js = true then (match l with
   | [] => none
   | x :: r => if x.w = S ∧ may.any (fun m => x6 δ m x) = true then (match yP f x.p r with
     | some r' => yP f (zJ S x.p) r'
     | none => none) else none) else some l
def usedZ (f : Nat) (S : Int) (l : List Sp) (at_ : Nat) : Int := match yP δ js bad may f S (l.drop at_) with
 | some r => (l.length : Int) - r.length
 | none => -1
variable {δ js bad may}
theorem cleanZ_no {f : Nat} {S : Int} {l : List Sp} (h : yj S bad 0 js = false) : yP δ js bad may (f + 1) S l = some l := by
 cases l <;> simp [yP, h]
theorem cleanZ_nil {f : Nat} {S : Int} (h : yj S bad 0 js = true) : yP δ js bad may (f + 1) S [] = none := by
 simp [yP, h]
theorem y7 {f : Nat} {S : Int} {x : Sp} {r : List Sp} (h : yj S bad 0 js = true) : yP δ js bad may (f + 1) S (x :: r) = if x.w = S ∧ may.any (fun m => x6 δ m x) = true then (match yP δ js bad may f x.p r with
  | some r' => yP δ js bad may f (zJ S x.p) r'
  | none => none) else none := by
 simp only [yP, h, if_true]
theorem cleanZ_drop : ∀ (f : Nat) (S : Int) (l r : List Sp), yP δ js bad may f S l = some r → ∃ k, k ≤ l.length ∧ r = l.drop k
 | 0, _, _, _, h => by simp [yP] at h
 | f + 1, S, l, r, h => by
  cases hn : yj S bad 0 js with
  | false =>
   rw [cleanZ_no hn] at h
   cases h
   exact ⟨0, by omega, rfl⟩
  | true =>
   cases l with
   | nil => rw [cleanZ_nil hn] at h; cases h
   | cons x l =>
    rw [y7 hn] at h
    split at h
    ·cases hc : yP δ js bad may f x.p l with
     | none => rw [hc] at h; cases h
     | some r' =>
      rw [hc] at h
      obtain ⟨k, hk, rfl⟩ := cleanZ_drop f x.p l r' hc
      obtain ⟨k2, hk2, rfl⟩ := cleanZ_drop f _ _ r h
      refine ⟨k + k2 + 1, ?_, ?_⟩
      ·simp only [List.length_drop, List.length_cons] at hk2 ⊢; omega
      ·rw [List.drop_succ_cons, List.drop_drop]
    ·cases h
theorem usedZ_some {f : Nat} {S : Int} {l : List Sp} {a : Nat} (ha : a ≤ l.length) (h : 0 ≤ usedZ δ js bad may f S l a) : ∃ b, a ≤ b ∧ b ≤ l.length ∧ usedZ δ js bad may f S l a = (b : Int) ∧ yP δ js bad may f S (l.drop a) = some (l.drop b) := by
 unfold usedZ at h ⊢
 cases hc : yP δ js bad may f S (l.drop a) with
 | none => rw [hc] at h; simp at h
 | some r =>
  obtain ⟨k, hk, rfl⟩ := cleanZ_drop f S _ r hc
  rw [List.length_drop] at hk
  refine ⟨a + k, by omega, by omega, ?_, by rw [List.drop_drop]⟩
  simp only [List.length_drop]
  omega
theorem usedZ_none {f : Nat} {S : Int} {l : List Sp} {a : Nat} (h : ¬ 0 ≤ usedZ δ js bad may f S l a) : yP δ js bad may f S (l.drop a) = none := by
 unfold usedZ at h
 cases hc : yP δ js bad may f S (l.drop a) with
 | none => rfl
 | some r =>
  rw [hc] at h
  obtain ⟨k, hk, rfl⟩ := cleanZ_drop f S _ r hc
  simp only [List.length_drop] at h hk
  omega
theorem same_split (hm : yZ may) {x : Sp} (h : may.any (fun m => x6 δ m x) = true) : y1 x.w x.p = true ∧ x.p < 9223372036854775808 := by
 obtain ⟨m, hmm, hs⟩ := List.any_eq_true.mp h
 simp only [x6, Bool.and_eq_true, decide_eq_true_eq] at hs
 obtain ⟨a, b⟩ := hm m hmm
 rw [hs.1, hs.2.1] at a
 rw [hs.2.1] at b
 exact ⟨a, b⟩
end
def tc : Nat → Nat
 | 0 => 300
 | n + 1 => 300 + 2 * tc n
theorem tc_mono : ∀ {a b : Nat}, a ≤ b → tc a ≤ tc b
 | 0, 0, _ => Nat.le_refl _
 | 0, b + 1, _ => by simp only [tc]; omega
 | a + 1, 0, h => by omega
 | a + 1, b + 1, h => by have := tc_mono (a := a) (b := b) (by omega); simp only [tc]; omega
theorem any_take {l : List Sp} {p : Sp → Bool} {k : Nat} (h : k < l.length) : (l.take (k + 1)).any p = ((l.take k).any p || p (l.getD k default)) := by
 rw [List.take_succ_eq_append_getElem h, List.any_append]
 simp [List.getD_eq_getElem?_getD, List.getElem?_eq_getElem h]
structure UsSt (s : St) (δ : Slc → List Int) (vj vm vl : Value) (js : List (Int × Int)) (may l : List Sp) : Prop where
 sJ : Sl s 30 2 vj (js.map jc)
 sM : Sl s 62 10 vm (may.map Sp.cells)
 sL : Sl s 62 10 vl (l.map Sp.cells)
 dM : ∀ x ∈ may, DigS s δ x ∧ x.n2 = false ∧ x.n4 = false
 dL : ∀ x ∈ l, DigS s δ x ∧ x.n2 = false ∧ x.n4 = false
theorem UsSt.kept {s s' : St} {δ : Slc → List Int} {vj vm vl : Value} {js : List (Int × Int)} {may l : List Sp} {L : Hp'} {n : Nat} (h : UsSt s δ vj vm vl js may l) (H : HL [] s s' L n) : UsSt s' δ vj vm vl js may l :=
 ⟨h.sJ.kept H, h.sM.kept H, h.sL.kept H, fun x hx => ⟨(h.dM x hx).1.kept H, (h.dM x hx).2⟩, fun x hx => ⟨(h.dL x hx).1.kept H, (h.dL x hx).2⟩⟩
def UsC (I : yh) (δ : Slc → List Int) (js : List (Int × Int)) (bad : Int) (may l : List Sp) (ja ma la : Option Addr) (jcp mcp lcp : Nat) (f : Nat) : Prop :=
 ∀ (S : Int), 0 < S → S.toNat < f → ∀ (a : Nat), a ≤ l.length → ∀ (s : St), Fine s → UsSt s δ (.slice ja js.length jcp) (.slice ma may.length mcp) (.slice la l.length lcp) js may l → s.next + tc (l.length - a) ≤ zp →
  ∃ v' s', yJ Tryz.prog I 58 #[.int .i64 S, .slice ja js.length jcp, .int .i64 bad, .slice ma may.length mcp, .slice la l.length lcp, .int .i64 (a : Int)] s v' s' ∧ (v' = .int .i64 (usedZ δ js bad may f S l a) ∧ HL [] s s' [] (tc (l.length - a)))
set_option maxHeartbeats 4000000 in
set_option maxRecDepth 10000 in
theorem used_step {I : yh} (hI : Plain I) {δ : Slc → List Int} {js : List (Int × Int)} {bad : Int} {may l : List Sp} (hj : ∀ j ∈ js, kf j) (hjl : js.length ≤ 16) (hm : yZ may) (hml : may.length ≤ 15) (hll : l.length ≤ 1000) {ja ma la : Option Addr} {jcp mcp lcp : Nat} {f : Nat} (ih : UsC I δ js bad may l ja ma la jcp mcp lcp f) : UsC I δ js bad may l ja ma la jcp mcp lcp (f + 1) := by
 intro S hS hSf a ha s hf hu hroom
 have H := hf.hl
 have hT : 300 ≤ tc (l.length - a) := tc_mono (a := 0) (by omega)
 refine yf 6 (hI 58 (by decide) (by decide)) Tryz.func58 rfl fb58 rfl ?_
 refine zf (za rfl (zh (zb (zy (zf (za rfl (ze rfl (za rfl (zk rfl (za rfl (ze rfl (za rfl (zx rfl fc55 rfl ?_)))))))))))))
 obtain ⟨_, s9, hr, rfl, hs9⟩ := needsR_ok (x := S) (bad := bad) hI hu.sJ hj hjl
 rw [hs9] at hr
 refine ⟨_, _, hr, ?_⟩
 clear hr
 cases hnd : yj S bad 0 js
 ·refine za rfl (yz rfl (zb (zq rfl (zf (za rfl (ze rfl (za rfl (zl rfl (zb (zr (zo (zm (zN (⟨congrArg (Value.int .i64) ?_, H.up (by have := hT; omega)⟩))))))))))))))
  unfold usedZ
  rw [cleanZ_no hnd]
  simp only [List.length_drop]
  omega
 refine za rfl (yz rfl (zb (zw rfl (zD (zj (zy (zf (za rfl (ze rfl (za rfl (zk rfl (za rfl (zZ xM rfl rfl rfl (za rfl (qN rfl rfl (fun h => ?_) (fun h => ?_))))))))))))))))
 ·refine zb (zq rfl (zf (za rfl (zh (zb (zr (zo (zm (zN (⟨congrArg (Value.int .i64) ?_, H.up (by have := hT; omega)⟩))))))))))
  have hz : yP δ js bad may (f + 1) S (l.drop a) = none := by
   rw [List.drop_eq_nil_of_le (by omega), cleanZ_nil hnd]
  unfold usedZ
  rw [hz]
 refine zb (zw rfl (zD (zj ?_)))
 have hdr : l.drop a = (l.getD a default) :: l.drop (a + 1) := yw default (by omega)
 obtain ⟨n1, hn1⟩ : ∃ n1, l.length - a = n1 + 1 := ⟨l.length - a - 1, by omega⟩
 have hT1 : tc (l.length - a) = 300 + 2 * tc (l.length - (a + 1)) := by rw [hn1, show l.length - (a + 1) = n1 by omega]; rfl
 refine zf (za rfl (zh (zb (zy (zf (za rfl (zh (zb (zH (yu (fun k F s1 => ∃ (G : FF) (q : Nat) (fd : Bool), F = lay G [(0, .int .i64 S), (1, .slice ja js.length jcp), (2, .int .i64 bad), (3, .slice ma may.length mcp), (4, .slice la l.length lcp), (5, .int .i64 (a : Int)), (13, .bool fd), (14, .int .i64 (q : Int))] ∧ HL [] s s1 [] (14 * q) ∧ fd = (may.take q).any (fun m => x6 δ m (l.getD a default)) ∧ q ≤ may.length ∧ k = may.length - q) ?_ may.length _ _ ?_))))))))))
 rotate_left
 ·exact ⟨_, 0, false, yb ⟨rfl, rfl, rfl, rfl, rfl, rfl, rfl, rfl, trivial⟩, H, by simp, by omega, by omega⟩
 rintro k F s1 ⟨G, q, fd, rfl, H, hfd, hq, rfl⟩
 refine zy (zf (za rfl (ze rfl (za rfl (zk rfl (za rfl (zZ xM rfl rfl rfl (za rfl (ye rfl rfl (fun h => ?_) (fun h => ?_))))))))))
 ·refine zb (zq rfl (zD (zj (zy (zH ?_)))))
  cases fd
  ·refine cw_draw [⟨0, 0, .light, []⟩, ⟨1, 1, .light, []⟩, ⟨2, 3, .light, [9]⟩, ⟨3, 3, .light, [9]⟩, ⟨4, 15, .light, [9]⟩, ⟨5, 31, .light, [9]⟩, ⟨6, 3, .light, [5]⟩, ⟨7, 3, .light, [5]⟩, ⟨8, 195, .light, [5]⟩, ⟨9, 451, .light, [5]⟩, ⟨10, 1023, .whole, []⟩, ⟨11, 2047, .light, []⟩, ⟨12, 4095, .light, []⟩] (by kernel_rfl) (by kernel_rfl) ?_
   obtain ⟨em, oom, dm, hem, hgm, hbm, hcm⟩ := (hu.sM.kept H).atS (i := (q : Int)) (k := q) rfl (by omega)
   cases hem
   have hlm : em < zp := Nat.lt_of_lt_of_le hbm (by have hmo := H.most; (try simp only at hmo); omega)
   obtain ⟨el, ool, dl, hel, hgl, hbl, hcl⟩ := (hu.sL.kept H).atS (i := (a : Int)) (k := a) rfl (by omega)
   cases hel
   obtain ⟨cl2, hgl2, hlw, hlp⟩ := (hu.sL.kept H).gotS (k := a) (by omega)
   have hll : el < zp := Nat.lt_of_lt_of_le hbl (by have hmo := H.most; (try simp only at hmo); omega)
   refine zd rfl rfl (zi rfl ⟨rfl, (zd rfl rfl (zi rfl ⟨rfl, (zd rfl rfl (zk rfl ⟨rfl, (zd rfl rfl (ze rfl ⟨rfl, (zd rfl rfl (zA x9 rfl rfl (by omega) (by omega) ⟨rfl, (yr rfl rfl sh62 rfl hgm hlm hcm (zd rfl rfl (zk rfl ⟨rfl, (zd rfl rfl (ze rfl ⟨rfl, (zd rfl rfl (zA x9 rfl rfl (by omega) (by omega) ⟨rfl, (yr rfl rfl sh62 rfl hgl hll hcl (zX rfl rfl (zx rfl fc48 rfl ?_)))⟩))⟩))⟩)))⟩))⟩))⟩))⟩))⟩)
   obtain ⟨_, s9, hr, rfl, Hc⟩ := same27G (x := may.getD q default) (y := (l.getD a default)) hI H.fine ((hu.dM _ (zP (by omega))).1.kept H) ((hu.dL _ (zP (by omega))).1.kept H) (hu.dM _ (zP (by omega))).2 (hu.dL _ (zP (by omega))).2 (by have hmo := H.most; (try simp only at hmo); show _ + _ ≤ _; (try simp only); omega)
   refine ⟨_, _, hr, ?_⟩
   clear hr
   have H := H.call0 (HL.wider H.fine (Nat.le_refl _) (fun _ h => h) Hc)
   clear Hc
   cases hb : x6 δ (may.getD q default) (l.getD a default)
   ·refine zd rfl rfl (zv rfl rfl ⟨rfl, (zd rfl rfl (zt rfl ⟨rfl, (zR (zK (zj (zC (za rfl (ze rfl (za rfl (zW rfl rfl (by unfold zV; omega) (za rfl (zl rfl (zb (zI (⟨may.length - (q + 1), by omega, _, q + 1, false, yb ⟨rfl, rfl, rfl, rfl, rfl, rfl, rfl, rfl, trivial⟩, H.up (by omega), ?_, by omega, rfl⟩)))))))))))))⟩))⟩)
    rw [any_take (show q < may.length by omega), ← hfd]
    (rw [hb]; rfl)
   refine zd rfl rfl (zv rfl rfl ⟨rfl, (zd rfl rfl (zt rfl ⟨rfl, (zR (zK (zj (zC (za rfl (ze rfl (za rfl (zW rfl rfl (by unfold zV; omega) (za rfl (zl rfl (zb (zI (⟨may.length - (q + 1), by omega, _, q + 1, true, yb ⟨rfl, rfl, rfl, rfl, rfl, rfl, rfl, rfl, trivial⟩, H.up (by omega), ?_, by omega, rfl⟩)))))))))))))⟩))⟩)
   rw [any_take (show q < may.length by omega), ← hfd]
   (rw [hb]; rfl)
  refine cw_draw [⟨0, 0, .light, []⟩, ⟨1, 1, .light, []⟩, ⟨2, 3, .light, [9]⟩, ⟨3, 3, .light, [9]⟩, ⟨4, 15, .light, [9]⟩, ⟨5, 31, .light, [9]⟩, ⟨6, 3, .light, [5]⟩, ⟨7, 3, .light, [5]⟩, ⟨8, 195, .light, [5]⟩, ⟨9, 451, .light, [5]⟩, ⟨10, 1023, .whole, []⟩, ⟨11, 2047, .light, []⟩, ⟨12, 4095, .light, []⟩] (by kernel_rfl) (by kernel_rfl) ?_
  obtain ⟨em, oom, dm, hem, hgm, hbm, hcm⟩ := (hu.sM.kept H).atS (i := (q : Int)) (k := q) rfl (by omega)
  cases hem
  have hlm : em < zp := Nat.lt_of_lt_of_le hbm (by have hmo := H.most; (try simp only at hmo); omega)
  obtain ⟨el, ool, dl, hel, hgl, hbl, hcl⟩ := (hu.sL.kept H).atS (i := (a : Int)) (k := a) rfl (by omega)
  cases hel
  obtain ⟨cl2, hgl2, hlw, hlp⟩ := (hu.sL.kept H).gotS (k := a) (by omega)
  have hll : el < zp := Nat.lt_of_lt_of_le hbl (by have hmo := H.most; (try simp only at hmo); omega)
  refine zd rfl rfl (zi rfl ⟨rfl, (zd rfl rfl (zi rfl ⟨rfl, (zE rfl rfl (zE rfl rfl (zE rfl rfl (zE rfl rfl (zE rfl rfl (zE rfl rfl (zE rfl rfl (zE rfl rfl (zE rfl rfl (zd rfl rfl (zB rfl ⟨rfl, ?_⟩)))))))))))⟩))⟩)
  refine zd rfl rfl (zt rfl ⟨rfl, (zR (zK (zj (zC (za rfl (ze rfl (za rfl (zW rfl rfl (by unfold zV; omega) (za rfl (zl rfl (zb (zI (⟨may.length - (q + 1), by omega, _, q + 1, true, yb ⟨rfl, rfl, rfl, rfl, rfl, rfl, rfl, rfl, trivial⟩, H.up (by omega), ?_, by omega, rfl⟩)))))))))))))⟩)
  rw [any_take (show q < may.length by omega), ← hfd]
  rfl
 refine zb (zw rfl (yc (zQ (ya (zY (zj (zy ?_)))))))
 have hany : fd = may.any (fun m => x6 δ m (l.getD a default)) := by rw [hfd, List.take_of_length_le (by omega)]
 cases fd
 ·refine zf ?_
  obtain ⟨el, ool, dl, hel, hgl, hbl, hcl⟩ := (hu.sL.kept H).atS (i := (a : Int)) (k := a) rfl (by omega)
  cases hel
  obtain ⟨cl2, hgl2, hlw, hlp⟩ := (hu.sL.kept H).gotS (k := a) (by omega)
  have hll : el < zp := Nat.lt_of_lt_of_le hbl (by have hmo := H.most; (try simp only at hmo); omega)
  refine za rfl (zi rfl (za rfl (yz rfl (za rfl (zi rfl (zc rfl (zc rfl (zc rfl (zc rfl (zc rfl (zc rfl (zc rfl (za rfl (zB rfl (zb ?_)))))))))))))))
  refine zq rfl (zf (za rfl (zh (zb (zr (zo (zm (zN (⟨congrArg (Value.int .i64) ?_, H.up (by have := hT; omega)⟩)))))))))
  have hz : yP δ js bad may (f + 1) S (l.drop a) = none := by
   rw [hdr, y7 hnd]
   rw [if_neg]
   rintro ⟨hw, ha⟩
   (rw [← hany] at ha; cases ha)
  unfold usedZ
  rw [hz]
 refine zf ?_
 obtain ⟨el, ool, dl, hel, hgl, hbl, hcl⟩ := (hu.sL.kept H).atS (i := (a : Int)) (k := a) rfl (by omega)
 cases hel
 obtain ⟨cl2, hgl2, hlw, hlp⟩ := (hu.sL.kept H).gotS (k := a) (by omega)
 have hll : el < zp := Nat.lt_of_lt_of_le hbl (by have hmo := H.most; (try simp only at hmo); omega)
 refine za rfl (zi rfl (za rfl (yz rfl (za rfl (zi rfl (za rfl (zk rfl (za rfl (ze rfl (za rfl (zA x9 rfl rfl (by omega) (by omega) (za rfl (zg xi rfl (za rfl (zn ys rfl hgl2 hlw (za rfl (ze rfl (za rfl (yG rfl rfl (fun h => ?_) (fun h => ?_))))))))))))))))))))
 ·refine za rfl (zv rfl rfl (zb (zq rfl (zf (za rfl (zh (zb (zr (zo (zm (zN (⟨congrArg (Value.int .i64) ?_, H.up (by have := hT; omega)⟩))))))))))))
  have hz : yP δ js bad may (f + 1) S (l.drop a) = none := by
   rw [hdr, y7 hnd]
   rw [if_neg]
   rintro ⟨hw, ha⟩
   exact h hw
  unfold usedZ
  rw [hz]
 refine za rfl (zv rfl rfl (zb (zw rfl (zD (zj ?_)))))
 have hxw : (l.getD a default).w = S := by simpa using h
 have hany2 : may.any (fun m => x6 δ m (l.getD a default)) = true := hany.symm
 obtain ⟨hsp, hpb⟩ := same_split hm hany2
 obtain ⟨hf1, hf2, hf3, hf4, hf5, hf6⟩ := yR hsp hpb
 refine zf ?_
 obtain ⟨el, ool, dl, hel, hgl, hbl, hcl⟩ := (hu.sL.kept H).atS (i := (a : Int)) (k := a) rfl (by omega)
 cases hel
 obtain ⟨cl2, hgl2, hlw, hlp⟩ := (hu.sL.kept H).gotS (k := a) (by omega)
 have hll : el < zp := Nat.lt_of_lt_of_le hbl (by have hmo := H.most; (try simp only at hmo); omega)
 refine za rfl (zk rfl (za rfl (ze rfl (za rfl (zA x9 rfl rfl (by omega) (by omega) (za rfl (zg y8 rfl (za rfl (zn ys rfl hgl2 hlp (za rfl (zk rfl (za rfl (ze rfl (za rfl (zk rfl (za rfl (zk rfl (za rfl (ze rfl (za rfl (zW rfl rfl (by unfold zV; omega) ?_)))))))))))))))))))))
 rw [show (a : Int) + 1 = ((a + 1 : Nat) : Int) by omega]
 refine za rfl (zx rfl fc58 rfl ?_)
 obtain ⟨_, s9, hr, rfl, Hc⟩ := ih (l.getD a default).p hf1 (by omega) (a + 1) (by omega) _ H.fine (hu.kept H) (by have hmo := H.most; omega)
 refine ⟨_, _, hr, ?_⟩
 clear hr
 have H := H.call0 Hc
 clear Hc
 refine za rfl (zl rfl (zb (zy (zf (za rfl (ze rfl (za rfl (ye rfl rfl (fun h => ?_) (fun h => ?_)))))))))
 ·refine zb (zq rfl (zf (za rfl (zh (zb (zr (zo (zm (zN (⟨congrArg (Value.int .i64) ?_, H.up (by have := hT; omega)⟩))))))))))
  have hz : yP δ js bad may (f + 1) S (l.drop a) = none := by
   rw [hdr, y7 hnd]
   rw [if_pos ⟨hxw, hany2⟩, usedZ_none (by omega)]
  unfold usedZ
  rw [hz]
 refine zb (zw rfl (zD (zj ?_)))
 obtain ⟨a2, ha2, ha3, hae, hcz⟩ := usedZ_some (δ := δ) (js := js) (bad := bad) (may := may) (f := f) (S := (l.getD a default).p) (l := l) (a := a + 1) (by omega) (by omega)
 rw [hae]
 have hT2 : tc (l.length - a2) ≤ tc (l.length - (a + 1)) := tc_mono (by omega)
 refine zf ?_
 obtain ⟨el, ool, dl, hel, hgl, hbl, hcl⟩ := (hu.sL.kept H).atS (i := (a : Int)) (k := a) rfl (by omega)
 cases hel
 obtain ⟨cl2, hgl2, hlw, hlp⟩ := (hu.sL.kept H).gotS (k := a) (by omega)
 have hll : el < zp := Nat.lt_of_lt_of_le hbl (by have hmo := H.most; (try simp only at hmo); omega)
 refine za rfl (zk rfl (za rfl (ze rfl (za rfl (zA x9 rfl rfl (by omega) (by omega) (za rfl (z7 sh62 rfl hgl hcl (za rfl (zx rfl fc36 rfl ?_)))))))))
 obtain ⟨_, s9, hr, rfl, Hc⟩ := rest_ok (x := (l.getD a default)) hI H.fine (by have hmo := H.most; (try simp only at hmo); omega)
 refine ⟨_, _, hr, ?_⟩
 clear hr
 have H := H.call0 Hc
 clear Hc
 refine za rfl (zk rfl (za rfl (ze rfl (za rfl (zk rfl (za rfl (zk rfl (za rfl (ze rfl (za rfl (zx rfl fc58 rfl ?_)))))))))))
 obtain ⟨_, s9, hr, rfl, Hc⟩ := ih (zJ (l.getD a default).w (l.getD a default).p) hf3 (by omega) a2 (by omega) _ H.fine (hu.kept H) (by have hmo := H.most; omega)
 refine ⟨_, _, hr, ?_⟩
 clear hr
 have H := H.call0 Hc
 clear Hc
 refine za rfl (zl rfl (zb (zr (zm (zN (⟨congrArg (Value.int .i64) ?_, H.up (by omega)⟩))))))
 symm
 unfold usedZ
 rw [hdr, y7 hnd, if_pos ⟨hxw, hany2⟩, hcz]
 simp only
 rw [hxw]
theorem used_ok {I : yh} (hI : Plain I) {δ : Slc → List Int} {js : List (Int × Int)} {bad : Int} {may l : List Sp} (hj : ∀ j ∈ js, kf j) (hjl : js.length ≤ 16) (hm : yZ may) (hml : may.length ≤ 15) (hll : l.length ≤ 1000) {ja ma la : Option Addr} {jcp mcp lcp : Nat} : ∀ f, UsC I δ js bad may l ja ma la jcp mcp lcp f
 | 0 => fun S _ h => by omega
 | f + 1 => used_step hI hj hjl hm hml hll (used_ok hI hj hjl hm hml hll f)
end Go.Proofs.YtdejleegamcioaaGreat
