/- How many blocks the recursion makes at most. -/
/- undo.Least, up to the loop over what is known. -/
/- undo.Least, behind the loop over what is known. -/
/- undo.Least as a function of this machine: the loop over the map in one step. -/
import Derived.Test.YtdejleegamcioaaGreatP18
namespace Go.Proofs.YtdejleegamcioaaGreat
open Go Go.M
section
def cntLe (S : Int) (l : List Sp) : Nat := (l.filter fun m => decide (m.w ≤ S)).length
def cntEq (S : Int) (l : List Sp) : Nat := (l.filter fun m => decide (m.w = S)).length
theorem cnt_step (S : Int) : ∀ l : List Sp, cntLe S l = cntLe (S - 1) l + cntEq S l
 | [] => rfl
 | m :: l => by
  have ih := cnt_step S l
  simp only [cntLe, cntEq, List.filter_cons] at ih ⊢
  by_cases h1 : m.w = S
  ·rw [if_pos (by simp; omega), if_neg (by simp; omega), if_pos (by simp; omega)]
   simp only [List.length_cons]; omega
  ·by_cases h2 : m.w ≤ S
   ·rw [if_pos (by simp; omega), if_pos (by simp; omega), if_neg (by simp; omega)]
    simp only [List.length_cons]; omega
   ·rw [if_neg (by simp; omega), if_neg (by simp; omega), if_neg (by simp; omega)]
    omega
theorem cntLe_mono {S T : Int} (h : S ≤ T) : ∀ l : List Sp, cntLe S l ≤ cntLe T l
 | [] => Nat.le_refl _
 | m :: l => by
  have ih := cntLe_mono h l
  simp only [cntLe, List.filter_cons] at ih ⊢
  by_cases h1 : m.w ≤ S
  ·rw [if_pos (by simp; omega), if_pos (by simp; omega)]
   simp only [List.length_cons]; omega
  ·rw [if_neg (by simp; omega)]
   split
   ·simp only [List.length_cons]; omega
   ·omega
theorem three_pow (a : Nat) : 1 + 2 * a ≤ 3 ^ a := by
 induction a with
 | zero => simp
 | succ a ih => rw [Nat.pow_succ]; omega
theorem tbs_bound {t : Int → Nat} {S : Int} {B : Nat} : ∀ (l : List Sp), (∀ m ∈ l, m.w = S → t m.p ≤ B ∧ t (zB S m.p) ≤ B) → tbs t S l ≤ cntEq S l * (2 * B)
 | [], _ => by simp [tbs]
 | m :: l, h => by
  have ih := tbs_bound l fun x hx => h x (by simp [hx])
  simp only [tbs, cntEq, List.filter_cons] at ih ⊢
  by_cases h1 : m.w = S
  ·obtain ⟨q1, q2⟩ := h m (by simp) h1
   rw [if_pos h1, if_pos (by simp; omega), List.length_cons, Nat.add_mul]
   omega
  ·rw [if_neg h1, if_neg (by simp; omega)]
   omega
theorem tb_bound {may : List Sp} (hm : xh may) : ∀ (f : Nat) (S : Int), tb may f S ≤ (60 + may.length) * 3 ^ cntLe S may
 | 0, S => by simp [tb]
 | f + 1, S => by
  rw [tb, cnt_step]
  have h1 := tbs_bound (t := tb may f) (S := S) (B := (60 + may.length) * 3 ^ cntLe (S - 1) may) may fun m hmm hw => by
   obtain ⟨hs, hp⟩ := hm m hmm
   obtain ⟨q1, q2, q3, q4, q5, q6⟩ := yU hs hp
   rw [hw] at q2 q4
   refine ⟨Nat.le_trans (tb_bound hm f m.p) ?_, Nat.le_trans (tb_bound hm f (zB S m.p)) ?_⟩
   ·exact Nat.mul_le_mul_left _ (Nat.pow_le_pow_right (by decide) (cntLe_mono (by omega) may))
   ·exact Nat.mul_le_mul_left _ (Nat.pow_le_pow_right (by decide) (cntLe_mono (by omega) may))
  have h2 := three_pow (cntEq S may)
  have h3 : 1 ≤ 3 ^ cntLe (S - 1) may := Nat.one_le_pow _ _ (by decide)
  rw [Nat.pow_add, ← Nat.mul_assoc]
  generalize 60 + may.length = C at *
  generalize 3 ^ cntLe (S - 1) may = X at *
  generalize 3 ^ cntEq S may = Y at *
  generalize cntEq S may = a at *
  calc C + tbs (tb may f) S may ≤ C + a * (2 * (C * X)) := by omega
   _ ≤ C * X + a * (2 * (C * X)) := by
    have : C * 1 ≤ C * X := Nat.mul_le_mul_left _ h3
    omega
   _ = (C * X) * (1 + 2 * a) := by
    rw [Nat.mul_add, Nat.mul_one, ← Nat.mul_assoc, Nat.mul_comm a 2, Nat.mul_comm (C * X) (2 * a)]
   _ ≤ (C * X) * Y := Nat.mul_le_mul_left _ h2
theorem tb_small {may : List Sp} (hm : xh may) (hl : may.length ≤ 15) (f : Nat) (S : Int) : tb may f S ≤ 1100000000 := by
 refine Nat.le_trans (tb_bound hm f S) ?_
 have h1 : cntLe S may ≤ 15 := Nat.le_trans (List.length_filter_le _ _) hl
 have h2 : 3 ^ cntLe S may ≤ 3 ^ 15 := Nat.pow_le_pow_right (by decide) h1
 calc (60 + may.length) * 3 ^ cntLe S may ≤ 75 * 3 ^ 15 := Nat.mul_le_mul (by omega) h2
  _ ≤ 1100000000 := by decide
end
section
variable {P : Program} {I : zJ} {F : FF} {s : St} {Q : FF → St → Prop} {d : Option Tmp} {ty : TypeId} {pos : String} {af : Array Edge} {g : Option (Nat × Bool)} {W : List Nat} {s0 : St} {L : Hp'} {n : Nat}
theorem op_makeMap {t : TypeId} (H : HL W s0 s L n) (hr : s0.next + n < zh) (k : ∀ b s', HL W s0 s' ((b, x9 []) :: L) (n + 1) → Q (upd F d (.map (some b))) s') : OpW P I ⟨d, .makeMap t none, ty, pos, af, g⟩ F s Q := by
 refine zS (v := .map (some s.next)) (s' := s.new (.map #[] 0)) ?_ (k _ _ (H.new _ hr))
 have hroom := H.room hr
 simp only [zr, mapM, hroom]
 rfl
end
end Go.Proofs.YtdejleegamcioaaGreat
namespace Go.Proofs.YtdejleegamcioaaGreat
open Go Go.M
theorem bf36 : buildF Tryz.prog 36 = some ([.slice none 0 0, .slice none 0 0], [(0, 1), (1, 1)]) := by kernel_rfl
theorem fc40 : yk Tryz.prog 40 = true := by kernel_rfl
theorem sz36 : yR Tryz.prog 36 = some 2 := by kernel_rfl
theorem sz96 : yR Tryz.prog 96 = some 1 := by kernel_rfl
theorem sz97 : yR Tryz.prog 97 = some 1 := by kernel_rfl
theorem zf36 : xQ Tryz.prog 36 = some [.slice none 0 0, .slice none 0 0] := by kernel_rfl
theorem zf96 : xQ Tryz.prog 96 = some [.map none] := by kernel_rfl
theorem zf97 : xQ Tryz.prog 97 = some [.nilFunc] := by kernel_rfl
def takeS : Nat → Code → Code
 | 0, _ => .skip
 | 1, .seq x _ => x
 | n + 2, .seq x y => .seq x (takeS (n + 1) y)
 | _ + 1, c => c
def dropS : Nat → Code → Code
 | 0, c => c
 | n + 1, .seq _ y => dropS n y
 | _ + 1, c => c
noncomputable def y4 : Code := Tryz.f12.body.getD .skip
noncomputable def yO : Code := takeS 8 y4
noncomputable def leastTail : Code := dropS 10 y4
def PreQ (js : List (Int × Int)) (bad : Int) (may : List Sp) (w : Int) (s : St) (N : Nat) : FOut → Prop
 | .ret F s' => (bb js bad may w).1 = 65536 ∧ ∃ (b10 : Nat), F 8 = .slice none 0 0 ∧ F 9 = .int .i64 0 ∧ F 10 = ptr b10 ∧ F 11 = .int .i64 6 ∧ HL [] s s' [(b10, .cells [.slice none 0 0, .slice none 0 0] 36)] N
 | .normal F s' => (bb js bad may w).1 < 65536 ∧ ∃ (G : FF) (b10 bK b16 r : Nat) (E : List Ent), F = lay G [(0, .int .i64 w), (10, ptr b10), (13, ptr bK), (15, .int .i64 (bb js bad may w).1), (16, ptr b16)] ∧ Good js bad may E ∧ w ∈ ys E ∧ E.length ≤ 65535 ∧ (∀ k ∈ ys E, Rch js bad may w k) ∧
   HL [] s s' [(b16, .cells [.slice none 0 0, .slice none 0 0] 36), (bK, .cells [.map (some r)] 96), (r, x9 E), (b10, .cells [.slice none 0 0, .slice none 0 0] 36)] N
 | _ => False
theorem nodup_len : ∀ (N : Nat) (l : List Int), l.Nodup → (∀ x ∈ l, 0 < x ∧ x ≤ (N : Int)) → l.length ≤ N
 | 0, l, _, h => by
  cases l with
  | nil => simp
  | cons x l => have := h x (by simp); omega
 | N + 1, l, hn, h => by
  have h1 := nodup_len N (l.filter fun x => decide (x ≠ ((N + 1 : Nat) : Int))) (hn.filter _) (by
   intro x hx
   rw [List.mem_filter] at hx
   have := h x hx.1
   have h2 := hx.2
   simp only [decide_eq_true_eq] at h2
   omega)
  have h2 : l.count ((N + 1 : Nat) : Int) ≤ 1 := List.nodup_iff_count.mp hn _
  have h3 := List.length_eq_countP_add_countP (fun x => decide (x = ((N + 1 : Nat) : Int))) (l := l)
  have h4 : l.countP (fun x => decide (x = ((N + 1 : Nat) : Int))) = l.count ((N + 1 : Nat) : Int) := by
   rw [List.count]
   congr 1
  have h5 : l.countP (fun a => !decide (a = ((N + 1 : Nat) : Int))) = (l.filter fun x => decide (x ≠ ((N + 1 : Nat) : Int))).length := by
   rw [List.countP_eq_length_filter]
   congr 2
   funext x
   simp
  have h6 : l.countP (fun a => decide (¬ decide (a = ((N + 1 : Nat) : Int)) = true)) = l.countP (fun a => !decide (a = ((N + 1 : Nat) : Int))) := by
   congr 1
   funext x
   simp
  omega
theorem joinsB_of {js : List (Int × Int)} (h : ∀ j ∈ js, joinB j ∧ j.1 ≠ j.2) : xI js = true := by
 induction js with
 | nil => rfl
 | cons j r ih =>
  have h1 := h j (by simp)
  unfold joinB at h1
  rw [xI, ih fun x hx => h x (by simp [hx])]
  simp only [Bool.and_true, Bool.not_eq_true', Bool.or_eq_false_iff, decide_eq_false_iff_not]
  omega
theorem err_ok {w bad : Int} {js : List (Int × Int)} {may : List Sp} (hj : ∀ j ∈ js, joinB j ∧ j.1 ≠ j.2) (hjl : js.length ≤ 16) (hm : xh may) (hml : may.length ≤ 4096) (hw0 : 0 < w) (hw1 : w < 65536) (hb0 : 0 ≤ bad) (hb1 : bad < 2 ^ js.length) : x0 w js bad may = 0 := by
 unfold x0
 rw [if_neg (by omega), if_neg (by omega), if_neg, if_pos (joinsB_of hj)]
 rw [List.any_eq_true]
 rintro ⟨x, hx, hs⟩
 rw [(hm x hx).1] at hs
 cases hs
set_option maxHeartbeats 4000000 in
set_option maxRecDepth 10000 in
theorem pre_ok {I : zJ} (hI : Plain I) {s : St} (hf : Fine s) {w bad : Int} {vj vm : Value} {js : List (Int × Int)} {may : List Sp} (hJ : Sl s 30 2 vj (js.map jc)) (hM : Sl s 62 10 vm (may.map Sp.cells)) (hj : ∀ j ∈ js, joinB j ∧ j.1 ≠ j.2) (hjl : js.length ≤ 16) (hm : xh may) (hml : may.length ≤ 15) (hw0 : 0 < w) (hw1 : w < 65536) (hb0 : 0 ≤ bad) (hb1 : bad < 2 ^ js.length) (hroom : s.next + (10020 + tb may (w.toNat + 1) w) ≤ zh) :
  y3 Tryz.prog I yO (frameOf #[.int .i64 w, vj, .int .i64 bad, vm]) s (PreQ js bad may w s (10020 + tb may (w.toNat + 1) w)) := by
 have H := hf.hl
 obtain ⟨ja, jn, jcp, rfl, hjn⟩ := hJ.isSlice
 obtain ⟨ma, mn, mcp, rfl, hmn⟩ := hM.isSlice
 have herr := err_ok hj hjl hm (by omega) hw0 hw1 hb0 hb1
 have hrg := xD (js := js) (bad := bad) (may := may) w
 refine zc (za rfl (op_boxS H rfl (by omega) (fun b5 s1 H => ?_)))
 refine za rfl (op_boxI H rfl (by omega) (fun b6 s2 H => ?_))
 refine za rfl (op_boxS H rfl (by omega) (fun b7 s3 H => ?_))
 refine za rfl (zk (za rfl (zk (za rfl (zC H zf36 (by omega) (fun b10 s4 H => ?_))))))
 refine za rfl (zk (zb (zq (zc (za rfl (zd rfl (za rfl (zj sh24 rfl H.own3 rfl (za rfl (zj y1 rfl H.own2 rfl (za rfl (zj sh25 rfl H.own1 rfl (za rfl (zo rfl fc40 rfl ?_))))))))))))))
 obtain ⟨_, s9, hr, rfl, Hc⟩ := valid_args_ok (w := w) (bad := bad) hI H.fine (hJ.kept H) (hM.kept H) (by have := H.most; omega)
 refine ⟨_, _, hr, ?_⟩
 clear hr
 have H := H.call0 Hc
 clear Hc
 rw [herr]
 refine za rfl (zm rfl (zb (zc (za rfl (zd rfl (za rfl (op_neq rfl rfl (fun h => False.elim (by exact h rfl)) (fun h => ?_))))))))
 refine zb (zx rfl (zA (zi (zc (za rfl (op_makeMap H (by omega) (fun b31 s31 H => ?_)))))))
 refine za rfl (zC H zf96 (by omega) (fun b13 s5 H => ?_))
 refine za rfl (zD (vs := [.map _]) H sz96 rfl rfl rfl rfl rfl (by omega) (fun s6 H => ?_))
 refine zb (zc (za rfl (zC H zf97 (by omega) (fun b14 s7 H => ?_))))
 refine zb (zc (za rfl (op_makeFunc (za rfl (zD (vs := [_]) H sz97 rfl rfl rfl rfl rfl (by omega) (fun s8 H => ?_))))))
 refine zb (zc (za rfl (zj sh97 rfl H.own0 rfl (za rfl (zd rfl (za rfl (zo rfl fc41 rfl ?_)))))))
 have hst : OfSt _ b31 b13 b5 b6 b7 b14 (.slice ja jn jcp) bad (.slice ma mn mcp) js may [] := ⟨H.own1, H.lt1, H.own6, H.lt6, H.own5, H.lt5, H.own4, H.lt4, H.own0, H.lt0, H.own2, H.lt2, (H.own (b31, x9 []) (by simp)).2.2.1, hJ.kept H, hM.kept H⟩
 obtain ⟨_, s9, hr, E, rfl, Hc, hg, hk, X, hX, hXb, hXl⟩ := of_ok hI (fun j hj2 => (hj j hj2).1) hjl hm (by omega) (w.toNat + 1) w hw0 (by omega) _ [] H.fine hst ⟨by simp [ys], (by intro e he; cases he), (by intro e he; cases he)⟩ (by have := H.most; omega)
 refine ⟨_, _, hr, ?_⟩
 clear hr
 have hEl : E.length ≤ 65535 := by
  have h1 := nodup_len 65535 (ys E) hg.nodup (by
   intro x hx
   obtain ⟨e, he, rfl⟩ := List.mem_map.mp hx
   rw [hX, List.nil_append] at he
   have := (hXb e he).1
   omega)
  simpa [ys] using h1
 have hRc : ∀ k ∈ ys E, Rch js bad may w k := by
  intro x hx
  obtain ⟨e, he, rfl⟩ := List.mem_map.mp hx
  rw [hX, List.nil_append] at he
  exact (hXb e he).2
 have H := HL.callW (A := [(b31, x9 [])]) (L := [_, _, _, _, _, _]) (HL.mid (A := [_, _]) (B := [_]) (C := [_, _, _, _]) H) Hc (by intro b hb; rw [List.mem_singleton] at hb; subst hb; exact ⟨_, List.mem_singleton.mpr rfl⟩) (by intro p hp; rw [List.mem_singleton] at hp; subst hp; simp)
 clear Hc
 simp only [List.cons_append, List.nil_append] at H
 refine za rfl (zm rfl (zb (zq (zc (za rfl (zd rfl (za rfl (xf rfl rfl (fun h => ?_) (fun h => ?_)))))))))
 ·refine zb (zE rfl (zc (za rfl (yN (c := [.slice _ _ _, .slice _ _ _]) bf36 rfl (za rfl (zk (za rfl (zk (za rfl (op_store3 (vs := [.slice _ _ _, .slice _ _ _]) H sz36 rfl rfl rfl rfl rfl (by omega) (fun s9 H => ?_)))))))))))
  refine za rfl (zk (zb (zF (zV (⟨by omega, b10, rfl, rfl, rfl, rfl, ?_⟩)))))
  exact (H.sub (L' := [(b10, .cells [.slice none 0 0, .slice none 0 0] 36)]) (.cons _ (.cons _ (.cons _ (.cons_cons _ (List.nil_sublist _)))))).up (by omega)
 refine zb (zx rfl (zA (zi (zv (za rfl (zC H zf36 (by omega) (fun b16 s10 H => ?_)))))))
 refine zb (⟨by omega, _, b10, b13, b16, b31, E, yd ⟨rfl, rfl, rfl, rfl, rfl, trivial⟩, hg, hk, by omega, hRc, ?_⟩)
 have H2 := H.sub (L' := [(b16, _), (b31, _), (b13, _), (b10, _)]) (.cons_cons _ (.cons_cons _ (.cons _ (.cons_cons _ (.cons_cons _ (List.nil_sublist _))))))
 exact (HL.perm H2 (List.Perm.cons _ (List.Perm.swap _ _ _))).up (by omega)
end Go.Proofs.YtdejleegamcioaaGreat
namespace Go.Proofs.YtdejleegamcioaaGreat
open Go Go.M
theorem of36_0 : offF Tryz.prog 36 0 = some 0 := by kernel_rfl
theorem of36_1 : offF Tryz.prog 36 1 = some 1 := by kernel_rfl
theorem pf99_0 : partF Tryz.prog 99 0 = some (some (none), 0) := by kernel_rfl
theorem sh31 : z1 Tryz.prog 31 = some (none) := by kernel_rfl
theorem sh36 : z1 Tryz.prog 36 = some (some 2) := by kernel_rfl
theorem sz103 : yR Tryz.prog 103 = some 1 := by kernel_rfl
theorem sz22 : yR Tryz.prog 22 = some 1 := by kernel_rfl
theorem zf103 : xQ Tryz.prog 103 = some [.nilFunc] := by kernel_rfl
theorem zf25 : xQ Tryz.prog 25 = some [.slice none 0 0] := by kernel_rfl
set_option maxHeartbeats 4000000 in
set_option maxRecDepth 10000 in
theorem tail_ok {I : zJ} (hI : Plain I) {s s2 : St} {G : FF} {w bad : Int} {js : List (Int × Int)} {may : List Sp} (hm : xh may) (hw0 : 0 < w) (hw1 : w < 65536) (hbb : (bb js bad may w).1 < 65536) {b10 bK b16 bS r cS n0 : Nat} {E : List Ent} {ks : List Int} (hg : Good js bad may E) (hk : w ∈ ys E) (hks : ∀ x ∈ ks, x ∈ ys E) (hkl : ks.length ≤ 10000000) (hcS : ks.length ≤ cS / 2)
  (H : HL [] s s2 [(b16, .cells [.slice (some ⟨bS, 0, none⟩) ks.length cS, .slice none 0 0] 36), (bS, .cells (z7 ks) 23), (bK, .cells [.map (some r)] 96), (r, x9 E), (b10, .cells [.slice none 0 0, .slice none 0 0] 36)] n0) (hroom : s.next + (n0 + 2 * ks.length + 400000) ≤ zh) :
  y3 Tryz.prog I leastTail (lay G [(0, .int .i64 w), (10, ptr b10), (13, ptr bK), (15, .int .i64 (bb js bad may w).1), (16, ptr b16)]) s2
   (retQ Tryz.prog Tryz.f12.results.toList fun v' s' => ∃ (D : Hp') (sx p1 p2 : Slc), v' = .tuple ⟨[sx.v, .int .i64 (bb js bad may w).1, .agg ⟨[p1.v, p2.v]⟩, .int .i64 0]⟩ ∧ HL [] s s' D (n0 + 2 * ks.length + 400000) ∧ SlG D 62 10 sx.v ((tk js bad may (w.toNat + 1) w).map Sp.cells) ∧ SlG D 23 1 p1.v (ks.map dc) ∧ SlG D 3 1 p2.v ((ks.map fun q => (bb js bad may q).1).map dc)) := by
 have hrg := xD (js := js) (bad := bad) (may := may) w
 have hkb : b16 ≠ b10 := by have hd := H.dist; simp only [List.pairwise_cons, List.mem_cons, List.not_mem_nil, or_false, forall_eq_or_imp, forall_eq] at hd; omega
 refine zq (zc (za rfl (zf of36_0 rfl (za rfl (zj sh31 rfl H.own0 rfl (za rfl (yf un31 rfl rfl rfl (za rfl (xV (zb (zI (yP (fun k F s1 => ∃ (G : FF) (i : Nat) (D2 : Hp') (so : Slc) (ls : List Int), F = lay G [(0, .int .i64 w), (10, ptr b10), (13, ptr bK), (15, .int .i64 (bb js bad may w).1), (16, ptr b16), (55, .slice (some ⟨bS, 0, none⟩) ks.length cS), (56, .int .i64 (ks.length : Int)), (57, .int .i64 (i : Int))] ∧ HL [] s s1 ([(b16, .cells [.slice (some ⟨bS, 0, none⟩) ks.length cS, so.v] 36), (bS, .cells (z7 ks) 23), (bK, .cells [.map (some r)] 96), (r, x9 E), (b10, .cells [.slice none 0 0, .slice none 0 0] 36)] ++ D2) (n0 + 2 * i) ∧ Own 3 1 D2 so.v (z7 ls) ls.length ∧ ls = (ks.take i).map (fun q => (bb js bad may q).1) ∧ ls.length = i ∧ i ≤ ks.length ∧ k = ks.length - i) ?_ ks.length _ _ ?_))))))))))))
 rotate_left
 ·exact ⟨_, 0, [], ⟨none, 0, 0⟩, [], yd ⟨rfl, rfl, rfl, rfl, rfl, rfl, rfl, rfl, trivial⟩, H, .nil, by simp, rfl, by omega, by omega⟩
 rintro k F s1 ⟨G, i, D2, so, ls, rfl, H, ho, hls, hli, hi, rfl⟩
 refine zc (za rfl (yq rfl rfl (fun h => ?_) (fun h => ?_)))
 ·refine zb (zq (zE rfl (zA (zi (zq (zI (zc (za rfl (zM el31 rfl rfl (by omega) (by omega) (za rfl (zj y1 rfl H.own1 (lget_ints' (k := i) (by omega) (by omega)) (za rfl (zm rfl (zb ?_))))))))))))))
  refine zv (za rfl (zf of36_1 rfl (za rfl (zj qp rfl H.own0 rfl (za rfl (zj sh96 rfl H.own2 rfl (za rfl (zd rfl ?_))))))))
  obtain ⟨e, hfe⟩ := find_of_key (hks (ks.getD i 0) (yu (by omega)))
  refine za rfl (op_lookupSome (e := e) un96 un23 rfl rfl H.own3 hfe (za rfl (op_field pf99_0 rfl rfl (za rfl (ya (c := [.int _ _]) H sl22 rfl rfl (by omega) (fun b67 s1 H => ?_))))))
  have hgt := H.own0
  have H := HL.swap (A := [_, _, _, _, _]) (B := D2) H.drop0
  refine za rfl (yT H ho sl22 xO rfl rfl rfl (yH hgt rfl) (by decide) rfl rfl (by omega) (by omega) (fun b68 s68 H ho => ?_))
  refine za rfl (zf of36_1 rfl (za rfl (x6 (vs := [.slice _ _ _]) H sz22 rfl rfl rfl rfl rfl (by omega) (fun s2 H => ?_))))
  refine zb (zP (zi (zv (za rfl (zT rfl rfl (by unfold zQ; omega) (za rfl (zd rfl (zb (zN (⟨ks.length - (i + 1), by omega, _, i + 1, [(b68, .cells (z7 ls ++ [.int .i64 e.n]) 3)], ⟨some ⟨b68, 0, none⟩, ls.length + 1, 2 * (ls.length + 1) + 1⟩, ls ++ [e.n], yd ⟨rfl, rfl, rfl, rfl, rfl, rfl, rfl, rfl, trivial⟩, ?_, ?_, ?_, by simp; omega, by omega, rfl⟩))))))))))
  ·exact (HL.swap (A := [_]) (B := [_, _, _, _, _]) H).up (by omega)
  ·rw [ints_append, List.length_append]
   exact ho
  ·rw [List.take_succ_eq_append_getElem (show i < ks.length by omega), List.map_append, ← hls]
   have hv := hg.val e (of_find hfe).1
   rw [(of_find hfe).2] at hv
   simp only [List.map_cons, List.map_nil, List.append_cancel_left_eq, List.cons.injEq, and_true]
   have he : e.n = (bb js bad may (ks.getD i 0)).1 := congrArg Prod.fst hv
   rw [he]
   simp [List.getD_eq_getElem?_getD, List.getElem?_eq_getElem (show i < ks.length by omega)]
 refine zb (zq (zx rfl (yn (zX (yh (ye (zi (zc (za rfl (zC H zf25 (by omega) (fun b20 s3 H => ?_)))))))))))
 refine zb (zc (za rfl (zC H zf103 (by omega) (fun b21 s4 H => ?_))))
 refine zb (zc (za rfl (op_makeFunc (za rfl (zD (vs := [_]) H sz103 rfl rfl rfl rfl rfl (by omega) (fun s5 H => ?_))))))
 refine zb (zc (za rfl (zj sh103 rfl H.own0 rfl (za rfl (zd rfl (za rfl (zo rfl fc44 rfl ?_)))))))
 have hst : TkSt _ r bK b20 b21 E [] ⟨none, 0, 0⟩ [] := ⟨H.own4, H.lt4, H.own0, H.lt0, H.own5, H.lt5, (by intro p hp; rw [List.mem_singleton] at hp; subst hp; exact ⟨H.own1, H.lt1, (H.own (b20, .cells [.slice none 0 0] 25) (by simp)).2.2.1⟩), by simp, .nil⟩
 obtain ⟨_, s9, hr, D3, so3, rfl, Hc, ho3⟩ := take_ok hI hm hg (w.toNat + 1) w hw0 (by omega) hk hbb _ [] ⟨none, 0, 0⟩ [] H.fine hst (by simp; omega) (by have := H.most; omega)
 refine ⟨_, _, hr, ?_⟩
 clear hr
 have H := HL.callW (A := [_]) (L := _ :: _ :: _ :: _ :: _ :: _ :: D2) (HL.mid (A := [_]) (B := [_]) (C := _ :: _ :: _ :: _ :: _ :: D2) H) Hc (by intro b hb; simp only [List.map_nil, List.mem_singleton] at hb; subst hb; exact ⟨_, List.mem_singleton.mpr rfl⟩) (by intro p hp; rw [List.mem_singleton] at hp; subst hp; simp)
 clear Hc
 have H := HL.mid (A := _ :: D3) (B := [_, _, _, _, _, _]) (C := D2) H
 simp only [List.cons_append, List.nil_append] at H
 refine zb (yC [⟨0, 0, .light, [2]⟩, ⟨1, 0, .light, [0, 2]⟩, ⟨2, 0, .light, [0]⟩, ⟨3, 1, .light, [2]⟩, ⟨4, 11, .light, [2]⟩, ⟨5, 31, .whole, []⟩, ⟨6, 63, .light, []⟩] (by kernel_rfl) (by kernel_rfl) (zy rfl rfl sh25 rfl H.own6 (by exact H.lim6 (by omega)) rfl (ze rfl rfl (zd rfl ⟨rfl, (yI rfl rfl sh36 rfl H.own1 (by exact H.lim1 (by omega)) rfl (ze rfl rfl (yb rfl ⟨rfl, (ze rfl rfl (zm rfl ⟨rfl, (dr_store5 (vs := [.slice _ _ _, .slice _ _ _]) (fr := []) H rfl rfl sz36 rfl rfl rfl rfl rfl rfl (by have hd := H.dist; simp only [List.pairwise_cons, List.mem_cons, List.not_mem_nil, or_false, forall_eq_or_imp, forall_eq, false_imp_iff, implies_true] at hd ⊢; try omega) (by omega) (fun s6 H => ?_))⟩))⟩)))⟩))))
 refine ze rfl rfl (zk ⟨rfl, (z2 (zF (zt (end_ttct rfl rfl sh36 rfl H.own5 rfl rfl ?_))))⟩)
 have hi2 : i = ks.length := by omega
 rw [hi2, List.take_length] at hls
 refine ⟨_, so3, ⟨some ⟨bS, 0, none⟩, ks.length, cS⟩, so, rfl, H.up (by omega), ?_, ?_, ?_⟩
 ·refine (Own.slG (es := (tk js bad may (w.toNat + 1) w).map Sp.cells) (by intro x hx; obtain ⟨y, _, rfl⟩ := List.mem_map.mp hx; rfl) (by rw [List.length_map]; rw [List.nil_append] at ho3; exact ho3)).mono ?_
  intro p hp
  simp only [List.mem_cons, List.mem_append, hp, true_or, or_true]
 ·exact SlG.block bS 0 cS (z7 ks) (by simp [Slc.v]) (by simp only [List.mem_cons, List.mem_append, true_or, or_true]) (by simpa using hcS) (fun k hk => by rw [ints_flat]; exact flat_get (by intro x hx; obtain ⟨y, _, rfl⟩ := List.mem_map.mp hx; rfl) hk)
 ·rw [← hls]
  refine (Own.slG (es := ls.map dc) (by intro x hx; obtain ⟨y, _, rfl⟩ := List.mem_map.mp hx; rfl) (by rw [List.length_map, ← ints_flat]; exact ho)).mono ?_
  intro p hp
  simp only [List.mem_cons, List.mem_append, hp, true_or, or_true]
end Go.Proofs.YtdejleegamcioaaGreat
namespace Go.Proofs.YtdejleegamcioaaGreat
open Go Go.M
def keysL : List MapEntry → Nat → Option (List Int)
 | [], _ => some []
 | e :: l, i => match e.key with
  | .int .i64 k => match Nat.beq e.born i, keysL l (i + 1) with
   | true, some r => some (k :: r)
   | _, _ => none
  | _ => none
def insI (x : Int) : List Int → List Int
 | [] => [x]
 | y :: l => match ile x y with
  | true => x :: y :: l
  | false => y :: insI x l
def yp : List Int → List Int
 | [] => []
 | x :: l => insI x (yp l)
def segS (v13 v16 : Value) (s : St) : Option St :=
 match v13, v16 with
 | .pointer (some ⟨bK, 0, none⟩), .pointer (some ⟨b16, 0, none⟩) =>
  match s.get bK, s.get b16 with
  | some (.cells [.map (some r)] _), some (.cells [.slice none 0 0, v2] 36) =>
   match s.get r with
   | some (.map es clock) => match keysL es.toList 0, Nat.beq clock es.size && s.may b16 && Nat.blt (s.next + 2 * es.size) 281474976710655 && Nat.blt 0 es.size && Nat.blt es.size 1000000 && Go.M.plainCell v2 with
    | some ks, true => some (({ s with next := s.next + 2 * es.size }.new (.cells (z7 (yp ks)) 23)).put b16 (some (.cells [.slice (some ⟨s.next + 2 * es.size, 0, none⟩) es.size (2 * es.size + 1), v2] 36)))
    | _, _ => none
   | _ => none
  | _, _ => none
 | _, _ => none
def ym : zJ := fun _ => none
noncomputable def qD (n : Nat) (args : Array Value) (s : St) : CallOut :=
 match Nat.beq (yY args.toList 0) 4 with
 | true => match zL Tryz.prog ym n yO (Fr.make args 78) s with
  | .ret a s' => finish Tryz.prog Tryz.f12 a s'
  | .normal a s1 => match segS (a.get 13) (a.get 16) s1 with
   | some s2 => match zL Tryz.prog ym n leastTail a s2 with
    | .ret a s' => finish Tryz.prog Tryz.f12 a s'
    | .normal a s' => finish Tryz.prog Tryz.f12 a s'
    | _ => .stuck
   | none => .stuck
  | _ => .stuck
 | false => .stuck
def Ever (args : Array Value) (s : St) (v : Value) (s' : St) : Prop := ∃ N, ∀ n, N ≤ n → qD n args s = .ret v s'
theorem ever_one {args : Array Value} {s : St} {v v2 : Value} {s1 s2 : St} (h1 : Ever args s v s1) (h2 : Ever args s v2 s2) : v = v2 ∧ s1 = s2 := by
 obtain ⟨n1, h1⟩ := h1
 obtain ⟨n2, h2⟩ := h2
 have := (h1 (n1 + n2) (by omega)).symm.trans (h2 (n1 + n2) (by omega))
 simp only [CallOut.ret.injEq] at this
 exact this
open Classical in
noncomputable def leastI (args : Array Value) (s : St) : CallOut :=
 if h : ∃ p : Value × St, Ever args s p.1 p.2 then .ret h.choose.1 h.choose.2 else .stuck
theorem leastI_eq {args : Array Value} {s : St} {v : Value} {s' : St} (h : Ever args s v s') : leastI args s = .ret v s' := by
 have hx : ∃ p : Value × St, Ever args s p.1 p.2 := ⟨(v, s'), h⟩
 unfold leastI
 rw [dif_pos hx]
 obtain ⟨e1, e2⟩ := ever_one hx.choose_spec h
 rw [e1, e2]
theorem plain_none : Plain ym := fun _ _ _ _ _ => rfl
theorem preN : codeN 78 yO = true := by kernel_rfl
theorem tailN : codeN 78 leastTail = true := by kernel_rfl
theorem resN : Tryz.f12.results.toList.all (resultB 78) = true := by kernel_rfl
theorem keys_ents : ∀ (E : List Ent) (i : Nat), keysL (ents i E) i = some (ys E)
 | [], _ => rfl
 | e :: E, i => by simp only [ents, keysL, keys_ents E (i + 1), Nat.beq_refl]; rfl
theorem insI_perm (x : Int) : ∀ l, (insI x l).Perm (x :: l)
 | [] => .refl _
 | y :: l => by
  simp only [insI]
  split
  ·exact .refl _
  ·exact (List.Perm.cons y (insI_perm x l)).trans (List.Perm.swap _ _ _)
theorem yX : ∀ l, (yp l).Perm l
 | [] => .refl _
 | x :: l => (insI_perm x (yp l)).trans ((yX l).cons x)
theorem ents_len : ∀ (E : List Ent) (i : Nat), (ents i E).length = E.length
 | [], _ => rfl
 | e :: E, i => by simp only [ents, List.length_cons, ents_len E (i + 1)]
theorem _root_.Go.M.HL.skip {W : List Nat} {s0 s : St} {L : Hp'} {n : Nat} (H : HL W s0 s L n) (k : Nat) : HL W s0 { s with next := s.next + k } L (n + k) :=
 ⟨H.bar, H.prot, H.wfb, H.wfp, by have := H.le; simp only; omega, by have := H.most; simp only; omega, fun p hp => by
  obtain ⟨h1, h2, h3, h4⟩ := H.own p hp
  exact ⟨h1, by simp only; omega, h3, h4⟩, H.dist, H.kept⟩
theorem seg_ok {s s1 : St} {b16 bK r b10 n0 : Nat} {E : List Ent} (H : HL [] s s1 [(b16, .cells [.slice none 0 0, .slice none 0 0] 36), (bK, .cells [.map (some r)] 96), (r, x9 E), (b10, .cells [.slice none 0 0, .slice none 0 0] 36)] n0) (hE : 0 < E.length) (hE2 : E.length < 1000000) (hr : s.next + (n0 + 2 * E.length + 1) ≤ zh) :
  ∃ s2 bS, segS (ptr bK) (ptr b16) s1 = some s2 ∧ HL [] s s2 [(b16, .cells [.slice (some ⟨bS, 0, none⟩) (yp (ys E)).length (2 * E.length + 1), .slice none 0 0] 36), (bS, .cells (z7 (yp (ys E))) 23), (bK, .cells [.map (some r)] 96), (r, x9 E), (b10, .cells [.slice none 0 0, .slice none 0 0] 36)] (n0 + 2 * E.length + 1) := by
 have hm := H.most
 have hmay : s1.may b16 = true := (H.own (b16, .cells [.slice none 0 0, .slice none 0 0] 36) (by simp)).2.2.1
 have hlen : (yp (ys E)).length = E.length := by rw [(yX _).length_eq]; simp [ys]
 have hg := (Nat.blt_eq.mpr (show s1.next + 2 * E.length < 281474976710655 by unfold zh at hr; omega))
 have h1 : Nat.blt 0 E.length = true := Nat.blt_eq.mpr hE
 have h2 : Nat.blt E.length 1000000 = true := Nat.blt_eq.mpr hE2
 have hsz : (⟨ents 0 E⟩ : Array MapEntry).size = E.length := ents_len E 0
 refine ⟨(({ s1 with next := s1.next + 2 * E.length }).new (.cells (z7 (yp (ys E))) 23)).put b16 (some (.cells [.slice (some ⟨s1.next + 2 * E.length, 0, none⟩) (yp (ys E)).length (2 * E.length + 1), .slice none 0 0] 36)), s1.next + 2 * E.length, ?_, ?_⟩
 rotate_left
 ·have H2 := (H.skip (2 * E.length)).new (.cells (z7 (yp (ys E))) 23) (by unfold zh at *; omega)
  have H3 := H2.put1 (.cells [.slice (some ⟨s1.next + 2 * E.length, 0, none⟩) (yp (ys E)).length (2 * E.length + 1), .slice none 0 0] 36) (by omega)
  exact HL.perm H3 (List.Perm.swap _ _ _)
 ·simp only [segS, H.own0, H.own1, H.own2, x9, keys_ents, hsz, hmay, hg, h1, h2, hlen, Nat.beq_refl, Bool.and_self, Go.M.plainCell]
end Go.Proofs.YtdejleegamcioaaGreat
