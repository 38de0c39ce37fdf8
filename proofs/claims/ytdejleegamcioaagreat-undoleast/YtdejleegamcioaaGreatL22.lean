/- Comparisons: what is compared with itself is the same. -/
/- UndoLeast: for every input it returns true, if Least and the examples are as they should be. -/
import Derived.Test.YtdejleegamcioaaGreatL21
namespace Go.Proofs.YtdejleegamcioaaGreat
open Go Go.M

theorem fb151 : funcB Tryz.f151 (Tryz.f151.body.getD .skip) 2 = true := by kernel_rfl
theorem fb89 : funcB Tryz.f89 (Tryz.f89.body.getD .skip) 2 = true := by kernel_rfl
theorem fc151 : funcF Tryz.prog 151 = true := by kernel_rfl
theorem of58_0 : offF Tryz.prog 58 0 = some 0 := by kernel_rfl
theorem of58_1 : offF Tryz.prog 58 1 = some 2 := by kernel_rfl
theorem fb48 : funcB Tryz.f48 (Tryz.f48.body.getD .skip) 2 = true := by kernel_rfl
theorem fc89 : funcF Tryz.prog 89 = true := by kernel_rfl
theorem of60_0 : offF Tryz.prog 60 0 = some 0 := by kernel_rfl
theorem of60_1 : offF Tryz.prog 60 1 = some 4 := by kernel_rfl
theorem fb14 : funcB Tryz.f14 (Tryz.f14.body.getD .skip) 2 = true := by kernel_rfl
theorem fc48 : funcF Tryz.prog 48 = true := by kernel_rfl
theorem fb49 : funcB Tryz.f49 (Tryz.f49.body.getD .skip) 2 = true := by kernel_rfl
theorem fb15 : funcB Tryz.f15 (Tryz.f15.body.getD .skip) 2 = true := by kernel_rfl
theorem fc49 : funcF Tryz.prog 49 = true := by kernel_rfl
theorem fb16 : funcB Tryz.f16 (Tryz.f16.body.getD .skip) 1 = true := by kernel_rfl

/-- The direction of a split can be read in a state. -/
def DirS (s : St) (x : Sp) : Prop := ∃ l1 l2 l3 l4, (SlD s x.s1.v l1 ∧ l1.length ≤ 3) ∧ (SlD s x.s2.v l2 ∧ l2.length ≤ 3) ∧ (SlD s x.s3.v l3 ∧ l3.length ≤ 3) ∧ (SlD s x.s4.v l4 ∧ l4.length ≤ 3)
theorem DirIn.dirS {D : Hp'} {x : Sp} (h : DirIn D x) {W : List Nat} {s0 s : St} {L : Hp'} {n : Nat} (H : HL W s0 s L n) (hs : D ⊆ L) : DirS s x := by
  obtain ⟨_, _, l1, l2, l3, l4, h1, h2, h3, h4⟩ := h
  exact ⟨l1, l2, l3, l4, ⟨h1.1.sl H hs, h1.2⟩, ⟨h2.1.sl H hs, h2.2⟩, ⟨h3.1.sl H hs, h3.2⟩, ⟨h4.1.sl H hs, h4.2⟩⟩
theorem DirS.kept {s s' : St} {x : Sp} {L : Hp'} {n : Nat} (h : DirS s x) (H : HL [] s s' L n) : DirS s' x := by
  obtain ⟨l1, l2, l3, l4, h1, h2, h3, h4⟩ := h
  exact ⟨l1, l2, l3, l4, ⟨h1.1.kept H, h1.2⟩, ⟨h2.1.kept H, h2.2⟩, ⟨h3.1.kept H, h3.2⟩, ⟨h4.1.kept H, h4.2⟩⟩
theorem DirS.same {s : St} {x y : Sp} (h : DirS s y) (e1 : x.s1 = y.s1) (e2 : x.s2 = y.s2) (e3 : x.s3 = y.s3) (e4 : x.s4 = y.s4) : DirS s x := by
  unfold DirS
  rw [e1, e2, e3, e4]
  exact h

set_option maxHeartbeats 4000000 in
set_option maxRecDepth 10000 in
theorem same03_ok {I : Table} (hI : Plain I) {s : St} (hf : Fine s) {n : Bool} {v : Value} {l : List Int} (hl : SlD s v l) (hlen : l.length ≤ 1000000) (hroom : s.next + 2 ≤ limit) :
    ∃ v' s', Rets Tryz.prog I 151 #[.agg ⟨[.bool n, v]⟩, .agg ⟨[.bool n, v]⟩] s v' s' ∧ (v' = .bool true ∧ HL [] s s' [] 2) := by
  have H := hf.hl
  obtain ⟨a, len, cap, rfl, hn⟩ := hl.isSlice
  rw [List.length_map] at hn
  subst hn
  refine call_of 2 (hI 151 (by decide) (by decide)) Tryz.func151 rfl fb151 rfl ?_
  refine cR ?_
  refine oO rfl (op_boxA H rfl (by omega) (fun b2 s1 H => ?_))
  refine oO rfl (op_boxA H rfl (by omega) (fun b3 s2 H => ?_))
  refine oO rfl (aC ?_)
  refine ops_nil ?_
  refine cw_seq ?_
  refine cR ?_
  refine oO rfl (fA of56_0 rfl ?_)
  refine oO rfl (lO sh4 rfl (by exact H.own1) rfl ?_)
  refine oO rfl (fA of56_0 rfl ?_)
  refine oO rfl (lO sh4 rfl (by exact H.own0) rfl ?_)
  refine oO rfl (op_neqb un4 rfl rfl ?_)
  rw [show (!(n == n)) = false by cases n <;> rfl]
  refine oO rfl (mB rfl ?_)
  refine oO rfl (fA of56_1 rfl ?_)
  refine oO rfl (lO sh22 rfl (by exact H.own1) rfl ?_)
  refine oO rfl (op_len un22 rfl rfl rfl ?_)
  refine oO rfl (fA of56_1 rfl ?_)
  refine oO rfl (lO sh22 rfl (by exact H.own0) rfl ?_)
  refine oO rfl (op_len un22 rfl rfl rfl ?_)
  refine oO rfl (op_neq rfl rfl (fun h => False.elim (by exact h rfl)) (fun h => ?_))
  refine oO rfl (k0B rfl rfl ?_)
  refine ops_nil ?_
  refine cE rfl ?_
  refine cw_skip ?_
  refine sN ?_
  refine cw_seq ?_
  refine cR ?_
  refine oO rfl (aC ?_)
  refine ops_nil ?_
  refine cw_block ?_
  refine cw_loop (fun k F s1 => ∃ (G : FF) (i : Nat), F = lay G [(2, ptr b2), (3, ptr b3), (5, .int .i64 (i : Int))] ∧ HL [] s s1 [(b3, .cells [.bool n, .slice a l.length cap] 56), (b2, .cells [.bool n, .slice a l.length cap] 56)] 2 ∧ i ≤ l.length ∧ k = l.length - i) ?_ l.length _ _ ?_
  · rintro k F s1 ⟨G, i, rfl, H, hi, rfl⟩
    refine cw_seq ?_
    refine cR ?_
    refine oO rfl (mI rfl ?_)
    refine oO rfl (fA of56_1 rfl ?_)
    refine oO rfl (lO sh22 rfl (by exact H.own1) rfl ?_)
    refine oO rfl (op_len un22 rfl rfl rfl ?_)
    refine oO rfl (op_lss rfl rfl (fun h => ?_) (fun h => ?_))
    · refine ops_nil ?_
      refine cT rfl ?_
      refine cw_skip ?_
      refine sN ?_
      refine cw_seq ?_
      refine cw_block ?_
      refine cw_dseq [⟨0, 0, .light, [6, 9]⟩, ⟨1, 1, .light, [6, 9]⟩, ⟨2, 0, .light, [1, 6, 9]⟩, ⟨3, 7, .light, [6, 9]⟩, ⟨4, 15, .light, [6, 9]⟩, ⟨5, 0, .light, [1, 4]⟩, ⟨6, 32, .light, [1, 4]⟩, ⟨7, 0, .light, [1, 4, 6]⟩, ⟨8, 224, .light, [1, 4]⟩, ⟨9, 480, .light, [1, 4]⟩, ⟨10, 1023, .light, []⟩] (by kernel_rfl) (by kernel_rfl) ?_
      obtain ⟨b1, oo1, c1, rfl, hg1, hb1, hc1⟩ := (hl.kept H).atD (i := (i : Int)) (k := i) rfl (by omega)
      have hl1 : b1 < limit := Nat.lt_of_lt_of_le hb1 (by have hmo := H.most; (try simp only at hmo); omega)
      refine dL rfl rfl (fA of56_1 rfl ⟨rfl, ?_⟩)
      refine dr_load1 rfl rfl sh22 rfl (by exact H.own1) (by exact H.lim1 (by omega)) rfl ?_
      refine dL rfl rfl (mI rfl ⟨rfl, ?_⟩)
      refine dL rfl rfl (op_indexS el22 rfl rfl (by omega) (by omega) ⟨rfl, ?_⟩)
      refine dr_load1 rfl rfl sh3 rfl hg1 hl1 hc1 ?_
      refine dL rfl rfl (fA of56_1 rfl ⟨rfl, ?_⟩)
      refine dr_load1 rfl rfl sh22 rfl (by exact H.own0) (by exact H.lim0 (by omega)) rfl ?_
      refine dL rfl rfl (mI rfl ⟨rfl, ?_⟩)
      refine dL rfl rfl (op_indexS el22 rfl rfl (by omega) (by omega) ⟨rfl, ?_⟩)
      refine dr_load1 rfl rfl sh3 rfl hg1 hl1 hc1 ?_
      refine dL rfl rfl (op_neq rfl rfl (fun h => False.elim (by exact h rfl)) (fun h => ⟨rfl, ?_⟩))
      refine draw_nil ?_
      refine cE rfl ?_
      refine cw_skip ?_
      refine blk_norm ?_
      refine sN ?_
      refine cG ?_
      refine oO rfl (mI rfl ?_)
      refine oO rfl (op_add rfl rfl (by unfold In64; omega) ?_)
      refine oO rfl (aI rfl ?_)
      refine ops_nil ?_
      refine loop_norm ?_
      exact ⟨l.length - (i + 1), by omega, _, i + 1, slots ⟨rfl, rfl, rfl, trivial⟩, H, by omega, rfl⟩
    · refine ops_nil ?_
      refine cE rfl ?_
      refine cw_exit ?_
      refine seq_exit ?_
      refine loop_exit ?_
      refine blk_here ?_
      refine sN ?_
      refine cR ?_
      refine oO rfl (aC ?_)
      refine ops_nil ?_
      refine cw_ret ?_
      refine ret_end ?_
      refine end_t ?_
      exact ⟨rfl, H.sub (List.nil_sublist _)⟩
  · exact ⟨_, 0, slots ⟨rfl, rfl, rfl, trivial⟩, H, by omega, by omega⟩

set_option maxHeartbeats 4000000 in
set_option maxRecDepth 10000 in
theorem same04_ok {I : Table} (hI : Plain I) {s : St} (hf : Fine s) {n1 n2 : Bool} {a1 a2 : Option Addr} {k1 k2 c1 c2 : Nat} {l1 l2 : List Int} (h1 : SlD s (.slice a1 k1 c1) l1) (h2 : SlD s (.slice a2 k2 c2) l2) (hl1 : l1.length ≤ 3) (hl2 : l2.length ≤ 3) (hroom : s.next + 6 ≤ limit) :
    ∃ v' s', Rets Tryz.prog I 89 #[.agg ⟨[.bool n1, .slice a1 k1 c1, .bool n2, .slice a2 k2 c2]⟩, .agg ⟨[.bool n1, .slice a1 k1 c1, .bool n2, .slice a2 k2 c2]⟩] s v' s' ∧ (v' = .bool true ∧ HL [] s s' [] 6) := by
  have H := hf.hl
  refine call_of 2 (hI 89 (by decide) (by decide)) Tryz.func89 rfl fb89 rfl ?_
  refine cR ?_
  refine oO rfl (op_boxA H rfl (by omega) (fun b2 s1 H => ?_))
  refine oO rfl (op_boxA H rfl (by omega) (fun b3 s2 H => ?_))
  refine oO rfl (aC ?_)
  refine ops_nil ?_
  refine cR ?_
  refine oO rfl (fA of58_0 rfl ?_)
  refine oO rfl (lN sh56 rfl (by exact H.own1) rfl ?_)
  refine oO rfl (fA of58_0 rfl ?_)
  refine oO rfl (lN sh56 rfl (by exact H.own0) rfl ?_)
  refine oO rfl (oC rfl fc151 rfl ?_)
  obtain ⟨_, s9, hr, rfl, Hc⟩ := same03_ok hI H.fine (h1.kept H) (by omega) (by have := H.most; omega)
  refine ⟨_, _, hr, ?_⟩
  clear hr
  have H := H.call0 Hc
  clear Hc
  refine oO rfl (mB rfl ?_)
  refine oO rfl (fA of58_1 rfl ?_)
  refine oO rfl (lN sh56 rfl (by exact H.own1) rfl ?_)
  refine oO rfl (fA of58_1 rfl ?_)
  refine oO rfl (lN sh56 rfl (by exact H.own0) rfl ?_)
  refine oO rfl (oC rfl fc151 rfl ?_)
  obtain ⟨_, s9, hr, rfl, Hc⟩ := same03_ok hI H.fine (h2.kept H) (by omega) (by have := H.most; omega)
  refine ⟨_, _, hr, ?_⟩
  clear hr
  have H := H.call0 Hc
  clear Hc
  refine oO rfl (k1B rfl rfl ?_)
  refine oO rfl (aB rfl ?_)
  refine ops_nil ?_
  refine cw_ret ?_
  refine ret_end ?_
  refine end_t ?_
  exact ⟨rfl, H.sub (List.nil_sublist _)⟩

set_option maxHeartbeats 4000000 in
set_option maxRecDepth 10000 in
theorem same27_ok {I : Table} (hI : Plain I) {s : St} (hf : Fine s) {x : Sp} (hd : DirS s x) (hroom : s.next + 14 ≤ limit) :
    ∃ v' s', Rets Tryz.prog I 48 #[.agg ⟨x.cells⟩, .agg ⟨x.cells⟩] s v' s' ∧ (v' = .bool true ∧ HL [] s s' [] 14) := by
  have H := hf.hl
  obtain ⟨l1, l2, l3, l4, d11, d12, d21, d22⟩ := hd
  refine call_of 2 (hI 48 (by decide) (by decide)) Tryz.func48 rfl fb48 rfl ?_
  refine cR ?_
  refine oO rfl (op_boxA H rfl (by omega) (fun b2 s1 H => ?_))
  refine oO rfl (op_boxA H rfl (by omega) (fun b3 s2 H => ?_))
  refine oO rfl (aC ?_)
  refine ops_nil ?_
  refine cR ?_
  refine oO rfl (fA of62_0 rfl ?_)
  refine oO rfl (lO sh23 rfl (by exact H.own1) rfl ?_)
  refine oO rfl (fA of62_0 rfl ?_)
  refine oO rfl (lO sh23 rfl (by exact H.own0) rfl ?_)
  refine oO rfl (op_eql rfl rfl (fun h => ?_) (fun h => False.elim (by exact h rfl)))
  refine oO rfl (mB rfl ?_)
  refine oO rfl (fA of62_1 rfl ?_)
  refine oO rfl (lO sh23 rfl (by exact H.own1) rfl ?_)
  refine oO rfl (fA of62_1 rfl ?_)
  refine oO rfl (lO sh23 rfl (by exact H.own0) rfl ?_)
  refine oO rfl (op_eql rfl rfl (fun h => ?_) (fun h => False.elim (by exact h rfl)))
  refine oO rfl (k1B rfl rfl ?_)
  refine oO rfl (mB rfl ?_)
  refine oO rfl (fA of62_2 rfl ?_)
  refine oO rfl (fA of60_0 rfl ?_)
  refine oO rfl (lN sh58 rfl (by exact H.own1) rfl ?_)
  refine oO rfl (fA of62_2 rfl ?_)
  refine oO rfl (fA of60_0 rfl ?_)
  refine oO rfl (lN sh58 rfl (by exact H.own0) rfl ?_)
  refine oO rfl (oC rfl fc89 rfl ?_)
  obtain ⟨_, s9, hr, rfl, Hc⟩ := same04_ok hI H.fine (d11.1.kept H) (d12.1.kept H) d11.2 d12.2 (by have := H.most; omega)
  refine ⟨_, _, hr, ?_⟩
  clear hr
  have H := H.call0 Hc
  clear Hc
  refine oO rfl (k1B rfl rfl ?_)
  refine oO rfl (mB rfl ?_)
  refine oO rfl (fA of62_2 rfl ?_)
  refine oO rfl (fA of60_1 rfl ?_)
  refine oO rfl (lN sh58 rfl (by exact H.own1) rfl ?_)
  refine oO rfl (fA of62_2 rfl ?_)
  refine oO rfl (fA of60_1 rfl ?_)
  refine oO rfl (lN sh58 rfl (by exact H.own0) rfl ?_)
  refine oO rfl (oC rfl fc89 rfl ?_)
  obtain ⟨_, s9, hr, rfl, Hc⟩ := same04_ok hI H.fine (d21.1.kept H) (d22.1.kept H) d21.2 d22.2 (by have := H.most; omega)
  refine ⟨_, _, hr, ?_⟩
  clear hr
  have H := H.call0 Hc
  clear Hc
  refine oO rfl (k1B rfl rfl ?_)
  refine oO rfl (aB rfl ?_)
  refine ops_nil ?_
  refine cw_ret ?_
  refine ret_end ?_
  refine end_t ?_
  exact ⟨rfl, H.sub (List.nil_sublist _)⟩

set_option maxHeartbeats 4000000 in
set_option maxRecDepth 10000 in
theorem sameAll_ok {I : Table} (hI : Plain I) {s : St} (hf : Fine s) {v1 v2 : Value} {l : List Sp} (h1 : Sl s 62 10 v1 (l.map Sp.cells)) (h2 : Sl s 62 10 v2 (l.map Sp.cells)) (hd : ∀ x ∈ l, DirS s x) (hlen : l.length ≤ 1000000) (hroom : s.next + 14 * l.length ≤ limit) :
    ∃ v' s', Rets Tryz.prog I 14 #[v1, v2] s v' s' ∧ (v' = .bool true ∧ HL [] s s' [] (14 * l.length)) := by
  have H := hf.hl
  obtain ⟨a1, n1, c1, rfl, hn1⟩ := h1.isSlice
  rw [List.length_map] at hn1
  subst hn1
  obtain ⟨a2, n2, c2, rfl, hn2⟩ := h2.isSlice
  rw [List.length_map] at hn2
  subst hn2
  refine call_of 2 (hI 14 (by decide) (by decide)) Tryz.func14 rfl fb14 rfl ?_
  refine cR ?_
  refine oO rfl (aC ?_)
  refine ops_nil ?_
  refine cw_seq ?_
  refine cR ?_
  refine oO rfl (mS rfl ?_)
  refine oO rfl (op_len un25 rfl rfl rfl ?_)
  refine oO rfl (mS rfl ?_)
  refine oO rfl (op_len un25 rfl rfl rfl ?_)
  refine oO rfl (op_neq rfl rfl (fun h => False.elim (by exact h rfl)) (fun h => ?_))
  refine ops_nil ?_
  refine cE rfl ?_
  refine cw_skip ?_
  refine sN ?_
  refine cw_seq ?_
  refine cR ?_
  refine oO rfl (aC ?_)
  refine ops_nil ?_
  refine cw_block ?_
  refine cw_loop (fun k F s1 => ∃ (G : FF) (i : Nat), F = lay G [(0, .slice a1 l.length c1), (1, .slice a2 l.length c2), (5, .int .i64 (i : Int))] ∧ HL [] s s1 [] (14 * i) ∧ i ≤ l.length ∧ k = l.length - i) ?_ l.length _ _ ?_
  · rintro k F s1 ⟨G, i, rfl, H, hi, rfl⟩
    refine cw_seq ?_
    refine cR ?_
    refine oO rfl (mI rfl ?_)
    refine oO rfl (mS rfl ?_)
    refine oO rfl (op_len un25 rfl rfl rfl ?_)
    refine oO rfl (op_lss rfl rfl (fun h => ?_) (fun h => ?_))
    · refine ops_nil ?_
      refine cT rfl ?_
      refine cw_skip ?_
      refine sN ?_
      refine cw_seq ?_
      refine cw_block ?_
      refine cw_dseq [⟨0, 0, .light, [7]⟩, ⟨1, 0, .light, [7]⟩, ⟨2, 3, .light, [7]⟩, ⟨3, 7, .light, [7]⟩, ⟨4, 0, .light, [3]⟩, ⟨5, 0, .light, [3]⟩, ⟨6, 48, .light, [3]⟩, ⟨7, 112, .light, [3]⟩, ⟨8, 255, .whole, []⟩, ⟨9, 511, .light, []⟩] (by kernel_rfl) (by kernel_rfl) ?_
      obtain ⟨b1, oo1, d1, rfl, hg1, hb1, hc1⟩ := (h1.kept H).atS (i := (i : Int)) (k := i) rfl (by omega)
      have hl1 : b1 < limit := Nat.lt_of_lt_of_le hb1 (by have hmo := H.most; (try simp only at hmo); omega)
      obtain ⟨b2, oo2, d2, rfl, hg2, hb2, hc2⟩ := (h2.kept H).atS (i := (i : Int)) (k := i) rfl (by omega)
      have hl2 : b2 < limit := Nat.lt_of_lt_of_le hb2 (by have hmo := H.most; (try simp only at hmo); omega)
      refine dL rfl rfl (mS rfl ⟨rfl, ?_⟩)
      refine dL rfl rfl (mI rfl ⟨rfl, ?_⟩)
      refine dL rfl rfl (op_indexS el25 rfl rfl (by omega) (by omega) ⟨rfl, ?_⟩)
      refine dr_loadN rfl rfl sh62 rfl hg1 hl1 hc1 ?_
      refine dL rfl rfl (mS rfl ⟨rfl, ?_⟩)
      refine dL rfl rfl (mI rfl ⟨rfl, ?_⟩)
      refine dL rfl rfl (op_indexS el25 rfl rfl (by omega) (by omega) ⟨rfl, ?_⟩)
      refine dr_loadN rfl rfl sh62 rfl hg2 hl2 hc2 ?_
      refine dW rfl rfl (oC rfl fc48 rfl ?_)
      obtain ⟨_, s9, hr, rfl, Hc⟩ := same27_ok (x := l.getD i default) hI H.fine ((hd _ (getD_mem (by omega))).kept H) (by have hmo := H.most; (try simp only at hmo); show _ + _ ≤ _; (try simp only); omega)
      refine ⟨_, _, hr, ?_⟩
      clear hr
      have H := H.call0 (HL.wider H.fine (Nat.le_refl _) (fun _ h => h) Hc)
      clear Hc
      refine dL rfl rfl (op_not rfl ⟨rfl, ?_⟩)
      refine draw_nil ?_
      refine cE rfl ?_
      refine cw_skip ?_
      refine blk_norm ?_
      refine sN ?_
      refine cG ?_
      refine oO rfl (mI rfl ?_)
      refine oO rfl (op_add rfl rfl (by unfold In64; omega) ?_)
      refine oO rfl (aI rfl ?_)
      refine ops_nil ?_
      refine loop_norm ?_
      exact ⟨l.length - (i + 1), by omega, _, i + 1, slots ⟨rfl, rfl, rfl, trivial⟩, H.up (by omega), by omega, rfl⟩
    · refine ops_nil ?_
      refine cE rfl ?_
      refine cw_exit ?_
      refine seq_exit ?_
      refine loop_exit ?_
      refine blk_here ?_
      refine sN ?_
      refine cR ?_
      refine oO rfl (aC ?_)
      refine ops_nil ?_
      refine cw_ret ?_
      refine ret_end ?_
      refine end_t ?_
      exact ⟨rfl, H.up (by omega)⟩
  · exact ⟨_, 0, slots ⟨rfl, rfl, rfl, trivial⟩, H, by omega, by omega⟩

set_option maxHeartbeats 4000000 in
set_option maxRecDepth 10000 in
theorem sameInts_ok {I : Table} (hI : Plain I) {s : St} (hf : Fine s) {v1 v2 : Value} {l : List Int} (h1 : Sl s 3 1 v1 (l.map dc)) (h2 : Sl s 3 1 v2 (l.map dc)) (hlen : l.length ≤ 1000000) (hroom : s.next ≤ limit) :
    ∃ v' s', Rets Tryz.prog I 49 #[v1, v2] s v' s' ∧ (v' = .bool true ∧ HL [] s s' [] 0) := by
  have H := hf.hl
  obtain ⟨a1, n1, c1, rfl, hn1⟩ := h1.isSlice
  rw [List.length_map] at hn1
  subst hn1
  obtain ⟨a2, n2, c2, rfl, hn2⟩ := h2.isSlice
  rw [List.length_map] at hn2
  subst hn2
  refine call_of 2 (hI 49 (by decide) (by decide)) Tryz.func49 rfl fb49 rfl ?_
  refine cR ?_
  refine oO rfl (aC ?_)
  refine ops_nil ?_
  refine cw_seq ?_
  refine cR ?_
  refine oO rfl (mS rfl ?_)
  refine oO rfl (op_len un22 rfl rfl rfl ?_)
  refine oO rfl (mS rfl ?_)
  refine oO rfl (op_len un22 rfl rfl rfl ?_)
  refine oO rfl (op_neq rfl rfl (fun h => False.elim (by exact h rfl)) (fun h => ?_))
  refine ops_nil ?_
  refine cE rfl ?_
  refine cw_skip ?_
  refine sN ?_
  refine cw_seq ?_
  refine cR ?_
  refine oO rfl (aC ?_)
  refine ops_nil ?_
  refine cw_block ?_
  refine cw_loop (fun k F s1 => ∃ (G : FF) (i : Nat), F = lay G [(0, .slice a1 l.length c1), (1, .slice a2 l.length c2), (5, .int .i64 (i : Int))] ∧ HL [] s s1 [] 0 ∧ i ≤ l.length ∧ k = l.length - i) ?_ l.length _ _ ?_
  · rintro k F s1 ⟨G, i, rfl, H, hi, rfl⟩
    refine cw_seq ?_
    refine cR ?_
    refine oO rfl (mI rfl ?_)
    refine oO rfl (mS rfl ?_)
    refine oO rfl (op_len un22 rfl rfl rfl ?_)
    refine oO rfl (op_lss rfl rfl (fun h => ?_) (fun h => ?_))
    · refine ops_nil ?_
      refine cT rfl ?_
      refine cw_skip ?_
      refine sN ?_
      refine cw_seq ?_
      refine cw_block ?_
      refine cw_dseq [⟨0, 0, .light, [7]⟩, ⟨1, 0, .light, [7]⟩, ⟨2, 3, .light, [7]⟩, ⟨3, 7, .light, [7]⟩, ⟨4, 0, .light, [3]⟩, ⟨5, 0, .light, [3]⟩, ⟨6, 48, .light, [3]⟩, ⟨7, 112, .light, [3]⟩, ⟨8, 255, .light, []⟩] (by kernel_rfl) (by kernel_rfl) ?_
      obtain ⟨b1, oo1, d1, rfl, hg1, hb1, hc1⟩ := (h1.kept H).atD (i := (i : Int)) (k := i) rfl (by omega)
      have hl1 : b1 < limit := Nat.lt_of_lt_of_le hb1 (by have hmo := H.most; (try simp only at hmo); omega)
      obtain ⟨b2, oo2, d2, rfl, hg2, hb2, hc2⟩ := (h2.kept H).atD (i := (i : Int)) (k := i) rfl (by omega)
      have hl2 : b2 < limit := Nat.lt_of_lt_of_le hb2 (by have hmo := H.most; (try simp only at hmo); omega)
      refine dL rfl rfl (mS rfl ⟨rfl, ?_⟩)
      refine dL rfl rfl (mI rfl ⟨rfl, ?_⟩)
      refine dL rfl rfl (op_indexS el22 rfl rfl (by omega) (by omega) ⟨rfl, ?_⟩)
      refine dr_load1 rfl rfl sh3 rfl hg1 hl1 hc1 ?_
      refine dL rfl rfl (mS rfl ⟨rfl, ?_⟩)
      refine dL rfl rfl (mI rfl ⟨rfl, ?_⟩)
      refine dL rfl rfl (op_indexS el22 rfl rfl (by omega) (by omega) ⟨rfl, ?_⟩)
      refine dr_load1 rfl rfl sh3 rfl hg2 hl2 hc2 ?_
      refine dL rfl rfl (op_neq rfl rfl (fun h => False.elim (by exact h rfl)) (fun h => ⟨rfl, ?_⟩))
      refine draw_nil ?_
      refine cE rfl ?_
      refine cw_skip ?_
      refine blk_norm ?_
      refine sN ?_
      refine cG ?_
      refine oO rfl (mI rfl ?_)
      refine oO rfl (op_add rfl rfl (by unfold In64; omega) ?_)
      refine oO rfl (aI rfl ?_)
      refine ops_nil ?_
      refine loop_norm ?_
      exact ⟨l.length - (i + 1), by omega, _, i + 1, slots ⟨rfl, rfl, rfl, trivial⟩, H, by omega, rfl⟩
    · refine ops_nil ?_
      refine cE rfl ?_
      refine cw_exit ?_
      refine seq_exit ?_
      refine loop_exit ?_
      refine blk_here ?_
      refine sN ?_
      refine cR ?_
      refine oO rfl (aC ?_)
      refine ops_nil ?_
      refine cw_ret ?_
      refine ret_end ?_
      refine end_t ?_
      exact ⟨rfl, H⟩
  · exact ⟨_, 0, slots ⟨rfl, rfl, rfl, trivial⟩, H, by omega, by omega⟩

set_option maxHeartbeats 4000000 in
set_option maxRecDepth 10000 in
theorem sameLevels_ok {I : Table} (hI : Plain I) {s : St} (hf : Fine s) {a1 a2 a3 a4 : Option Addr} {c1 c2 c3 c4 : Nat} {ks ns : List Int} (h1 : Sl s 23 1 (.slice a1 ks.length c1) (ks.map dc)) (h2 : Sl s 3 1 (.slice a2 ns.length c2) (ns.map dc)) (h3 : Sl s 23 1 (.slice a3 ks.length c3) (ks.map dc)) (h4 : Sl s 3 1 (.slice a4 ns.length c4) (ns.map dc)) (hlen : ks.length ≤ 1000000) (hlen2 : ns.length ≤ 1000000) (hroom : s.next + 2 ≤ limit) :
    ∃ v' s', Rets Tryz.prog I 15 #[.agg ⟨[.slice a1 ks.length c1, .slice a2 ns.length c2]⟩, .agg ⟨[.slice a3 ks.length c3, .slice a4 ns.length c4]⟩] s v' s' ∧ (v' = .bool true ∧ HL [] s s' [] 2) := by
  have H := hf.hl
  refine call_of 2 (hI 15 (by decide) (by decide)) Tryz.func15 rfl fb15 rfl ?_
  refine cR ?_
  refine oO rfl (op_boxA H rfl (by omega) (fun b2 s1 H => ?_))
  refine oO rfl (op_boxA H rfl (by omega) (fun b3 s2 H => ?_))
  refine oO rfl (aC ?_)
  refine ops_nil ?_
  refine cw_seq ?_
  refine cR ?_
  refine oO rfl (fA of40_0 rfl ?_)
  refine oO rfl (lO sh31 rfl (by exact H.own1) rfl ?_)
  refine oO rfl (op_len un31 rfl rfl rfl ?_)
  refine oO rfl (fA of40_0 rfl ?_)
  refine oO rfl (lO sh31 rfl (by exact H.own0) rfl ?_)
  refine oO rfl (op_len un31 rfl rfl rfl ?_)
  refine oO rfl (op_neq rfl rfl (fun h => False.elim (by exact h rfl)) (fun h => ?_))
  refine oO rfl (mB rfl ?_)
  refine oO rfl (fA of40_1 rfl ?_)
  refine oO rfl (lO sh22 rfl (by exact H.own1) rfl ?_)
  refine oO rfl (op_len un22 rfl rfl rfl ?_)
  refine oO rfl (fA of40_1 rfl ?_)
  refine oO rfl (lO sh22 rfl (by exact H.own0) rfl ?_)
  refine oO rfl (op_len un22 rfl rfl rfl ?_)
  refine oO rfl (op_neq rfl rfl (fun h => False.elim (by exact h rfl)) (fun h => ?_))
  refine oO rfl (k0B rfl rfl ?_)
  refine ops_nil ?_
  refine cE rfl ?_
  refine cw_skip ?_
  refine sN ?_
  refine cw_seq ?_
  refine cR ?_
  refine oO rfl (aC ?_)
  refine ops_nil ?_
  refine cw_block ?_
  refine cw_loop (fun k F s1 => ∃ (G : FF) (i : Nat), F = lay G [(2, ptr b2), (3, ptr b3), (5, .int .i64 (i : Int))] ∧ HL [] s s1 [(b3, .cells [.slice a3 ks.length c3, .slice a4 ns.length c4] 40), (b2, .cells [.slice a1 ks.length c1, .slice a2 ns.length c2] 40)] 2 ∧ i ≤ ks.length ∧ k = ks.length - i) ?_ ks.length _ _ ?_
  · rintro k F s1 ⟨G, i, rfl, H, hi, rfl⟩
    refine cw_seq ?_
    refine cR ?_
    refine oO rfl (mI rfl ?_)
    refine oO rfl (fA of40_0 rfl ?_)
    refine oO rfl (lO sh31 rfl (by exact H.own1) rfl ?_)
    refine oO rfl (op_len un31 rfl rfl rfl ?_)
    refine oO rfl (op_lss rfl rfl (fun h => ?_) (fun h => ?_))
    · refine ops_nil ?_
      refine cT rfl ?_
      refine cw_skip ?_
      refine sN ?_
      refine cw_seq ?_
      refine cw_block ?_
      refine cw_dseq [⟨0, 0, .light, [6, 9]⟩, ⟨1, 1, .light, [6, 9]⟩, ⟨2, 0, .light, [1, 6, 9]⟩, ⟨3, 7, .light, [6, 9]⟩, ⟨4, 15, .light, [6, 9]⟩, ⟨5, 0, .light, [1, 4]⟩, ⟨6, 32, .light, [1, 4]⟩, ⟨7, 0, .light, [1, 4, 6]⟩, ⟨8, 224, .light, [1, 4]⟩, ⟨9, 480, .light, [1, 4]⟩, ⟨10, 1023, .light, []⟩] (by kernel_rfl) (by kernel_rfl) ?_
      obtain ⟨b1, oo1, d1, rfl, hg1, hb1, hc1⟩ := (h1.kept H).atD (i := (i : Int)) (k := i) rfl (by omega)
      have hl1 : b1 < limit := Nat.lt_of_lt_of_le hb1 (by have hmo := H.most; (try simp only at hmo); omega)
      obtain ⟨e3, oo3, d3, rfl, hg3, hb3, hc3⟩ := (h3.kept H).atD (i := (i : Int)) (k := i) rfl (by omega)
      have hl3 : e3 < limit := Nat.lt_of_lt_of_le hb3 (by have hmo := H.most; (try simp only at hmo); omega)
      refine dL rfl rfl (fA of40_0 rfl ⟨rfl, ?_⟩)
      refine dr_load1 rfl rfl sh31 rfl (by exact H.own1) (by exact H.lim1 (by omega)) rfl ?_
      refine dL rfl rfl (mI rfl ⟨rfl, ?_⟩)
      refine dL rfl rfl (op_indexS el31 rfl rfl (by omega) (by omega) ⟨rfl, ?_⟩)
      refine dr_load1 rfl rfl sh23 rfl hg1 hl1 hc1 ?_
      refine dL rfl rfl (fA of40_0 rfl ⟨rfl, ?_⟩)
      refine dr_load1 rfl rfl sh31 rfl (by exact H.own0) (by exact H.lim0 (by omega)) rfl ?_
      refine dL rfl rfl (mI rfl ⟨rfl, ?_⟩)
      refine dL rfl rfl (op_indexS el31 rfl rfl (by omega) (by omega) ⟨rfl, ?_⟩)
      refine dr_load1 rfl rfl sh23 rfl hg3 hl3 hc3 ?_
      refine dL rfl rfl (op_neq rfl rfl (fun h => False.elim (by exact h rfl)) (fun h => ⟨rfl, ?_⟩))
      refine draw_nil ?_
      refine cE rfl ?_
      refine cw_skip ?_
      refine blk_norm ?_
      refine sN ?_
      refine cG ?_
      refine oO rfl (mI rfl ?_)
      refine oO rfl (op_add rfl rfl (by unfold In64; omega) ?_)
      refine oO rfl (aI rfl ?_)
      refine ops_nil ?_
      refine loop_norm ?_
      exact ⟨ks.length - (i + 1), by omega, _, i + 1, slots ⟨rfl, rfl, rfl, trivial⟩, H, by omega, rfl⟩
    · refine ops_nil ?_
      refine cE rfl ?_
      refine cw_exit ?_
      refine seq_exit ?_
      refine loop_exit ?_
      refine blk_here ?_
      refine sN ?_
      refine cR ?_
      refine oO rfl (fA of40_1 rfl ?_)
      refine oO rfl (lO sh22 rfl (by exact H.own1) rfl ?_)
      refine oO rfl (fA of40_1 rfl ?_)
      refine oO rfl (lO sh22 rfl (by exact H.own0) rfl ?_)
      refine oO rfl (oC rfl fc49 rfl ?_)
      obtain ⟨_, s9, hr, rfl, Hc⟩ := sameInts_ok hI H.fine (h2.kept H) (h4.kept H) (by omega) (by have := H.most; omega)
      refine ⟨_, _, hr, ?_⟩
      clear hr
      have H := H.call0 Hc
      clear Hc
      refine oO rfl (aB rfl ?_)
      refine ops_nil ?_
      refine cw_ret ?_
      refine ret_end ?_
      refine end_t ?_
      exact ⟨rfl, H.sub (List.nil_sublist _)⟩
  · exact ⟨_, 0, slots ⟨rfl, rfl, rfl, trivial⟩, H, by omega, by omega⟩

set_option maxHeartbeats 4000000 in
set_option maxRecDepth 10000 in
theorem plain_ok {I : Table} (hI : Plain I) {s : St} (hf : Fine s) {a1 a2 : Option Addr} {n1 n2 c1 c2 : Nat} (hroom : s.next + 2 ≤ limit) :
    ∃ v' s', Rets Tryz.prog I 16 #[.agg ⟨[.slice a1 n1 c1, .slice a2 n2 c2]⟩] s v' s' ∧ (v' = .agg ⟨[.slice a1 n1 c1, .slice a2 n2 c2]⟩ ∧ HL [] s s' [] 2) := by
  have H := hf.hl
  refine call_of 1 (hI 16 (by decide) (by decide)) Tryz.func16 rfl fb16 rfl ?_
  refine cR ?_
  refine oO rfl (op_boxA H rfl (by omega) (fun b1 s1 H => ?_))
  refine oO rfl (op_alloc H zf40 (by omega) (fun b2 s2 H => ?_))
  refine ops_nil ?_
  refine cR ?_
  refine oO rfl (fA of36_0 rfl ?_)
  refine oO rfl (lO sh31 rfl (by exact H.own1) rfl ?_)
  refine oO rfl (fA of36_1 rfl ?_)
  refine oO rfl (lO sh22 rfl (by exact H.own1) rfl ?_)
  refine oO rfl (op_build (c := [.slice _ _ _, .slice _ _ _]) bf40 rfl ?_)
  refine oO rfl (op_store0 (vs := [.slice _ _ _, .slice _ _ _]) H sz40 rfl rfl rfl rfl rfl (by omega) (fun s3 H => ?_))
  refine ops_nil ?_
  refine cw_ret ?_
  refine ret_end ?_
  refine end_cell sh40 rfl (by exact H.own0) rfl ?_
  exact ⟨rfl, H.sub (List.nil_sublist _)⟩

end Go.Proofs.YtdejleegamcioaaGreat
namespace Go.Proofs.YtdejleegamcioaaGreat
open Go Go.M

theorem el32 : elemF Tryz.prog 32 = some (true, 0, 1) := by kernel_rfl
theorem el34 : elemF Tryz.prog 34 = some (true, 0, 1) := by kernel_rfl
theorem fb3 : funcB Tryz.f3 (Tryz.f3.body.getD .skip) 4 = true := by kernel_rfl
theorem fc11 : funcF Tryz.prog 11 = true := by kernel_rfl
theorem fc12 : funcF Tryz.prog 12 = true := by kernel_rfl
theorem fc13 : funcF Tryz.prog 13 = true := by kernel_rfl
theorem fc14 : funcF Tryz.prog 14 = true := by kernel_rfl
theorem fc15 : funcF Tryz.prog 15 = true := by kernel_rfl
theorem fc16 : funcF Tryz.prog 16 = true := by kernel_rfl
theorem fc17 : funcF Tryz.prog 17 = true := by kernel_rfl
theorem fc9 : funcF Tryz.prog 9 = true := by kernel_rfl
theorem sl32 : sliceF Tryz.prog 32 = some (24, 1, 24, [.slice none 0 0]) := by kernel_rfl
theorem sl34 : sliceF Tryz.prog 34 = some (25, 1, 24, [.slice none 0 0]) := by kernel_rfl

theorem lover_all : ∀ {y x r : List Value}, y.length = x.length → lover y (x ++ r) = some (y ++ r)
  | [], [], r, _ => rfl
  | [], _ :: _, _, h => by simp at h
  | _ :: _, [], _, h => by simp at h
  | v :: y, a :: x, r, h => by
    simp only [List.cons_append, lover]
    rw [lover_all (by simpa using h)]
theorem lput_skip : ∀ {x : List Value} {n : Nat} {y r q : List Value}, lput n y r = some q → lput (x.length + n) y (x ++ r) = some (x ++ q)
  | [], n, y, r, q, h => by simpa using h
  | a :: x, n, y, r, q, h => by
    have e : (a :: x).length + n = (x.length + n) + 1 := by simp; omega
    rw [e, List.cons_append, lput, lput_skip h]
    rfl
theorem flat_put {sz : Nat} : ∀ {es : List (List Value)} {k : Nat} {y : List Value}, (∀ x ∈ es, x.length = sz) → y.length = sz → k < es.length → lput (k * sz) y es.flatten = some (es.set k y).flatten
  | [], _, _, _, _, h => by simp at h
  | x :: es, 0, y, hx, hy, _ => by
    rw [Nat.zero_mul, List.flatten_cons, List.set_cons_zero, List.flatten_cons]
    have := lover_all (y := y) (x := x) (r := es.flatten) (by rw [hy, hx x (by simp)])
    cases hc : (x ++ es.flatten) with
    | nil => rw [hc] at this; simpa [lput] using this
    | cons a l => rw [hc] at this; simpa [lput] using this
  | x :: es, k + 1, y, hx, hy, hk => by
    have h1 := flat_put (es := es) (k := k) (fun z hz => hx z (List.mem_cons_of_mem _ hz)) hy (by simpa using hk)
    rw [List.flatten_cons, List.set_cons_succ, List.flatten_cons, Nat.add_mul, Nat.one_mul, Nat.add_comm]
    have e := hx x (by simp)
    rw [← e] at h1 ⊢
    exact lput_skip h1
theorem jcs_put {js : List (Int × Int)} {k : Nat} {y : Int × Int} (hk : k < js.length) : lput (0 + ((k : Int)).toNat * 2) [.int .i64 y.1, .int .i64 y.2] ((js.map jc).flatten) = some (((js.set k y).map jc).flatten) := by
  rw [Nat.zero_add, Int.toNat_natCast, List.map_set]
  exact flat_put (sz := 2) (y := jc y) (by intro x hx; obtain ⟨z, _, rfl⟩ := List.mem_map.mp hx; rfl) rfl (by simpa using hk)
theorem open_list {W : List Nat} {s0 s : St} {L : Hp'} {n m : Nat} (H : HL W s0 s L n) (h : n ≤ m) : ∃ LL N, LL = L ∧ N ≤ m ∧ HL W s0 s LL N := ⟨L, n, rfl, h, H⟩
theorem SlG.isSlice {D : Hp'} {e : TypeId} {sz : Nat} {v : Value} {es : List (List Value)} (h : SlG D e sz v es) : ∃ a len cap, v = .slice a len cap ∧ len = es.length := by
  cases h with
  | nil c hv hl => exact ⟨_, _, _, hv, by rw [hl]; rfl⟩
  | block b off cap c hv => exact ⟨_, _, _, hv, rfl⟩
/-- What is read at a place of a list of some. -/
theorem pickL {α : Type} (f : α → Value) (l : List α) {k : Nat} (hk : k < l.length) : ∃ y ∈ l, lget (l.map f) (0 + ((k : Int)).toNat * 1) = some (f y) := by
  refine ⟨l[k], List.getElem_mem hk, ?_⟩
  rw [lget_eq, Nat.zero_add, Nat.mul_one, Int.toNat_natCast, List.getElem?_map, List.getElem?_eq_getElem hk]
  rfl
theorem zeros17 : repL [.int .i64 0, .int .i64 0] 17 = ((List.replicate 17 ((0 : Int), (0 : Int))).map jc).flatten := rfl
/-- The direction of a split can be read in these blocks. -/
def DirX (D : Hp') (x : Sp) : Prop := ∃ l1 l2 l3 l4, SlB D x.s1.v l1 ∧ SlB D x.s2.v l2 ∧ SlB D x.s3.v l3 ∧ SlB D x.s4.v l4
theorem DirX.dirS {D : Hp'} {x : Sp} (h : DirX D x) {W : List Nat} {s0 s : St} {L : Hp'} {n : Nat} (H : HL W s0 s L n) (hs : D ⊆ L) : DirS s x := by
  obtain ⟨l1, l2, l3, l4, h1, h2, h3, h4⟩ := h
  exact ⟨l1, l2, l3, l4, ⟨h1.1.sl H hs, h1.2⟩, ⟨h2.1.sl H hs, h2.2⟩, ⟨h3.1.sl H hs, h3.2⟩, ⟨h4.1.sl H hs, h4.2⟩⟩
theorem DirIn.x {D D' : Hp'} {x : Sp} (h : DirIn D x) (hs : D ⊆ D') : DirX D' x := by
  obtain ⟨_, _, l1, l2, l3, l4, h1, h2, h3, h4⟩ := h
  exact ⟨l1, l2, l3, l4, h1.mono hs, h2.mono hs, h3.mono hs, h4.mono hs⟩
theorem DirX.same {D : Hp'} {x y : Sp} (h : DirX D y) (e1 : x.s1 = y.s1) (e2 : x.s2 = y.s2) (e3 : x.s3 = y.s3) (e4 : x.s4 = y.s4) : DirX D x := by
  unfold DirX
  rw [e1, e2, e3, e4]
  exact h
section
variable {js : List (Int × Int)} {bad : Int} {may : List Sp} {w : Int}
theorem tk_mem (hm : MayOK may) : ∀ (f : Nat) (S : Int), 0 < S → (bb js bad may S).1 < 65536 → ∀ x ∈ tk js bad may f S, x ∈ may
  | 0, _, _, _ => fun x hx => by simp [tk] at hx
  | f + 1, S, h0, hl => fun x hx => by
    rw [tk] at hx
    split at hx
    · next hp =>
      obtain ⟨l1, l2, h1, h2, h3, _⟩ := bb_first (js := js) (bad := bad) hm h0 hp hl
      have hmem : (bb js bad may S).2 ∈ may := List.mem_of_getElem? (at_split h1)
      obtain ⟨ha, hb⟩ := hm _ hmem
      have hs := split_facts ha hb
      rw [h2] at hs
      have r1 := bb_range (js := js) (bad := bad) (may := may) (bb js bad may S).2.p
      have r2 := bb_range (js := js) (bad := bad) (may := may) (andNotI S (bb js bad may S).2.p)
      rcases List.mem_cons.mp hx with e | hx
      · rw [e]; exact hmem
      · rcases List.mem_append.mp hx with hx | hx
        · exact tk_mem hm f _ hs.1 (by omega) x hx
        · exact tk_mem hm f _ hs.2.2.1 (by omega) x hx
    · simp at hx
theorem LIs.small (hin : ∀ x ∈ may, x.p < 9223372036854775808) {o : LOut} (h : LIs js bad may w o) : (∀ x ∈ o.x, x ∈ may) ∧ o.x.length ≤ 65536 ∧ o.ks.length ≤ 65535 ∧ o.ns.length ≤ 65535 := by
  rcases h with ⟨_, h⟩ | ⟨_, _, h⟩ | ⟨h1, h2, h3, h4, h5, h6, _, _⟩
  · rw [h]; simp
  · rw [h]; simp
  · obtain ⟨_, _, hw0, hw1, _, _, hsp, _⟩ := err_zero h1
    have hm : MayOK may := fun x hx => ⟨hsp x hx, hin x hx⟩
    have hl := tk_len (js := js) (bad := bad) hm (w.toNat + 1) w hw0 (by omega) h2
    have hk := rch_len hm hw0 hw1 h3 (fun x hx => (h4 x).mp hx)
    refine ⟨?_, ?_, hk, ?_⟩
    · rw [h6]; exact tk_mem hm _ _ hw0 h2
    · rw [h6]; omega
    · rw [h5, List.length_map]; exact hk
end

set_option maxHeartbeats 4000000 in
set_option maxRecDepth 10000 in
theorem undoLeast_ok {I : Table} (hI : Plain I) (hL : LeastG I) (hV : LivesC I) {s : St} (hf : Fine s) {v : Value} {l : List Int} {how at_ by_ : Int} (hl : SlI s v l) (hin : ∀ x ∈ l, In64 x) (h1 : In64 how) (h2 : In64 at_) (h3 : In64 by_) (hroom : s.next + 100000000000000 ≤ limit) :
    ∃ v' s', Rets Tryz.prog I 3 #[v, .int .i64 how, .int .i64 at_, .int .i64 by_] s v' s' ∧ (v' = .bool true ∧ HL [] s s' [] 100000000000000) := by
  have H := hf.hl
  refine call_of 4 (hI 3 (by decide) (by decide)) Tryz.func3 rfl fb3 rfl ?_
  refine cR ?_
  refine oO rfl (aC ?_)
  refine ops_nil ?_
  refine cR ?_
  refine oO rfl (op_move ?_)
  refine oO rfl (oC rfl fc9 rfl ?_)
  obtain ⟨_, s9, hr, D, DD, sj, sm, js, may, n, w, bad, rfl, Hc, hjG, hmG, hn, hjl, hjr, hbad, hml, hmay⟩ := made_ok hI H.fine (hl.kept H) hin (by have := H.most; omega)
  refine ⟨_, _, hr, ?_⟩
  clear hr
  have H := H.callE Hc
  clear Hc
  try simp only [List.cons_append, List.nil_append, List.append_assoc] at H
  have hmayI : ∀ x ∈ may, In64 x.w ∧ In64 x.p := fun x hx => by have h := (hmay x hx).1; simp only [validB, Bool.and_eq_true, decide_eq_true_eq] at h; unfold In64; omega
  obtain ⟨sja, sjn, sjc⟩ := sj
  have hsn := hjG.slc
  rw [List.length_map] at hsn
  simp only at hsn
  subst hsn
  obtain ⟨sma, smn, smc⟩ := sm
  have hsn := hmG.slc
  rw [List.length_map] at hsn
  simp only at hsn
  subst hsn
  simp only [Slc.v]
  refine oO rfl (op_alloc H zf27 (by omega) (fun b9 s1 H => ?_))
  refine oO rfl (op_store0 (vs := [.int _ _, .slice _ _ _, .int _ _, .slice _ _ _]) H sz27 rfl rfl rfl rfl rfl (by omega) (fun s2 H => ?_))
  refine ops_nil ?_
  refine cR ?_
  refine oO rfl (op_buildSlice (c := []) H sl24 rfl rfl (by omega) (fun b31 s3 H => ?_))
  refine oO rfl (fA of27_1 rfl ?_)
  refine oO rfl (lO sh24 rfl (by exact H.own1) rfl ?_)
  refine oO rfl (op_append00 H sl24 un24 rfl rfl rfl (hjG.sl H (by intro p hp; (try simp only [List.mem_cons, List.mem_append, List.not_mem_nil, or_false] at hp ⊢); first | exact hp | simp only [hp, true_or, or_true])).elemsJ (by omega) (jcs_plain js) (jcs_len js) (by omega) (by omega) (fun b34 s34 H => ?_))
  refine oO rfl (aS rfl ?_)
  refine ops_nil ?_
  refine cR ?_
  refine oO rfl (mI rfl ?_)
  refine oO rfl (mS rfl ?_)
  refine oO rfl (op_len un24 rfl rfl rfl ?_)
  refine oO rfl (oC rfl fc10 rfl ?_)
  obtain ⟨_, _, hr, rfl, rfl⟩ := around_ok (a := at_) (n := (js.length : Int)) hI h2 (by omega)
  refine ⟨_, _, hr, ?_⟩
  clear hr
  have hkr := aroundZ_range (a := at_) (n := (js.length : Int)) (by omega)
  obtain ⟨m, hme⟩ : ∃ m : Nat, aroundZ at_ (js.length : Int) = (m : Int) := ⟨(aroundZ at_ (js.length : Int)).toNat, by omega⟩
  have hm : m < js.length := by omega
  rw [hme]
  refine oO rfl (aI rfl ?_)
  refine ops_nil ?_
  refine cR ?_
  refine oO rfl (mS rfl ?_)
  refine oO rfl (mI rfl ?_)
  refine oO rfl (mI rfl ?_)
  refine oO rfl (mI rfl ?_)
  refine oO rfl (op_build (c := [.int _ _, .int _ _]) bf30 rfl ?_)
  refine oO rfl (op_indexS el24 rfl rfl (by omega) (by omega) ?_)
  refine oO rfl (op_store0 (c' := ((js.set m (by_, how)).map jc).flatten) H sz30 rfl rfl rfl rfl (jcs_put (y := (by_, how)) hm) (by omega) (fun s35 H => ?_))
  refine ops_nil ?_
  refine cR ?_
  refine oO rfl (fA of27_0 rfl ?_)
  refine oO rfl (lO sh23 rfl (by exact H.own1) rfl ?_)
  refine oO rfl (mI rfl ?_)
  refine oO rfl (op_buildSlice (c := [.int _ _, .int _ _]) H sl31 rfl rfl (by omega) (fun b48 s4 H => ?_))
  refine oO rfl (aS rfl ?_)
  refine ops_nil ?_
  refine cw_dseq [⟨0, 0, .light, []⟩, ⟨1, 1, .light, []⟩, ⟨2, 0, .light, [1]⟩, ⟨3, 0, .whole, [1]⟩, ⟨4, 15, .whole, []⟩, ⟨5, 31, .light, []⟩] (by kernel_rfl) (by kernel_rfl) ?_
  refine dL rfl rfl (fA of27_1 rfl ⟨rfl, ?_⟩)
  refine dr_load1 rfl rfl sh24 rfl (by exact H.own2) (by exact H.lim2 (by omega)) rfl ?_
  refine dL rfl rfl (mS rfl ⟨rfl, ?_⟩)
  have Hn := (Fine.narrow (X := [b9]) H.fine (by intro p hp; rw [List.mem_singleton] at hp; rw [hp]; exact H.lt2)).hl
  refine dW rfl rfl (op_makeSlice (a := 17) (b := 17) Hn sl24 rfl rfl (by decide) (by decide) (by have hmo := H.most; (try simp only at hmo); show _ + _ < _; (try simp only); omega) (fun b52 s52 Hc => ?_))
  have H := H.call (HL.wider H.fine (Nat.le_refl _) (fun _ h => List.mem_append_right _ h) Hc)
  clear Hc Hn
  simp only [List.cons_append, List.nil_append] at H
  have Hn := H.fine.hl
  refine dW rfl rfl (op_buildSlice (c := [.slice _ _ _, .slice _ _ _, .slice _ _ _]) Hn sl32 rfl rfl (by have hmo := H.most; (try simp only at hmo); show _ + _ < _; (try simp only); omega) (fun b53 s53 Hc => ?_))
  have H := H.call (HL.wider H.fine (Nat.le_refl _) (fun _ h => h) Hc)
  clear Hc Hn
  simp only [List.cons_append, List.nil_append] at H
  refine dL rfl rfl (aS rfl ⟨rfl, ?_⟩)
  refine draw_nil ?_
  refine cw_dseq [⟨0, 0, .light, [3]⟩, ⟨1, 1, .light, [3]⟩, ⟨2, 0, .light, [1]⟩, ⟨3, 4, .light, [1]⟩, ⟨4, 0, .light, [1, 3]⟩, ⟨5, 0, .light, [1, 3]⟩, ⟨6, 0, .light, [1, 3]⟩, ⟨7, 124, .whole, [1]⟩, ⟨8, 255, .whole, []⟩, ⟨9, 511, .light, []⟩] (by kernel_rfl) (by kernel_rfl) ?_
  refine dL rfl rfl (fA of27_3 rfl ⟨rfl, ?_⟩)
  refine dr_load1 rfl rfl sh25 rfl (by exact H.own4) (by exact H.lim4 (by omega)) rfl ?_
  refine dL rfl rfl (fA of27_3 rfl ⟨rfl, ?_⟩)
  refine dr_load1 rfl rfl sh25 rfl (by exact H.own4) (by exact H.lim4 (by omega)) rfl ?_
  refine dL rfl rfl (mI rfl ⟨rfl, ?_⟩)
  refine dL rfl rfl (mI rfl ⟨rfl, ?_⟩)
  refine dL rfl rfl (mI rfl ⟨rfl, ?_⟩)
  refine dW rfl rfl (oC rfl fc11 rfl ?_)
  obtain ⟨_, s9, hr, D2, DD2, l2, Hc, h2G, hl2, hdir⟩ := bent_ok (l := may) hI (Fine.narrow (X := [b9]) H.fine (by intro p hp; rw [List.mem_singleton] at hp; rw [hp]; exact H.lt4)) (Sl.prot (X := [b9]) (hmG.sl H (by intro p hp; (try simp only [List.mem_cons, List.mem_append, List.not_mem_nil, or_false] at hp ⊢); first | exact hp | simp only [hp, true_or, or_true]))) (by omega) hmayI h1 h2 h3 (by have hmo := H.most; (try simp only at hmo); show _ + _ ≤ _; (try simp only); omega)
  refine ⟨_, _, hr, ?_⟩
  clear hr
  have H := H.callE (HL.wider H.fine (Nat.le_refl _) (fun _ h => List.mem_append_right _ h) Hc)
  clear Hc
  try simp only [List.cons_append, List.nil_append, List.append_assoc] at H
  obtain ⟨l2a, l2n, l2c, rfl, hl2n⟩ := h2G.isSlice
  rw [List.length_map] at hl2n
  subst hl2n
  have Hn := H.fine.hl
  refine dW rfl rfl (op_buildSlice (c := [.slice _ _ _, .slice _ _ _]) Hn sl34 rfl rfl (by have hmo := H.most; (try simp only at hmo); show _ + _ < _; (try simp only); omega) (fun b62 s62 Hc => ?_))
  have H := H.call (HL.wider H.fine (Nat.le_refl _) (fun _ h => h) Hc)
  clear Hc Hn
  simp only [List.cons_append, List.nil_append] at H
  refine dL rfl rfl (aS rfl ⟨rfl, ?_⟩)
  refine draw_nil ?_
  refine cR ?_
  refine oO rfl (fA of27_2 rfl ?_)
  refine oO rfl (lO sh23 rfl (by exact H.own5) rfl ?_)
  refine oO rfl (mI rfl ?_)
  refine oO rfl (op_buildSlice (c := [.int _ _, .int _ _]) H sl31 rfl rfl (by omega) (fun b66 s5 H => ?_))
  refine oO rfl (aS rfl ?_)
  refine ops_nil ?_
  refine cw_seq ?_
  rw [zeros17] at H
  obtain ⟨LL, N0, hLL, hN0, H⟩ := open_list (m := 33000000000000) H (by omega)
  have hm48 : (b48, MObj.cells [.int .i64 w, .int .i64 by_] 23) ∈ LL := by rw [hLL]; simp only [List.mem_cons, true_or, or_true]
  have hm66 : (b66, MObj.cells [.int .i64 bad, .int .i64 how] 23) ∈ LL := by rw [hLL]; simp only [List.mem_cons, true_or, or_true]
  obtain ⟨PJ, hPJe⟩ : ∃ PJ : List (Slc × List (Int × Int)), PJ = [(⟨sja, js.length, sjc⟩, js), (⟨some ⟨b34, 0, none⟩, js.length, 2 * js.length + 1⟩, js.set m (by_, how)), (⟨some ⟨b52, 0, none⟩, 17, 2 * 17⟩, List.replicate 17 (0, 0))] := ⟨_, rfl⟩
  obtain ⟨PM, hPMe⟩ : ∃ PM : List (Slc × List Sp), PM = [(⟨sma, may.length, smc⟩, may), (⟨l2a, l2.length, l2c⟩, l2)] := ⟨_, rfl⟩
  have hPJl : PJ.length = 3 := by rw [hPJe]; rfl
  have hPMl : PM.length = 2 := by rw [hPMe]; rfl
  have hm53 : (b53, MObj.cells (PJ.map (fun p => p.1.v)) 24) ∈ LL := by rw [hLL, hPJe]; simp only [List.map_cons, List.map_nil, Slc.v, List.mem_cons, true_or, or_true]
  have hm62 : (b62, MObj.cells (PM.map (fun p => p.1.v)) 25) ∈ LL := by rw [hLL, hPMe]; simp only [List.map_cons, List.map_nil, Slc.v, List.mem_cons, true_or, or_true]
  have hPJ : ∀ p ∈ PJ, SlG LL 30 2 p.1.v (p.2.map jc) ∧ p.2.length ≤ 4000 := by
    intro p hp
    rw [hPJe] at hp
    simp only [List.mem_cons, List.not_mem_nil, or_false] at hp
    rcases hp with rfl | rfl | rfl
    · exact ⟨hjG.mono (by rw [hLL]; intro p hp; simp only [List.mem_cons, List.mem_append, hp, true_or, or_true]), by simp only; omega⟩
    · refine ⟨?_, by simp only [List.length_set]; omega⟩
      have hg := jcsG (b := b34) (cap := 2 * js.length + 1) (l := js.set m (by_, how)) (by simp only [List.length_set]; omega)
      rw [List.length_set] at hg
      exact hg.mono (by rw [hLL]; intro p hp; rw [List.mem_singleton] at hp; subst hp; simp only [List.mem_cons, true_or, or_true])
    · refine ⟨?_, by simp⟩
      have hg := jcsG (b := b52) (cap := 2 * 17) (l := List.replicate 17 ((0 : Int), (0 : Int))) (by simp)
      rw [List.length_replicate] at hg
      exact hg.mono (by rw [hLL]; intro p hp; rw [List.mem_singleton] at hp; subst hp; simp only [List.mem_cons, true_or, or_true])
  have hPM : ∀ p ∈ PM, SlG LL 62 10 p.1.v (p.2.map Sp.cells) ∧ p.2.length ≤ 15 ∧ ∀ x ∈ p.2, x.p < 9223372036854775808 ∧ DirX LL x := by
    intro p hp
    rw [hPMe] at hp
    simp only [List.mem_cons, List.not_mem_nil, or_false] at hp
    have hDD : DD ⊆ LL := by rw [hLL]; intro p hp; simp only [List.mem_cons, List.mem_append, hp, true_or, or_true]
    have hDD2 : DD2 ⊆ LL := by rw [hLL]; intro p hp; simp only [List.mem_cons, List.mem_append, hp, true_or, or_true]
    rcases hp with rfl | rfl
    · refine ⟨hmG.mono (by rw [hLL]; intro p hp; simp only [List.mem_cons, List.mem_append, hp, true_or, or_true]), by simp only; omega, fun x hx => ⟨?_, (hmay x hx).2.x hDD⟩⟩
      have := (hmayI x hx).2.2
      omega
    · refine ⟨h2G.mono (by rw [hLL]; intro p hp; simp only [List.mem_cons, List.mem_append, hp, true_or, or_true]), by simp only; omega, fun x hx => ?_⟩
      obtain ⟨hi, hd⟩ := hdir x hx
      refine ⟨by have := hi.2.2; omega, ?_⟩
      rcases hd with hd | ⟨y, hy, e1, e2, e3, e4, _, _⟩
      · exact hd.x hDD2
      · exact ((hmay y hy).2.x hDD).same e1 e2 e3 e4
  clear hLL hPJe hPMe
  refine cR ?_
  refine oO rfl (aC ?_)
  refine ops_nil ?_
  refine cw_block ?_
  refine cw_loop (fun k F s1 => ∃ (G : FF) (i : Nat), F = lay G [(12, .slice (some ⟨b48, 0, none⟩) 2 (2 * 2)), (13, .slice (some ⟨b53, 0, none⟩) 3 (2 * 3)), (14, .slice (some ⟨b62, 0, none⟩) 2 (2 * 2)), (15, .slice (some ⟨b66, 0, none⟩) 2 (2 * 2)), (16, .int .i64 (i : Int))] ∧ HL [] s s1 LL (N0 + 2102104000000 * i) ∧ i ≤ 12 ∧ k = 12 - i) ?_ 12 _ _ ?_
  · rintro k F s1 ⟨G, i, rfl, H, hi, rfl⟩
    refine cw_seq ?_
    refine cR ?_
    refine oO rfl (mI rfl ?_)
    refine oO rfl (op_lss rfl rfl (fun h => ?_) (fun h => ?_))
    · refine ops_nil ?_
      refine cT rfl ?_
      refine cw_skip ?_
      refine sN ?_
      refine cw_seq ?_
      refine cw_block ?_
      refine cR ?_
      refine oO rfl (mS rfl ?_)
      refine oO rfl (mI rfl ?_)
      refine oO rfl (op_rem rfl rfl (by omega) ?_)
      rw [show (i : Int).tmod 2 = ((i % 2 : Nat) : Int) by rw [Int.tmod_eq_emod_of_nonneg (by omega)]; omega]
      refine oO rfl (op_indexS el31 rfl rfl (by omega) (by omega) ?_)
      obtain ⟨W, hWm, hWg⟩ := pickL (Value.int .i64) [w, by_] (k := i % 2) (by simp; omega)
      refine oO rfl (lO sh23 rfl (H.own _ hm48).1 hWg ?_)
      refine oO rfl (aI rfl ?_)
      refine ops_nil ?_
      refine cR ?_
      refine oO rfl (mS rfl ?_)
      refine oO rfl (mI rfl ?_)
      refine oO rfl (op_quo rfl rfl (by omega) (by unfold In64; rw [Int.tdiv_eq_ediv_of_nonneg (by omega)]; omega) ?_)
      rw [show (i : Int).tdiv 2 = ((i / 2 : Nat) : Int) by rw [Int.tdiv_eq_ediv_of_nonneg (by omega)]; omega]
      refine oO rfl (op_rem rfl rfl (by omega) ?_)
      rw [show ((i / 2 : Nat) : Int).tmod 3 = ((i / 2 % 3 : Nat) : Int) by rw [Int.tmod_eq_emod_of_nonneg (by omega)]; omega]
      refine oO rfl (op_indexS el32 rfl rfl (by omega) (by omega) ?_)
      obtain ⟨pj, hpj, hpjg⟩ := pickL (fun p : Slc × List (Int × Int) => p.1.v) PJ (k := i / 2 % 3) (by rw [hPJl]; omega)
      refine oO rfl (lO sh24 rfl (H.own _ hm53).1 hpjg ?_)
      refine oO rfl (aS rfl ?_)
      refine ops_nil ?_
      refine cR ?_
      refine oO rfl (mS rfl ?_)
      refine oO rfl (mI rfl ?_)
      refine oO rfl (op_quo rfl rfl (by omega) (by unfold In64; rw [Int.tdiv_eq_ediv_of_nonneg (by omega)]; omega) ?_)
      rw [show (i : Int).tdiv 6 = ((i / 6 : Nat) : Int) by rw [Int.tdiv_eq_ediv_of_nonneg (by omega)]; omega]
      refine oO rfl (op_indexS el34 rfl rfl (by omega) (by omega) ?_)
      obtain ⟨pm, hpm, hpmg⟩ := pickL (fun p : Slc × List Sp => p.1.v) PM (k := i / 6) (by rw [hPMl]; omega)
      refine oO rfl (lO sh25 rfl (H.own _ hm62).1 hpmg ?_)
      refine oO rfl (aS rfl ?_)
      refine ops_nil ?_
      obtain ⟨N1, hN1⟩ : ∃ N1, N1 = N0 + 2102104000000 * i := ⟨_, rfl⟩
      rw [← hN1] at H
      refine cR ?_
      refine oO rfl (aC ?_)
      refine ops_nil ?_
      refine cw_block ?_
      refine cw_loop (fun k F s1 => ∃ (G : FF) (b : Nat), F = lay G [(12, .slice (some ⟨b48, 0, none⟩) 2 (2 * 2)), (13, .slice (some ⟨b53, 0, none⟩) 3 (2 * 3)), (14, .slice (some ⟨b62, 0, none⟩) 2 (2 * 2)), (15, .slice (some ⟨b66, 0, none⟩) 2 (2 * 2)), (16, .int .i64 (i : Int)), (17, .int .i64 W), (18, pj.1.v), (19, pm.1.v), (20, .int .i64 (b : Int))] ∧ HL [] s s1 LL (N1 + 1051052000000 * b) ∧ b ≤ 2 ∧ k = 2 - b) ?_ 2 _ _ ?_
      · rintro k F s1 ⟨G, b, rfl, H, hb, rfl⟩
        refine cw_seq ?_
        refine cR ?_
        refine oO rfl (mI rfl ?_)
        refine oO rfl (op_lss rfl rfl (fun h => ?_) (fun h => ?_))
        · refine ops_nil ?_
          refine cT rfl ?_
          refine cw_skip ?_
          refine sN ?_
          refine cw_seq ?_
          refine cw_block ?_
          refine cR ?_
          refine oO rfl (mI rfl ?_)
          refine oO rfl (mS rfl ?_)
          refine oO rfl (mS rfl ?_)
          refine oO rfl (mI rfl ?_)
          refine oO rfl (op_indexS el31 rfl rfl (by omega) (by omega) ?_)
          obtain ⟨B, hBm, hBg⟩ := pickL (Value.int .i64) [bad, how] (k := b) (by simp; omega)
          refine oO rfl (lO sh23 rfl (H.own _ hm66).1 hBg ?_)
          refine oO rfl (mS rfl ?_)
          refine oO rfl (oC rfl fc12 rfl ?_)
          obtain ⟨_, s9, hr, o, D3, sx, p1, p2, hli, rfl, Hc, hxG, hp1, hp2⟩ := hL _ W B pj.1.v pm.1.v pj.2 pm.2 H.fine ((hPJ pj hpj).1.sl H (fun _ h => h)) ((hPM pm hpm).1.sl H (fun _ h => h)) (fun x hx => ((hPM pm hpm).2.2 x hx).1) (hPM pm hpm).2.1 (by have := H.most; omega)
          refine ⟨_, _, hr, ?_⟩
          clear hr
          have H := H.callE Hc
          clear Hc
          try simp only [List.cons_append, List.nil_append, List.append_assoc] at H
          obtain ⟨sxa, sxn, sxc⟩ := sx
          have hsn := hxG.slc
          rw [List.length_map] at hsn
          simp only at hsn
          subst hsn
          obtain ⟨p1a, p1n, p1c⟩ := p1
          have hsn := hp1.slc
          rw [List.length_map] at hsn
          simp only at hsn
          subst hsn
          obtain ⟨p2a, p2n, p2c⟩ := p2
          have hsn := hp2.slc
          rw [List.length_map] at hsn
          simp only at hsn
          subst hsn
          simp only [Slc.v]
          obtain ⟨N2, hN2, H⟩ : ∃ N2, N2 ≤ N1 + 1051052000000 * b + 20000000000 ∧ HL [] s _ _ N2 := ⟨_, Nat.le_refl _, H⟩
          refine oO rfl (op_moveT rfl ?_)
          refine oO rfl (xT rfl rfl ?_)
          refine oO rfl (xT rfl rfl ?_)
          refine oO rfl (xT rfl rfl ?_)
          refine oO rfl (xT rfl rfl ?_)
          refine oO rfl (op_alloc H zf36 (by omega) (fun b23 s6 H => ?_))
          refine oO rfl (aS rfl ?_)
          refine oO rfl (aI rfl ?_)
          refine oO rfl (op_store0 (vs := [.slice _ _ _, .slice _ _ _]) H sz36 rfl rfl rfl rfl rfl (by omega) (fun s7 H => ?_))
          refine oO rfl (aI rfl ?_)
          refine ops_nil ?_
          refine cR ?_
          refine oO rfl (mI rfl ?_)
          refine oO rfl (mS rfl ?_)
          refine oO rfl (mS rfl ?_)
          refine oO rfl (mI rfl ?_)
          refine oO rfl (op_indexS el31 rfl rfl (by omega) (by omega) ?_)
          refine oO rfl (lO sh23 rfl (H.own (b66, MObj.cells [.int .i64 bad, .int .i64 how] 23) (by simp only [List.mem_cons, List.mem_append, hm66, true_or, or_true])).1 hBg ?_)
          refine oO rfl (mS rfl ?_)
          refine oO rfl (oC rfl fc13 rfl ?_)
          obtain ⟨_, s9, hr, o2, D4, sy, q1, q2, hli2, rfl, Hc, hyG, hq1, hq2⟩ := leastR_ok (w := W) (bad := B) hI H.fine ((hPJ pj hpj).1.sl H (by intro p hp; (try simp only [List.mem_cons, List.mem_append, List.not_mem_nil, or_false] at hp ⊢); first | exact hp | simp only [hp, true_or, or_true])) ((hPM pm hpm).1.sl H (by intro p hp; (try simp only [List.mem_cons, List.mem_append, List.not_mem_nil, or_false] at hp ⊢); first | exact hp | simp only [hp, true_or, or_true])) (fun x hx => ((hPM pm hpm).2.2 x hx).1) (hPJ pj hpj).2 (hPM pm hpm).2.1 (by have := H.most; omega)
          refine ⟨_, _, hr, ?_⟩
          clear hr
          have H := H.callE Hc
          clear Hc
          try simp only [List.cons_append, List.nil_append, List.append_assoc] at H
          obtain ⟨sya, syn, syc⟩ := sy
          have hsn := hyG.slc
          rw [List.length_map] at hsn
          simp only at hsn
          subst hsn
          obtain ⟨q1a, q1n, q1c⟩ := q1
          have hsn := hq1.slc
          rw [List.length_map] at hsn
          simp only at hsn
          subst hsn
          obtain ⟨q2a, q2n, q2c⟩ := q2
          have hsn := hq2.slc
          rw [List.length_map] at hsn
          simp only at hsn
          subst hsn
          simp only [Slc.v]
          obtain ⟨N3, hN3, H⟩ : ∃ N3, N3 ≤ N2 + 1 + 1031050000000 ∧ HL [] s _ _ N3 := ⟨_, Nat.le_refl _, H⟩
          refine oO rfl (op_moveT rfl ?_)
          refine oO rfl (xT rfl rfl ?_)
          refine oO rfl (xT rfl rfl ?_)
          refine oO rfl (xT rfl rfl ?_)
          refine oO rfl (xT rfl rfl ?_)
          refine oO rfl (op_alloc H zf40 (by omega) (fun b27 s8 H => ?_))
          refine oO rfl (aS rfl ?_)
          refine oO rfl (aI rfl ?_)
          refine oO rfl (op_store0 (vs := [.slice _ _ _, .slice _ _ _]) H sz40 rfl rfl rfl rfl rfl (by omega) (fun s9 H => ?_))
          refine oO rfl (aI rfl ?_)
          refine ops_nil ?_
          refine cw_dseq [⟨0, 0, .light, []⟩, ⟨1, 0, .light, []⟩, ⟨2, 3, .light, []⟩, ⟨3, 7, .light, []⟩, ⟨4, 15, .light, []⟩, ⟨5, 15, .light, []⟩, ⟨6, 63, .light, []⟩, ⟨7, 127, .light, []⟩, ⟨8, 255, .light, []⟩, ⟨9, 511, .light, []⟩, ⟨10, 511, .light, []⟩, ⟨11, 2047, .whole, []⟩, ⟨12, 4095, .light, []⟩, ⟨13, 8191, .light, []⟩, ⟨14, 16383, .light, []⟩, ⟨15, 32767, .light, [17]⟩, ⟨17, 32767, .light, [15]⟩, ⟨16, 65535, .whole, [17]⟩, ⟨18, 262143, .whole, []⟩, ⟨19, 524287, .light, []⟩, ⟨20, 1048575, .light, []⟩] (by kernel_rfl) (by kernel_rfl) ?_
          have hoo := hli.same hli2
          subst hoo
          have hsm := hli.small (fun x hx => ((hPM pm hpm).2.2 x hx).1)
          refine dL rfl rfl (mI rfl ⟨rfl, ?_⟩)
          refine dL rfl rfl (mI rfl ⟨rfl, ?_⟩)
          refine dL rfl rfl (op_neq rfl rfl (fun h => False.elim (by exact h rfl)) (fun h => ⟨rfl, ?_⟩))
          refine dL rfl rfl (mB rfl ⟨rfl, ?_⟩)
          refine dL rfl rfl (mI rfl ⟨rfl, ?_⟩)
          refine dL rfl rfl (mI rfl ⟨rfl, ?_⟩)
          refine dL rfl rfl (op_neq rfl rfl (fun h => False.elim (by exact h rfl)) (fun h => ⟨rfl, ?_⟩))
          refine dL rfl rfl (k0B rfl rfl ⟨rfl, ?_⟩)
          refine dL rfl rfl (mB rfl ⟨rfl, ?_⟩)
          refine dL rfl rfl (mS rfl ⟨rfl, ?_⟩)
          refine dL rfl rfl (mS rfl ⟨rfl, ?_⟩)
          refine dW rfl rfl (oC rfl fc14 rfl ?_)
          obtain ⟨_, s9, hr, rfl, Hc⟩ := sameAll_ok hI H.fine (hxG.sl H (by intro p hp; (try simp only [List.mem_cons, List.mem_append, List.not_mem_nil, or_false] at hp ⊢); first | exact hp | simp only [hp, true_or, or_true])) (hyG.sl H (by intro p hp; (try simp only [List.mem_cons, List.mem_append, List.not_mem_nil, or_false] at hp ⊢); first | exact hp | simp only [hp, true_or, or_true])) (fun x hx => ((hPM pm hpm).2.2 x (hsm.1 x hx)).2.dirS H (by intro p hp; (try simp only [List.mem_cons, List.mem_append, List.not_mem_nil, or_false] at hp ⊢); first | exact hp | simp only [hp, true_or, or_true])) (by omega) (by have hmo := H.most; (try simp only at hmo); show _ + _ ≤ _; (try simp only); omega)
          refine ⟨_, _, hr, ?_⟩
          clear hr
          have H := H.call0 (HL.wider H.fine (Nat.le_refl _) (fun _ h => h) Hc)
          clear Hc
          refine dL rfl rfl (op_not rfl ⟨rfl, ?_⟩)
          refine dL rfl rfl (k0B rfl rfl ⟨rfl, ?_⟩)
          refine dL rfl rfl (mB rfl ⟨rfl, ?_⟩)
          refine dr_loadN rfl rfl sh36 rfl (by exact H.own1) (by exact H.lim1 (by omega)) rfl ?_
          refine dr_loadN rfl rfl sh40 rfl (by exact H.own0) (by exact H.lim0 (by omega)) rfl ?_
          refine dW rfl rfl (oC rfl fc16 rfl ?_)
          obtain ⟨_, s9, hr, rfl, Hc⟩ := plain_ok hI (Fine.narrow (X := [b27]) H.fine (by intro p hp; rw [List.mem_singleton] at hp; rw [hp]; exact H.lt0)) (by have hmo := H.most; (try simp only at hmo); show _ + _ ≤ _; (try simp only); omega)
          refine ⟨_, _, hr, ?_⟩
          clear hr
          have H := H.call0 (HL.wider H.fine (Nat.le_refl _) (fun _ h => List.mem_append_right _ h) Hc)
          clear Hc
          refine dW rfl rfl (oC rfl fc15 rfl ?_)
          obtain ⟨_, s9, hr, rfl, Hc⟩ := sameLevels_ok hI H.fine (hp1.sl H (by intro p hp; (try simp only [List.mem_cons, List.mem_append, List.not_mem_nil, or_false] at hp ⊢); first | exact hp | simp only [hp, true_or, or_true])) (hp2.sl H (by intro p hp; (try simp only [List.mem_cons, List.mem_append, List.not_mem_nil, or_false] at hp ⊢); first | exact hp | simp only [hp, true_or, or_true])) (hq1.sl H (by intro p hp; (try simp only [List.mem_cons, List.mem_append, List.not_mem_nil, or_false] at hp ⊢); first | exact hp | simp only [hp, true_or, or_true])) (hq2.sl H (by intro p hp; (try simp only [List.mem_cons, List.mem_append, List.not_mem_nil, or_false] at hp ⊢); first | exact hp | simp only [hp, true_or, or_true])) (by omega) (by omega) (by have hmo := H.most; (try simp only at hmo); show _ + _ ≤ _; (try simp only); omega)
          refine ⟨_, _, hr, ?_⟩
          clear hr
          have H := H.call0 (HL.wider H.fine (Nat.le_refl _) (fun _ h => h) Hc)
          clear Hc
          refine dL rfl rfl (op_not rfl ⟨rfl, ?_⟩)
          refine dL rfl rfl (k0B rfl rfl ⟨rfl, ?_⟩)
          refine draw_nil ?_
          refine cE rfl ?_
          refine cw_skip ?_
          refine blk_norm ?_
          refine sN ?_
          refine cG ?_
          refine oO rfl (mI rfl ?_)
          refine oO rfl (op_add rfl rfl (by unfold In64; omega) ?_)
          refine oO rfl (aI rfl ?_)
          refine ops_nil ?_
          refine loop_norm ?_
          exact ⟨2 - (b + 1), by omega, _, b + 1, slots ⟨rfl, rfl, rfl, rfl, rfl, rfl, rfl, rfl, rfl, trivial⟩, (H.sub (L' := LL) (.cons _ (.cons _ (List.sublist_append_left LL _)))).up (by omega), by omega, rfl⟩
        · refine ops_nil ?_
          refine cE rfl ?_
          refine cw_exit ?_
          refine seq_exit ?_
          refine loop_exit ?_
          refine blk_here ?_
          refine blk_norm ?_
          refine sN ?_
          refine cG ?_
          refine oO rfl (mI rfl ?_)
          refine oO rfl (op_add rfl rfl (by unfold In64; omega) ?_)
          refine oO rfl (aI rfl ?_)
          refine ops_nil ?_
          refine loop_norm ?_
          exact ⟨12 - (i + 1), by omega, _, i + 1, slots ⟨rfl, rfl, rfl, rfl, rfl, trivial⟩, H.up (by omega), by omega, rfl⟩
      · exact ⟨_, 0, slots ⟨rfl, rfl, rfl, rfl, rfl, rfl, rfl, rfl, rfl, trivial⟩, H.up (by omega), by omega, rfl⟩
    · refine ops_nil ?_
      refine cE rfl ?_
      refine cw_exit ?_
      refine seq_exit ?_
      refine loop_exit ?_
      refine blk_here ?_
      refine sN ?_
      refine cR ?_
      refine oO rfl (oC rfl fc17 rfl ?_)
      obtain ⟨_, s9, hr, rfl, Hc⟩ := hV _ H.fine (by have := H.most; omega)
      refine ⟨_, _, hr, ?_⟩
      clear hr
      have H := H.call0 Hc
      clear Hc
      refine oO rfl (aB rfl ?_)
      refine ops_nil ?_
      refine cw_ret ?_
      refine ret_end ?_
      refine end_t ?_
      exact ⟨rfl, (H.sub (List.nil_sublist _)).up (by omega)⟩
  · exact ⟨_, 0, slots ⟨rfl, rfl, rfl, rfl, rfl, trivial⟩, H.up (by omega), by omega, rfl⟩

end Go.Proofs.YtdejleegamcioaaGreat
