/- The reference of rational numbers and of vectors: whole numbers. -/
/- Slices of structs that a function owns. -/
/- The reference's cases: what they are made of. -/
import Derived.Test.YtdejleegamcioaaGreatL14
namespace Go.Proofs.YtdejleegamcioaaGreat
open Go Go.M

theorem fb164 : funcB Tryz.f164 (Tryz.f164.body.getD .skip) 2 = true := by kernel_rfl
theorem fc165 : funcF Tryz.prog 165 = true := by kernel_rfl
theorem bf58 : buildF Tryz.prog 58 = some ([.bool false, .slice none 0 0, .bool false, .slice none 0 0], [(0, 2), (2, 2)]) := by kernel_rfl
theorem fb112 : funcB Tryz.f112 (Tryz.f112.body.getD .skip) 2 = true := by kernel_rfl
theorem fc164 : funcF Tryz.prog 164 = true := by kernel_rfl
theorem fc166 : funcF Tryz.prog 166 = true := by kernel_rfl
theorem sh58 : shapeOf Tryz.prog 58 = some (some 4) := by kernel_rfl
theorem sz58 : sizeF Tryz.prog 58 = some 4 := by kernel_rfl
theorem zf58 : zeroF Tryz.prog 58 = some [.bool false, .slice none 0 0, .bool false, .slice none 0 0] := by kernel_rfl
theorem fb61 : funcB Tryz.f61 (Tryz.f61.body.getD .skip) 2 = true := by kernel_rfl
theorem fc112 : funcF Tryz.prog 112 = true := by kernel_rfl
theorem bf60 : buildF Tryz.prog 60 = some ([.bool false, .slice none 0 0, .bool false, .slice none 0 0, .bool false, .slice none 0 0, .bool false, .slice none 0 0], [(0, 4), (4, 4)]) := by kernel_rfl
theorem fb38 : funcB Tryz.f38 (Tryz.f38.body.getD .skip) 2 = true := by kernel_rfl
theorem fc61 : funcF Tryz.prog 61 = true := by kernel_rfl
theorem sh60 : shapeOf Tryz.prog 60 = some (some 8) := by kernel_rfl
theorem sz60 : sizeF Tryz.prog 60 = some 8 := by kernel_rfl
theorem zf60 : zeroF Tryz.prog 60 = some [.bool false, .slice none 0 0, .bool false, .slice none 0 0, .bool false, .slice none 0 0, .bool false, .slice none 0 0] := by kernel_rfl

set_option maxHeartbeats 4000000 in
set_option maxRecDepth 10000 in
theorem gcd1_ok {I : Table} (hI : Plain I) {s : St} (hf : Fine s) {n1 n2 : Bool} {s1 s2 : Value} {la : List Int} (ha : SlD s s1 la) (hb : SlD s s2 [1]) (hd : Dig la) (hlen : la.length ≤ 3) (hroom : s.next + 200000001000 ≤ limit) :
    ∃ v' s', Rets Tryz.prog I 164 #[.agg ⟨[.bool n1, s1]⟩, .agg ⟨[.bool n2, s2]⟩] s v' s' ∧ (∃ D g, v' = .agg ⟨[.bool false, g]⟩ ∧ HL [] s s' D 200000001000 ∧ (SlIn D g [1] ∨ g = s2)) := by
  have H := hf.hl
  obtain ⟨a, len, cap, rfl, hn⟩ := ha.isSlice
  rw [List.length_map] at hn
  subst hn
  obtain ⟨a2, len, cap2, rfl, hn⟩ := hb.isSlice
  simp only [List.length_map, List.length_cons, List.length_nil, Nat.zero_add] at hn
  subst hn
  refine call_of 2 (hI 164 (by decide) (by decide)) Tryz.func164 rfl fb164 rfl ?_
  refine cR ?_
  refine oO rfl (op_boxA H rfl (by (unfold limit at *; omega)) (fun b2 s1 H => ?_))
  refine oO rfl (op_boxA H rfl (by (unfold limit at *; omega)) (fun b3 s2 H => ?_))
  refine oO rfl (op_alloc H zf56 (by (unfold limit at *; omega)) (fun b4 s3 H => ?_))
  refine ops_nil ?_
  refine cR ?_
  refine oO rfl (fA of56_1 rfl ?_)
  refine oO rfl (lO sh22 rfl (by exact H.own2) rfl ?_)
  refine oO rfl (oC rfl fc167 rfl ?_)
  obtain ⟨_, s9, hr, rfl, Hc⟩ := normal_ok (l := la) (neg := false) hI H.fine (ha.kept H) (by omega) (by have := H.most; unfold limit at *; omega)
  refine ⟨_, _, hr, ?_⟩
  clear hr
  have H := H.call0 Hc
  clear Hc
  have hx := SlX.nv (s0 := s) (D := []) (.inr ha) (nlen_le la la.length)
  obtain ⟨ax, nx, cx, hxe, hnx⟩ := hx.isSlice
  rw [hxe] at hx
  rw [hxe]
  obtain ⟨lx, hlx⟩ : ∃ lx, lx = la.take (nlen la la.length) := ⟨_, rfl⟩
  rw [← hlx] at hx hnx
  subst hnx
  have hdx : Dig lx := by rw [hlx]; exact hd.take _
  have hlenx : lx.length ≤ 3 := by rw [hlx, List.length_take]; omega
  have hneg0 : (if nlen la la.length = 0 then false else false) = false := by split <;> rfl
  rw [hneg0]
  clear hneg0 hxe
  refine oO rfl (op_alloc H zf56 (by (unfold limit at *; omega)) (fun b5 s4 H => ?_))
  refine oO rfl (op_store0 (vs := [.bool _, .slice _ _ _]) H sz56 rfl rfl rfl rfl rfl (by (unfold limit at *; omega)) (fun s5 H => ?_))
  refine ops_nil ?_
  refine cR ?_
  refine oO rfl (fA of56_1 rfl ?_)
  refine oO rfl (lO sh22 rfl (by exact H.own2) rfl ?_)
  refine oO rfl (oC rfl fc167 rfl ?_)
  obtain ⟨_, s9, hr, rfl, Hc⟩ := normal_ok (l := [1]) (a := a2) (cap := cap2) (neg := false) hI H.fine (hb.kept H) (by decide) (by have := H.most; unfold limit at *; omega)
  refine ⟨_, _, hr, ?_⟩
  clear hr
  have H := H.call0 Hc
  clear Hc
  have hnv : nv a2 (nlen [1] ([1] : List Int).length) cap2 = .slice a2 1 cap2 := rfl
  rw [hnv]
  refine oO rfl (op_alloc H zf56 (by (unfold limit at *; omega)) (fun b6 s6 H => ?_))
  refine oO rfl (op_store0 (vs := [.bool _, .slice _ _ _]) H sz56 rfl rfl rfl rfl rfl (by (unfold limit at *; omega)) (fun s7 H => ?_))
  refine ops_nil ?_
  refine cw_seq ?_
  refine cw_block ?_
  refine cw_unroll ?_
  refine cw_seq ?_
  refine cR ?_
  refine oO rfl (fA of56_1 rfl ?_)
  refine oO rfl (lO sh22 rfl (by exact H.own0) rfl ?_)
  refine oO rfl (op_len un22 rfl rfl rfl ?_)
  refine oO rfl (op_gtr rfl rfl (fun h => ?_) (fun h => ?_))
  · refine ops_nil ?_
    refine cT rfl ?_
    refine cw_skip ?_
    refine sN ?_
    refine cw_block ?_
    refine cw_seq ?_
    refine cR ?_
    refine oO rfl (fA of56_1 rfl ?_)
    refine oO rfl (lO sh22 rfl (by exact H.own1) rfl ?_)
    refine oO rfl (op_len un22 rfl rfl rfl ?_)
    refine oO rfl (op_leq rfl rfl (fun h => ?_) (fun h => ?_))
    · refine oO rfl (mB rfl ?_)
      refine oO rfl (fA of56_1 rfl ?_)
      refine oO rfl (lO sh22 rfl (by exact H.own0) rfl ?_)
      refine oO rfl (op_len un22 rfl rfl rfl ?_)
      refine oO rfl (op_leq rfl rfl (fun h => ?_) (fun h => False.elim (by omega)))
      refine oO rfl (k1B rfl rfl ?_)
      refine ops_nil ?_
      refine cT rfl ?_
      refine cR ?_
      refine oO rfl (fA of56_1 rfl ?_)
      refine oO rfl (lO sh22 rfl (by exact H.own1) rfl ?_)
      refine oO rfl (oC rfl fc209 rfl ?_)
      obtain ⟨_, _, hr, rfl, rfl⟩ := tiny_ok (l := lx) hI (hx.sl H (by intro p hp; cases hp)) hdx
      refine ⟨_, _, hr, ?_⟩
      clear hr
      refine oO rfl (aI rfl ?_)
      refine ops_nil ?_
      refine cR ?_
      refine oO rfl (fA of56_1 rfl ?_)
      refine oO rfl (lO sh22 rfl (by exact H.own0) rfl ?_)
      refine oO rfl (oC rfl fc209 rfl ?_)
      obtain ⟨_, _, hr, rfl, rfl⟩ := tiny_ok (l := [1]) hI (hb.kept H) (by intro x hx; simp at hx; omega)
      refine ⟨_, _, hr, ?_⟩
      clear hr
      refine oO rfl (aI rfl ?_)
      refine ops_nil ?_
      refine cw_seq ?_
      refine cw_block ?_
      refine cw_unroll ?_
      refine cw_seq ?_
      refine cR ?_
      refine oO rfl (mI rfl ?_)
      refine oO rfl (op_gtr rfl rfl (fun h => ?_) (fun h => ?_))
      · refine ops_nil ?_
        refine cT rfl ?_
        refine cw_skip ?_
        refine sN ?_
        refine cw_block ?_
        refine cR ?_
        refine oO rfl (mI rfl ?_)
        refine oO rfl (mI rfl ?_)
        refine oO rfl (op_rem rfl rfl (by decide) ?_)
        refine oO rfl (aI rfl ?_)
        refine ops_nil ?_
        refine cR ?_
        refine oO rfl (mI rfl ?_)
        refine oO rfl (aI rfl ?_)
        refine ops_nil ?_
        refine cG ?_
        refine oO rfl (mI rfl ?_)
        refine oO rfl (aI rfl ?_)
        refine ops_nil ?_
        refine blk_norm ?_
        refine sN ?_
        refine cw_unroll ?_
        refine cw_seq ?_
        refine cR ?_
        refine oO rfl (mI rfl ?_)
        refine oO rfl (op_gtr rfl rfl (fun h => ?_) (fun h => ?_))
        · refine ops_nil ?_
          refine cT rfl ?_
          refine cw_skip ?_
          refine sN ?_
          refine cw_block ?_
          exfalso
          have h2 : (0 : Int) < (lx.getD 1 0 * 1000000000 + lx.getD 0 0).tmod 1 := h
          rw [Int.tmod_one] at h2
          omega
        · refine ops_nil ?_
          refine cE rfl ?_
          refine cw_exit ?_
          refine seq_exit ?_
          refine seq_exit ?_
          refine blk_here ?_
          refine sN ?_
          refine cR ?_
          refine oO rfl (mI rfl ?_)
          refine oO rfl (oC rfl fc113 rfl ?_)
          obtain ⟨_, s9, hr, D1, ra, rfl, Hc, hra⟩ := of03_ok (n := (([1] : List Int).getD 1 0 * 1000000000 + ([1] : List Int).getD 0 0)) hI H.fine ⟨by decide, by decide⟩ (by have := H.most; unfold limit at *; omega)
          refine ⟨_, _, hr, ?_⟩
          clear hr
          have H := H.callE Hc
          clear Hc
          try simp only [List.cons_append, List.nil_append, List.append_assoc] at H
          obtain ⟨ara, nra, cra, rfl, hnra⟩ := hra.isSlice
          refine oO rfl (op_store2 (vs := [.bool _, .slice _ _ _]) H sz56 rfl rfl rfl rfl rfl (by (unfold limit at *; omega)) (fun s8 H => ?_))
          refine ops_nil ?_
          refine cw_ret ?_
          refine seq_ret ?_
          refine blk_ret ?_
          refine seq_ret ?_
          refine blk_ret ?_
          refine seq_ret ?_
          refine ret_end ?_
          refine end_cell sh56 rfl (by exact H.own2) rfl ?_
          exact ⟨_, _, rfl, H.up (by omega), .inl (hra.mono (by intro p hp; (try simp only [List.mem_cons, List.mem_append, List.not_mem_nil, or_false] at hp ⊢); first | exact hp | simp only [hp, true_or, or_true]))⟩
      · refine ops_nil ?_
        refine cE rfl ?_
        refine cw_exit ?_
        refine seq_exit ?_
        refine seq_exit ?_
        refine blk_here ?_
        refine sN ?_
        exfalso
        exact h (by decide)
    · refine oO rfl (mB rfl ?_)
      refine oF rfl ?_
      refine oF rfl ?_
      refine oF rfl ?_
      refine oF rfl ?_
      refine oO rfl (op_pick0C rfl ?_)
      refine ops_nil ?_
      refine cE rfl ?_
      refine cw_skip ?_
      refine sN ?_
      refine cR ?_
      refine oO rfl (lN sh56 rfl (by exact H.own1) rfl ?_)
      refine oO rfl (lN sh56 rfl (by exact H.own0) rfl ?_)
      refine oO rfl (oC rfl fc165 rfl ?_)
      obtain ⟨_, s9, hr, D1, nb, q, lq, rfl, Hc, hq, hdq, hlq, hnb⟩ := div1_ok (n1 := false) (la := lx) (s2 := .slice a2 1 cap2) hI H.fine (hx.sl H (by intro p hp; cases hp)) (hb.kept H) hdx hlenx (by have := H.most; unfold limit at *; omega)
      refine ⟨_, _, hr, ?_⟩
      clear hr
      have H := H.callE Hc
      clear Hc
      try simp only [List.cons_append, List.nil_append, List.append_assoc] at H
      obtain ⟨aq, nq, cq, rfl, hnq⟩ := hq.isSlice
      refine oO rfl (op_moveT rfl ?_)
      refine oO rfl (xT rfl rfl ?_)
      refine oO rfl (xT rfl rfl ?_)
      refine oO rfl (op_alloc H zf56 (by (unfold limit at *; omega)) (fun b10 s9 H => ?_))
      refine oO rfl (op_alloc H zf56 (by (unfold limit at *; omega)) (fun b11 s10 H => ?_))
      refine oO rfl (op_store1 (vs := [.bool _, .slice _ _ _]) H sz56 rfl rfl rfl rfl rfl (by (unfold limit at *; omega)) (fun s11 H => ?_))
      refine oO rfl (op_store0 (vs := [.bool _, .slice _ _ _]) H sz56 rfl rfl rfl rfl rfl (by (unfold limit at *; omega)) (fun s12 H => ?_))
      refine ops_nil ?_
      refine cR ?_
      refine oO rfl (lN sh56 rfl (by exact H.own2) rfl ?_)
      refine oO rfl (op_store3 (vs := [.bool _, .slice _ _ _]) H sz56 rfl rfl rfl rfl rfl (by (unfold limit at *; omega)) (fun s13 H => ?_))
      refine ops_nil ?_
      refine cG ?_
      refine oO rfl (lN sh56 rfl (by exact H.own0) rfl ?_)
      refine oO rfl (op_store2 (vs := [.bool _, .slice _ _ _]) H sz56 rfl rfl rfl rfl rfl (by (unfold limit at *; omega)) (fun s14 H => ?_))
      refine ops_nil ?_
      refine blk_norm ?_
      refine sN ?_
      refine cw_unroll ?_
      refine cw_seq ?_
      refine cR ?_
      refine oO rfl (fA of56_1 rfl ?_)
      refine oO rfl (lO sh22 rfl (by exact H.own2) rfl ?_)
      refine oO rfl (op_len un22 rfl rfl rfl ?_)
      refine oO rfl (op_gtr rfl rfl (fun h => ?_) (fun h => ?_))
      · refine ops_nil ?_
        refine cT rfl ?_
        refine cw_skip ?_
        refine sN ?_
        refine cw_block ?_
        refine cw_seq ?_
        exfalso
        have h2 : (0 : Int) < ((0 : Nat) : Int) := h
        omega
      · refine ops_nil ?_
        refine cE rfl ?_
        refine cw_exit ?_
        refine seq_exit ?_
        refine seq_exit ?_
        refine blk_here ?_
        refine sN ?_
        refine cR ?_
        refine oO rfl (lN sh56 rfl (by exact H.own3) rfl ?_)
        refine oO rfl (op_store4 (vs := [.bool _, .slice _ _ _]) H sz56 rfl rfl rfl rfl rfl (by (unfold limit at *; omega)) (fun s15 H => ?_))
        refine ops_nil ?_
        refine cw_ret ?_
        refine ret_end ?_
        refine end_cell sh56 rfl (by exact H.own4) rfl ?_
        exact ⟨_, _, rfl, H.up (by omega), .inr rfl⟩
  · refine ops_nil ?_
    refine cE rfl ?_
    refine cw_exit ?_
    refine seq_exit ?_
    refine seq_exit ?_
    refine blk_here ?_
    refine sN ?_
    exfalso
    have h2 : ¬ (0 : Int) < ((1 : Nat) : Int) := h
    omega

/-- Few digits. -/
def SlB (D : Hp') (v : Value) (l : List Int) : Prop := SlIn D v l ∧ l.length ≤ 3
theorem SlB.mono {D D' : Hp'} {v : Value} {l : List Int} (h : SlB D v l) (hs : D ⊆ D') : SlB D' v l := ⟨h.1.mono hs, h.2⟩
theorem SlB.isSlice {D : Hp'} {v : Value} {l : List Int} (h : SlB D v l) : ∃ a n c, v = .slice a n c ∧ n = l.length := h.1.isSlice

set_option maxHeartbeats 4000000 in
set_option maxRecDepth 10000 in
theorem make1_ok {I : Table} (hI : Plain I) {s : St} (hf : Fine s) {n1 : Bool} {s1 s2 : Value} {la : List Int} (ha : SlD s s1 la) (hb : SlD s s2 [1]) (hd : Dig la) (hlen : la.length ≤ 3) (hroom : s.next + 700000000000 ≤ limit) :
    ∃ v' s', Rets Tryz.prog I 112 #[.agg ⟨[.bool n1, s1]⟩, .agg ⟨[.bool false, s2]⟩] s v' s' ∧ (∃ D x1 x2 x4 l2 l4, v' = .agg ⟨[.bool x1, x2, .bool false, x4]⟩ ∧ HL [] s s' D 700000000000 ∧ SlB D x2 l2 ∧ SlB D x4 l4) := by
  have H := hf.hl
  obtain ⟨a, len, cap, rfl, hn⟩ := ha.isSlice
  rw [List.length_map] at hn
  subst hn
  obtain ⟨a2, len, cap2, rfl, hn⟩ := hb.isSlice
  simp only [List.length_map, List.length_cons, List.length_nil, Nat.zero_add] at hn
  subst hn
  refine call_of 2 (hI 112 (by decide) (by decide)) Tryz.func112 rfl fb112 rfl ?_
  refine cR ?_
  refine oO rfl (op_boxA H rfl (by (unfold limit at *; omega)) (fun b2 s1 H => ?_))
  refine oO rfl (op_boxA H rfl (by (unfold limit at *; omega)) (fun b3 s2 H => ?_))
  refine oO rfl (op_alloc H zf58 (by (unfold limit at *; omega)) (fun b4 s3 H => ?_))
  refine ops_nil ?_
  refine cw_seq ?_
  refine cR ?_
  refine oO rfl (fA of56_1 rfl ?_)
  refine oO rfl (lO sh22 rfl (by exact H.own1) rfl ?_)
  refine oO rfl (op_len un22 rfl rfl rfl ?_)
  refine oO rfl (op_eql rfl rfl (fun h => False.elim (by omega)) (fun h => ?_))
  refine oO rfl (mB rfl ?_)
  refine oO rfl (fA of56_1 rfl ?_)
  refine oO rfl (lO sh22 rfl (by exact H.own2) rfl ?_)
  refine oO rfl (op_len un22 rfl rfl rfl ?_)
  refine oO rfl (op_eql rfl rfl (fun h => ?_) (fun h => ?_))
  · refine oO rfl (k0B rfl rfl ?_)
    refine ops_nil ?_
    refine cT rfl ?_
    refine cR ?_
    refine oO rfl (op_build (c := [.bool _, .slice _ _ _, .bool _, .slice _ _ _]) bf58 rfl ?_)
    refine oO rfl (op_store0 (vs := [.bool _, .slice _ _ _, .bool _, .slice _ _ _]) H sz58 rfl rfl rfl rfl rfl (by (unfold limit at *; omega)) (fun s4 H => ?_))
    refine ops_nil ?_
    refine cw_ret ?_
    refine seq_ret ?_
    refine ret_end ?_
    refine end_cell sh58 rfl (by exact H.own0) rfl ?_
    exact ⟨[], _, _, _, [], [], rfl, (H.sub (List.nil_sublist _)).up (by omega), ⟨.nil 0 rfl rfl, by simp⟩, ⟨.nil 0 rfl rfl, by simp⟩⟩
  · refine oO rfl (k0B rfl rfl ?_)
    refine ops_nil ?_
    refine cE rfl ?_
    refine cw_skip ?_
    refine sN ?_
    refine cR ?_
    refine oO rfl (lN sh56 rfl (by exact H.own2) rfl ?_)
    refine oO rfl (lN sh56 rfl (by exact H.own1) rfl ?_)
    refine oO rfl (oC rfl fc164 rfl ?_)
    obtain ⟨_, s9, hr, D1, g, rfl, Hc, hg⟩ := gcd1_ok (n1 := n1) (n2 := false) hI H.fine (ha.kept H) (hb.kept H) hd hlen (by have := H.most; unfold limit at *; omega)
    refine ⟨_, _, hr, ?_⟩
    clear hr
    have hgx : SlX s D1 g [1] := by
      rcases hg with h | h
      · exact .inl h
      · rw [h]; exact .inr hb
    clear hg
    have H := H.callE Hc
    clear Hc
    try simp only [List.cons_append, List.nil_append, List.append_assoc] at H
    obtain ⟨ag, ng, cg, rfl, hng⟩ := hgx.isSlice
    subst hng
    refine oO rfl (op_alloc H zf56 (by (unfold limit at *; omega)) (fun b5 s5 H => ?_))
    refine oO rfl (op_store0 (vs := [.bool _, .slice _ _ _]) H sz56 rfl rfl rfl rfl rfl (by (unfold limit at *; omega)) (fun s6 H => ?_))
    refine ops_nil ?_
    refine cR ?_
    refine oO rfl (lN sh56 rfl (by exact H.own3) rfl ?_)
    refine oO rfl (lN sh56 rfl (by exact H.own0) rfl ?_)
    refine oO rfl (oC rfl fc165 rfl ?_)
    obtain ⟨_, s9, hr, D2, nb, q, lq, rfl, Hc, hq, hdq, hlq, hnb⟩ := div1_ok (n1 := n1) (la := la) hI H.fine (ha.kept H) (hgx.sl H (by intro p hp; (try simp only [List.mem_cons, List.mem_append, List.not_mem_nil, or_false] at hp ⊢); first | exact hp | simp only [hp, true_or, or_true])) hd hlen (by have := H.most; unfold limit at *; omega)
    refine ⟨_, _, hr, ?_⟩
    clear hr
    have H := H.callE Hc
    clear Hc
    try simp only [List.cons_append, List.nil_append, List.append_assoc] at H
    obtain ⟨aq, nq, cq, rfl, hnq⟩ := hq.isSlice
    refine oO rfl (op_moveT rfl ?_)
    refine oO rfl (xT rfl rfl ?_)
    refine oO rfl (xT rfl rfl ?_)
    refine oO rfl (op_alloc H zf56 (by (unfold limit at *; omega)) (fun b6 s7 H => ?_))
    refine oO rfl (op_alloc H zf56 (by (unfold limit at *; omega)) (fun b7 s8 H => ?_))
    refine oO rfl (op_store1 (vs := [.bool _, .slice _ _ _]) H sz56 rfl rfl rfl rfl rfl (by (unfold limit at *; omega)) (fun s9 H => ?_))
    refine oO rfl (op_store0 (vs := [.bool _, .slice _ _ _]) H sz56 rfl rfl rfl rfl rfl (by (unfold limit at *; omega)) (fun s10 H => ?_))
    refine ops_nil ?_
    refine cR ?_
    refine oO rfl (lN sh56 rfl (by exact H.own4) rfl ?_)
    refine oO rfl (lN sh56 rfl (by exact H.own2) rfl ?_)
    refine oO rfl (oC rfl fc165 rfl ?_)
    obtain ⟨_, s9, hr, D3, nb2, q2, lq2, rfl, Hc, hq2, hdq2, hlq2, hnb2⟩ := div1_ok (n1 := false) (la := [1]) hI H.fine (hb.kept H) (hgx.sl H (by intro p hp; (try simp only [List.mem_cons, List.mem_append, List.not_mem_nil, or_false] at hp ⊢); first | exact hp | simp only [hp, true_or, or_true])) (by intro x hx; simp at hx; omega) (by decide) (by have := H.most; unfold limit at *; omega)
    refine ⟨_, _, hr, ?_⟩
    clear hr
    have H := H.callE Hc
    clear Hc
    try simp only [List.cons_append, List.nil_append, List.append_assoc] at H
    obtain ⟨aq2, nq2, cq2, rfl, hnq2⟩ := hq2.isSlice
    have hnb3 := hnb2 rfl
    subst hnb3
    refine oO rfl (op_moveT rfl ?_)
    refine oO rfl (xT rfl rfl ?_)
    refine oO rfl (xT rfl rfl ?_)
    refine oO rfl (op_alloc H zf56 (by (unfold limit at *; omega)) (fun b8 s11 H => ?_))
    refine oO rfl (op_alloc H zf56 (by (unfold limit at *; omega)) (fun b9 s12 H => ?_))
    refine oO rfl (op_store1 (vs := [.bool _, .slice _ _ _]) H sz56 rfl rfl rfl rfl rfl (by (unfold limit at *; omega)) (fun s13 H => ?_))
    refine oO rfl (op_store0 (vs := [.bool _, .slice _ _ _]) H sz56 rfl rfl rfl rfl rfl (by (unfold limit at *; omega)) (fun s14 H => ?_))
    refine ops_nil ?_
    refine cw_seq ?_
    refine cR ?_
    refine oO rfl (fA of56_0 rfl ?_)
    refine oO rfl (lO sh4 rfl (by exact H.own1) rfl ?_)
    refine ops_nil ?_
    refine cE rfl ?_
    refine cw_skip ?_
    refine sN ?_
    refine cw_seq ?_
    refine cR ?_
    refine oO rfl (lN sh56 rfl (by exact H.own1) rfl ?_)
    refine oO rfl (oC rfl fc166 rfl ?_)
    obtain ⟨_, s9, hr, bb, rfl, Hc⟩ := one_ok (n1 := false) hI H.fine (hq2.sl H (by intro p hp; (try simp only [List.mem_cons, List.mem_append, List.not_mem_nil, or_false] at hp ⊢); first | exact hp | simp only [hp, true_or, or_true])) (by have := H.most; unfold limit at *; omega)
    refine ⟨_, _, hr, ?_⟩
    clear hr
    have H := H.call0 Hc
    clear Hc
    cases bb
    · refine ops_nil ?_
      refine cE rfl ?_
      refine cw_skip ?_
      refine sN ?_
      refine cR ?_
      refine oO rfl (lN sh56 rfl (by exact H.own3) rfl ?_)
      refine oO rfl (lN sh56 rfl (by exact H.own1) rfl ?_)
      refine oO rfl (op_build (c := [.bool _, .slice _ _ _, .bool _, .slice _ _ _]) bf58 rfl ?_)
      refine oO rfl (op_store5 (vs := [.bool _, .slice _ _ _, .bool _, .slice _ _ _]) H sz58 rfl rfl rfl rfl rfl (by (unfold limit at *; omega)) (fun s15 H => ?_))
      refine ops_nil ?_
      refine cw_ret ?_
      refine ret_end ?_
      refine end_cell sh58 rfl (by exact H.own5) rfl ?_
      exact ⟨_, _, _, _, _, _, rfl, H.up (by omega), ⟨hq.mono (by intro p hp; (try simp only [List.mem_cons, List.mem_append, List.not_mem_nil, or_false] at hp ⊢); first | exact hp | simp only [hp, true_or, or_true]), hlq⟩, ⟨hq2.mono (by intro p hp; (try simp only [List.mem_cons, List.mem_append, List.not_mem_nil, or_false] at hp ⊢); first | exact hp | simp only [hp, true_or, or_true]), hlq2⟩⟩
    · refine ops_nil ?_
      refine cT rfl ?_
      refine cR ?_
      refine oO rfl (lN sh56 rfl (by exact H.own3) rfl ?_)
      refine oO rfl (op_build (c := [.bool _, .slice _ _ _, .bool _, .slice _ _ _]) bf58 rfl ?_)
      refine oO rfl (op_store5 (vs := [.bool _, .slice _ _ _, .bool _, .slice _ _ _]) H sz58 rfl rfl rfl rfl rfl (by (unfold limit at *; omega)) (fun s16 H => ?_))
      refine ops_nil ?_
      refine cw_ret ?_
      refine seq_ret ?_
      refine ret_end ?_
      refine end_cell sh58 rfl (by exact H.own5) rfl ?_
      exact ⟨_, _, _, _, _, [], rfl, H.up (by omega), ⟨hq.mono (by intro p hp; (try simp only [List.mem_cons, List.mem_append, List.not_mem_nil, or_false] at hp ⊢); first | exact hp | simp only [hp, true_or, or_true]), hlq⟩, ⟨.nil 0 rfl rfl, by simp⟩⟩

set_option maxHeartbeats 4000000 in
set_option maxRecDepth 10000 in
theorem of04_ok {I : Table} (hI : Plain I) {s : St} (hf : Fine s) {p : Int} (hp : In64 p) (hroom : s.next + 800000000000 ≤ limit) :
    ∃ v' s', Rets Tryz.prog I 61 #[.int .i64 p, .int .i64 1] s v' s' ∧ (∃ D x1 x2 x4 l2 l4, v' = .agg ⟨[.bool x1, x2, .bool false, x4]⟩ ∧ HL [] s s' D 800000000000 ∧ SlB D x2 l2 ∧ SlB D x4 l4) := by
  have H := hf.hl
  refine call_of 2 (hI 61 (by decide) (by decide)) Tryz.func61 rfl fb61 rfl ?_
  refine cR ?_
  refine oO rfl (op_alloc H zf58 (by (unfold limit at *; omega)) (fun b4 s1 H => ?_))
  refine ops_nil ?_
  refine cR ?_
  refine oO rfl (mI rfl ?_)
  refine oO rfl (oC rfl fc113 rfl ?_)
  obtain ⟨_, s9, hr, D1, ra, rfl, Hc, hra⟩ := of03_ok (n := p) hI H.fine hp (by have := H.most; unfold limit at *; omega)
  refine ⟨_, _, hr, ?_⟩
  clear hr
  have H := H.callE Hc
  clear Hc
  try simp only [List.cons_append, List.nil_append, List.append_assoc] at H
  obtain ⟨ara, nra, cra, rfl, hnra⟩ := hra.isSlice
  refine oO rfl (mI rfl ?_)
  refine oO rfl (oC rfl fc113 rfl ?_)
  obtain ⟨_, s9, hr, D2, rb, rfl, Hc, hrb⟩ := of03_ok (n := 1) hI H.fine ⟨by decide, by decide⟩ (by have := H.most; unfold limit at *; omega)
  refine ⟨_, _, hr, ?_⟩
  clear hr
  have H := H.callE Hc
  clear Hc
  try simp only [List.cons_append, List.nil_append, List.append_assoc] at H
  obtain ⟨arb, nrb, crb, rfl, hnrb⟩ := hrb.isSlice
  refine oO rfl (oC rfl fc112 rfl ?_)
  obtain ⟨_, s9, hr, D3, x1, x2, x4, l2, l4, rfl, Hc, h2, h4⟩ := make1_ok (n1 := decide (p < 0)) hI H.fine (hra.sl H (by intro p hp; (try simp only [List.mem_cons, List.mem_append, List.not_mem_nil, or_false] at hp ⊢); first | exact hp | simp only [hp, true_or, or_true])) (hrb.sl H (by intro p hp; (try simp only [List.mem_cons, List.mem_append, List.not_mem_nil, or_false] at hp ⊢); first | exact hp | simp only [hp, true_or, or_true])) (dgs_dig _ _) (dgs_len _ _) (by have := H.most; unfold limit at *; omega)
  refine ⟨_, _, hr, ?_⟩
  clear hr
  have H := H.callE Hc
  clear Hc
  try simp only [List.cons_append, List.nil_append, List.append_assoc] at H
  obtain ⟨a2, n2, c2, rfl, hn2⟩ := h2.isSlice
  obtain ⟨a4, n4, c4, rfl, hn4⟩ := h4.isSlice
  refine oO rfl (op_store0 (vs := [.bool _, .slice _ _ _, .bool _, .slice _ _ _]) H sz58 rfl rfl rfl rfl rfl (by (unfold limit at *; omega)) (fun s2 H => ?_))
  refine ops_nil ?_
  refine cw_ret ?_
  refine ret_end ?_
  refine end_cell sh58 rfl (by exact H.own0) rfl ?_
  exact ⟨_, _, _, _, _, _, rfl, H.up (by omega), h2.mono (by intro p hp; (try simp only [List.mem_cons, List.mem_append, List.not_mem_nil, or_false] at hp ⊢); first | exact hp | simp only [hp, true_or, or_true]), h4.mono (by intro p hp; (try simp only [List.mem_cons, List.mem_append, List.not_mem_nil, or_false] at hp ⊢); first | exact hp | simp only [hp, true_or, or_true])⟩

/-- The cells of a vector. -/
def vecC (n1 : Bool) (s1 : Slc) (n2 : Bool) (s2 : Slc) (n3 : Bool) (s3 : Slc) (n4 : Bool) (s4 : Slc) : List Value := [.bool n1, s1.v, .bool n2, s2.v, .bool n3, s3.v, .bool n4, s4.v]

set_option maxHeartbeats 4000000 in
set_option maxRecDepth 10000 in
theorem of05_ok {I : Table} (hI : Plain I) {s : St} (hf : Fine s) {x y : Int} (hx : In64 x) (hy : In64 y) (hroom : s.next + 2000000000000 ≤ limit) :
    ∃ v' s', Rets Tryz.prog I 38 #[.int .i64 x, .int .i64 y] s v' s' ∧ (∃ D n1 s1 s2 n3 s3 s4 l1 l2 l3 l4, v' = .agg ⟨vecC n1 s1 false s2 n3 s3 false s4⟩ ∧ HL [] s s' D 2000000000000 ∧ SlB D s1.v l1 ∧ SlB D s2.v l2 ∧ SlB D s3.v l3 ∧ SlB D s4.v l4) := by
  have H := hf.hl
  refine call_of 2 (hI 38 (by decide) (by decide)) Tryz.func38 rfl fb38 rfl ?_
  refine cR ?_
  refine oO rfl (op_alloc H zf60 (by (unfold limit at *; omega)) (fun b4 s1 H => ?_))
  refine ops_nil ?_
  refine cR ?_
  refine oO rfl (mI rfl ?_)
  refine oO rfl (oC rfl fc61 rfl ?_)
  obtain ⟨_, s9, hr, D1, xa1, xa2, xa4, la2, la4, rfl, Hc, ha2, ha4⟩ := of04_ok (p := x) hI H.fine hx (by have := H.most; unfold limit at *; omega)
  refine ⟨_, _, hr, ?_⟩
  clear hr
  have H := H.callE Hc
  clear Hc
  try simp only [List.cons_append, List.nil_append, List.append_assoc] at H
  obtain ⟨aa2, na2, ca2, rfl, hna2⟩ := ha2.isSlice
  obtain ⟨aa4, na4, ca4, rfl, hna4⟩ := ha4.isSlice
  refine oO rfl (mI rfl ?_)
  refine oO rfl (oC rfl fc61 rfl ?_)
  obtain ⟨_, s9, hr, D2, xb1, xb2, xb4, lb2, lb4, rfl, Hc, hb2, hb4⟩ := of04_ok (p := y) hI H.fine hy (by have := H.most; unfold limit at *; omega)
  refine ⟨_, _, hr, ?_⟩
  clear hr
  have H := H.callE Hc
  clear Hc
  try simp only [List.cons_append, List.nil_append, List.append_assoc] at H
  obtain ⟨ab2, nb2, cb2, rfl, hnb2⟩ := hb2.isSlice
  obtain ⟨ab4, nb4, cb4, rfl, hnb4⟩ := hb4.isSlice
  refine oO rfl (op_build (c := [.bool _, .slice _ _ _, .bool _, .slice _ _ _, .bool _, .slice _ _ _, .bool _, .slice _ _ _]) bf60 rfl ?_)
  refine oO rfl (op_store0 (vs := [.bool _, .slice _ _ _, .bool _, .slice _ _ _, .bool _, .slice _ _ _, .bool _, .slice _ _ _]) H sz60 rfl rfl rfl rfl rfl (by (unfold limit at *; omega)) (fun s2 H => ?_))
  refine ops_nil ?_
  refine cw_ret ?_
  refine ret_end ?_
  refine end_cell sh60 rfl (by exact H.own0) rfl ?_
  exact ⟨_, _, ⟨_, _, _⟩, ⟨_, _, _⟩, _, ⟨_, _, _⟩, ⟨_, _, _⟩, _, _, _, _, rfl, H.up (by omega), ha2.mono (by intro p hp; (try simp only [List.mem_cons, List.mem_append, List.not_mem_nil, or_false] at hp ⊢); first | exact hp | simp only [hp, true_or, or_true]), ha4.mono (by intro p hp; (try simp only [List.mem_cons, List.mem_append, List.not_mem_nil, or_false] at hp ⊢); first | exact hp | simp only [hp, true_or, or_true]), hb2.mono (by intro p hp; (try simp only [List.mem_cons, List.mem_append, List.not_mem_nil, or_false] at hp ⊢); first | exact hp | simp only [hp, true_or, or_true]), hb4.mono (by intro p hp; (try simp only [List.mem_cons, List.mem_append, List.not_mem_nil, or_false] at hp ⊢); first | exact hp | simp only [hp, true_or, or_true])⟩

end Go.Proofs.YtdejleegamcioaaGreat
namespace Go.Proofs.YtdejleegamcioaaGreat
open Go Go.M

/-- A slice of elements of sz cells each, in these blocks. -/
inductive SlG (D : Hp') (e : TypeId) (sz : Nat) (v : Value) (es : List (List Value)) : Prop
  | nil (c : Nat) (hv : v = .slice none 0 c) (hl : es = []) : SlG D e sz v es
  | block (b off cap : Nat) (c : List Value) (hv : v = .slice (some ⟨b, off, none⟩) es.length cap) (hg : (b, .cells c e) ∈ D) (hcap : es.length ≤ cap / 2) (hc : ∀ k, k < es.length → ltake sz (ldrop (off + k * sz) c) = some (es.getD k [])) : SlG D e sz v es
theorem SlG.sl {D : Hp'} {e : TypeId} {sz : Nat} {v : Value} {es : List (List Value)} (h : SlG D e sz v es) {W : List Nat} {s0 s : St} {L : Hp'} {n : Nat} (H : HL W s0 s L n) (hs : D ⊆ L) : Sl s e sz v es := by
  cases h with
  | nil c hv hl => exact .nil c hv hl
  | block b off cap c hv hg hcap hc =>
    have ho := H.own _ (hs hg)
    exact .block b off cap c hv ho.1 ho.2.1 hcap hc
theorem SlG.mono {D D' : Hp'} {e : TypeId} {sz : Nat} {v : Value} {es : List (List Value)} (h : SlG D e sz v es) (hs : D ⊆ D') : SlG D' e sz v es := by
  cases h with
  | nil c hv hl => exact .nil c hv hl
  | block b off cap c hv hg hcap hc => exact .block b off cap c hv (hs hg) hcap hc

theorem SlG.take {D : Hp'} {e : TypeId} {sz : Nat} {a : Option Addr} {len cap : Nat} {es : List (List Value)} (h : SlG D e sz (.slice a len cap) es) {m : Nat} (hm : m ≤ es.length) : SlG D e sz (.slice a m cap) (es.take m) := by
  cases h with
  | nil c hv hl =>
    subst hl
    cases hv
    simp only [List.length_nil, Nat.le_zero] at hm
    subst hm
    exact .nil _ rfl (by simp)
  | block b off cap c hv hg hcap hc =>
    cases hv
    have hlen : (es.take m).length = m := by simp; omega
    refine .block b off cap c (by rw [hlen]) hg (by omega) fun k hk => ?_
    rw [hlen] at hk
    rw [hc k (by omega)]
    simp [List.getD_eq_getElem?_getD, List.getElem?_take, hk]
theorem flat_len {sz : Nat} : ∀ {es : List (List Value)}, (∀ x ∈ es, x.length = sz) → es.flatten.length = es.length * sz
  | [], _ => by simp
  | x :: es, h => by
    rw [List.flatten_cons, List.length_append, h x (by simp), flat_len fun y hy => h y (by simp [hy]), List.length_cons, Nat.add_mul]
    omega
theorem flat_drop {sz : Nat} : ∀ {es : List (List Value)} (k : Nat), (∀ x ∈ es, x.length = sz) → es.flatten.drop (k * sz) = (es.drop k).flatten
  | [], k, _ => by simp
  | x :: es, 0, _ => by simp
  | x :: es, k + 1, h => by
    have hx := h x (by simp)
    rw [List.flatten_cons, List.drop_succ_cons, ← flat_drop k fun y hy => h y (by simp [hy]), Nat.add_mul, Nat.one_mul, Nat.add_comm, ← List.drop_drop, ← hx, List.drop_left]
theorem flat_get {sz : Nat} {es : List (List Value)} (h : ∀ x ∈ es, x.length = sz) {k : Nat} (hk : k < es.length) : ltake sz (ldrop (0 + k * sz) es.flatten) = some (es.getD k []) := by
  rw [ltake_eq, ldrop_eq, Nat.zero_add, flat_drop k h, drop_getD [] hk, List.flatten_cons]
  have hx : (es.getD k []).length = sz := h _ (getD_mem hk)
  rw [if_pos (by rw [List.length_append]; omega), ← hx, List.take_left]

theorem Own.slG {D : Hp'} {e : TypeId} {sz : Nat} {v : Value} {es : List (List Value)} (hz : ∀ x ∈ es, x.length = sz) (h : Own e sz D v es.flatten es.length) : SlG D e sz v es := by
  generalize hc : es.flatten = c at h
  generalize hl : es.length = n at h
  cases h with
  | nil => exact .nil 0 rfl (List.length_eq_zero_iff.mp hl)
  | block b cap c len hlen hcap =>
    subst hc
    refine .block b 0 cap _ (by rw [hl]) (by simp) (by omega) fun k hk => flat_get hz hk

theorem _root_.Go.M.HL.perm {W : List Nat} {s0 s : St} {L L' : Hp'} {n : Nat} (H : HL W s0 s L n) (h : L.Perm L') : HL W s0 s L' n :=
  { H with own := fun p hp => H.own p (h.mem_iff.mpr hp), dist := (h.pairwise_iff (fun h => Ne.symm h)).mp H.dist }
/-- The blocks in the middle come first. -/
theorem _root_.Go.M.HL.mid {W : List Nat} {s0 s : St} {A B C : Hp'} {n : Nat} (H : HL W s0 s (A ++ (B ++ C)) n) : HL W s0 s (B ++ (A ++ C)) n := H.perm (List.perm_append_comm_assoc A B C)
theorem _root_.Go.M.HL.swap {W : List Nat} {s0 s : St} {A B : Hp'} {n : Nat} (H : HL W s0 s (A ++ B) n) : HL W s0 s (B ++ A) n := H.perm List.perm_append_comm
theorem _root_.Go.M.HL.mid2 {W : List Nat} {s0 s : St} {A B C E : Hp'} {n : Nat} (H : HL W s0 s (A ++ (B ++ (C ++ E))) n) : HL W s0 s (C ++ (A ++ (B ++ E))) n :=
  Go.M.HL.mid (Go.M.HL.perm H ((List.perm_append_comm_assoc B C E).append_left A))

theorem atZ_range {l : List Int} {i n : Int} (hn : 0 < n) : 0 ≤ atZ l i n ∧ atZ l i n < n := by
  unfold atZ
  split
  · omega
  · unfold aroundZ
    generalize hx : (if l.getD i.toNat 0 < 0 then -(l.getD i.toNat 0 + 1) else l.getD i.toNat 0) = x
    have h0 : 0 ≤ x := by rw [← hx]; split <;> omega
    rw [Int.tmod_eq_emod_of_nonneg h0]
    exact ⟨Int.emod_nonneg _ (by omega), Int.emod_lt_of_pos _ hn⟩
theorem aroundZ_range {a n : Int} (hn : 0 < n) : 0 ≤ aroundZ a n ∧ aroundZ a n < n := by
  unfold aroundZ
  generalize hx : (if a < 0 then -(a + 1) else a) = x
  have h0 : 0 ≤ x := by rw [← hx]; split <;> omega
  rw [Int.tmod_eq_emod_of_nonneg h0]
  exact ⟨Int.emod_nonneg _ (by omega), Int.emod_lt_of_pos _ hn⟩
theorem SlI.kept {s s' : St} {v : Value} {l : List Int} {L : Hp'} {n : Nat} (h : SlI s v l) (H : HL [] s s' L n) : SlI s' v l := by
  cases h with
  | nil c hv hl => exact .nil c hv hl
  | block b off cap c e hv hg hb hc => exact .block b off cap c e hv (H.old hb hg) (by have := H.le; omega) hc
theorem SlI.isSlice {s : St} {v : Value} {l : List Int} (h : SlI s v l) : ∃ a len cap, v = .slice a len cap ∧ len = l.length := by
  cases h with
  | nil c hv hl => exact ⟨_, _, _, hv, by rw [hl]; rfl⟩
  | block b off cap c e hv => exact ⟨_, _, _, hv, rfl⟩
/-- The direction of a split can be read. -/
def DirIn (D : Hp') (x : Sp) : Prop := x.n2 = false ∧ x.n4 = false ∧ ∃ l1 l2 l3 l4, SlB D x.s1.v l1 ∧ SlB D x.s2.v l2 ∧ SlB D x.s3.v l3 ∧ SlB D x.s4.v l4
theorem DirIn.mono {D D' : Hp'} {x : Sp} (h : DirIn D x) (hs : D ⊆ D') : DirIn D' x := by
  obtain ⟨e1, e2, l1, l2, l3, l4, h1, h2, h3, h4⟩ := h
  exact ⟨e1, e2, l1, l2, l3, l4, h1.mono hs, h2.mono hs, h3.mono hs, h4.mono hs⟩
theorem flat_snoc {α : Type} {f : α → List Value} {l : List α} {x : α} : ((l ++ [x]).map f).flatten = (l.map f).flatten ++ f x := by simp
theorem ints_flat (l : List Int) : ints l = (l.map dc).flatten := by
  induction l with
  | nil => rfl
  | cons x l ih => simp only [ints, List.map_cons, List.flatten_cons] at ih ⊢; rw [ih]; rfl
theorem two_pow8 {n : Nat} (h : n ≤ 8) : (1 : Int) ≤ 2 ^ n ∧ (2 : Int) ^ n ≤ 256 := by
  have h1 : (2 : Nat) ^ n ≤ 2 ^ 8 := Nat.pow_le_pow_right (by decide) h
  have h2 : 1 ≤ (2 : Nat) ^ n := Nat.one_le_two_pow
  have e : ((2 : Int) ^ n) = (((2 : Nat) ^ n : Nat) : Int) := by simp
  rw [e]
  have : (2 : Nat) ^ 8 = 256 := by decide
  omega
end Go.Proofs.YtdejleegamcioaaGreat
namespace Go.Proofs.YtdejleegamcioaaGreat
open Go Go.M

theorem bf27 : buildF Tryz.prog 27 = some ([.int .i64 0, .slice none 0 0, .int .i64 0, .slice none 0 0], [(0, 1), (1, 1), (2, 1), (3, 1)]) := by kernel_rfl
theorem bf30 : buildF Tryz.prog 30 = some ([.int .i64 0, .int .i64 0], [(0, 1), (1, 1)]) := by kernel_rfl
theorem bf62 : buildF Tryz.prog 62 = some ([.int .i64 0, .int .i64 0, .bool false, .slice none 0 0, .bool false, .slice none 0 0, .bool false, .slice none 0 0, .bool false, .slice none 0 0], [(0, 1), (1, 1), (2, 8)]) := by kernel_rfl
theorem el31 : elemF Tryz.prog 31 = some (true, 0, 1) := by kernel_rfl
theorem fb9 : funcB Tryz.f9 (Tryz.f9.body.getD .skip) 1 = true := by kernel_rfl
theorem fc30 : funcF Tryz.prog 30 = true := by kernel_rfl
theorem fc38 : funcF Tryz.prog 38 = true := by kernel_rfl
theorem fc39 : funcF Tryz.prog 39 = true := by kernel_rfl
theorem of27_0 : offF Tryz.prog 27 0 = some 0 := by kernel_rfl
theorem of27_1 : offF Tryz.prog 27 1 = some 1 := by kernel_rfl
theorem of27_2 : offF Tryz.prog 27 2 = some 2 := by kernel_rfl
theorem of27_3 : offF Tryz.prog 27 3 = some 3 := by kernel_rfl
theorem sh24 : shapeOf Tryz.prog 24 = some (none) := by kernel_rfl
theorem sh25 : shapeOf Tryz.prog 25 = some (none) := by kernel_rfl
theorem sh27 : shapeOf Tryz.prog 27 = some (some 4) := by kernel_rfl
theorem sl25 : sliceF Tryz.prog 25 = some (62, 10, 144, [.int .i64 0, .int .i64 0, .bool false, .slice none 0 0, .bool false, .slice none 0 0, .bool false, .slice none 0 0, .bool false, .slice none 0 0]) := by kernel_rfl
theorem sl31 : sliceF Tryz.prog 31 = some (23, 1, 8, [.int .i64 0]) := by kernel_rfl
theorem sz23 : sizeF Tryz.prog 23 = some 1 := by kernel_rfl
theorem sz24 : sizeF Tryz.prog 24 = some 1 := by kernel_rfl
theorem sz25 : sizeF Tryz.prog 25 = some 1 := by kernel_rfl
theorem sz27 : sizeF Tryz.prog 27 = some 4 := by kernel_rfl
theorem un31 : Tryz.prog.underlying 31 = some (.slice 23) := by kernel_rfl
theorem zf27 : zeroF Tryz.prog 27 = some [.int .i64 0, .slice none 0 0, .int .i64 0, .slice none 0 0] := by kernel_rfl

set_option maxHeartbeats 4000000 in
set_option maxRecDepth 10000 in
theorem made_ok {I : Table} (hI : Plain I) {s : St} (hf : Fine s) {v : Value} {l : List Int} (hl : SlI s v l) (hin : ∀ x ∈ l, In64 x) (hroom : s.next + 30000000000000 ≤ limit) :
    ∃ v' s', Rets Tryz.prog I 9 #[v] s v' s' ∧ (∃ (D DD : Hp') (sj sm : Slc) (js : List (Int × Int)) (may : List Sp) (n : Nat) (w bad : Int), v' = .agg ⟨[.int .i64 w, Slc.v sj, .int .i64 bad, Slc.v sm]⟩ ∧ HL [] s s' (D ++ DD) 30000000000000 ∧ SlG D 30 2 sj.v (js.map jc) ∧ SlG D 62 10 sm.v (may.map Sp.cells) ∧ (2 ≤ n ∧ n ≤ 6 ∧ w = 2 ^ n - 1) ∧ (1 ≤ js.length ∧ js.length ≤ 8) ∧ (∀ j ∈ js, (0 ≤ j.1 ∧ j.1 < (n : Nat)) ∧ (0 ≤ j.2 ∧ j.2 < (n : Nat)) ∧ j.1 ≠ j.2) ∧ (0 ≤ bad ∧ bad < 2 ^ js.length) ∧ may.length ≤ 14 ∧ (∀ x ∈ may, validB x.w x.p = true ∧ DirIn DD x)) := by
  have H := hf.hl
  obtain ⟨a, len, cap, rfl, hn⟩ := hl.isSlice
  subst hn
  have hN := atZ_range (l := l) (i := 0) (n := 5) (by decide)
  have hM := atZ_range (l := l) (i := 1) (n := 8) (by decide)
  have hNp := two_pow8 (n := (2 + atZ l 0 5).toNat) (by omega)
  have hMp := two_pow8 (n := (1 + atZ l 1 8).toNat) (by omega)
  refine call_of 1 (hI 9 (by decide) (by decide)) Tryz.func9 rfl fb9 rfl ?_
  refine cR ?_
  refine oO rfl (op_alloc H zf27 (by omega) (fun b2 s1 H => ?_))
  refine ops_nil ?_
  refine cR ?_
  refine oO rfl (mS rfl ?_)
  refine oO rfl (oC rfl fc30 rfl ?_)
  obtain ⟨_, _, hr, rfl, rfl⟩ := at_ok (i := 0) (n := 5) hI (hl.kept H) hin (by decide)
  refine ⟨_, _, hr, ?_⟩
  clear hr
  refine oO rfl (op_add rfl rfl (by unfold In64; omega) ?_)
  refine oO rfl (aI rfl ?_)
  refine ops_nil ?_
  refine cR ?_
  refine oO rfl (mI rfl ?_)
  refine oO rfl (op_shl rfl rfl (by omega) (by omega) (by unfold In64; omega) ?_)
  refine oO rfl (op_sub rfl rfl (by show In64 (1 * 2 ^ (2 + atZ l 0 5).toNat - 1); unfold In64; omega) ?_)
  refine oO rfl (op_build (c := [.int _ _, .slice _ _ _, .int _ _, .slice _ _ _]) bf27 rfl ?_)
  refine oO rfl (op_alloc H zf27 (by omega) (fun b4 s2 H => ?_))
  refine oO rfl (op_store0 (vs := [.int _ _, .slice _ _ _, .int _ _, .slice _ _ _]) H sz27 rfl rfl rfl rfl rfl (by omega) (fun s3 H => ?_))
  refine ops_nil ?_
  refine cR ?_
  refine oO rfl (mS rfl ?_)
  refine oO rfl (oC rfl fc30 rfl ?_)
  obtain ⟨_, _, hr, rfl, rfl⟩ := at_ok (i := 1) (n := 8) hI (hl.kept H) hin (by decide)
  refine ⟨_, _, hr, ?_⟩
  clear hr
  refine oO rfl (op_add rfl rfl (by unfold In64; omega) ?_)
  refine oO rfl (aI rfl ?_)
  refine ops_nil ?_
  refine cw_seq ?_
  refine cR ?_
  refine oO rfl (aC ?_)
  refine ops_nil ?_
  refine cw_block ?_
  refine cw_loop (fun k F s1 => ∃ (G : FF) (i : Nat) (D1 : Hp') (sj : Slc) (js : List (Int × Int)), F = lay G [(0, .slice a l.length cap), (2, .pointer (some ⟨b2, 0, none⟩)), (3, .int .i64 (2 + atZ l 0 5)), (4, .pointer (some ⟨b4, 0, none⟩)), (5, .int .i64 (1 + atZ l 1 8)), (6, .int .i64 (i : Int))] ∧ HL [] s s1 ([(b4, .cells [.int .i64 (1 * 2 ^ (2 + atZ l 0 5).toNat - 1), sj.v, .int .i64 0, .slice none 0 0] 27), (b2, .cells [.int .i64 0, .slice none 0 0, .int .i64 0, .slice none 0 0] 27)] ++ D1) (2 + 2 * i) ∧ Own 30 2 D1 sj.v (js.map jc).flatten js.length ∧ js.length = i ∧ (i : Int) ≤ (1 + atZ l 1 8) ∧ (∀ j ∈ js, (0 ≤ j.1 ∧ j.1 < (2 + atZ l 0 5)) ∧ (0 ≤ j.2 ∧ j.2 < (2 + atZ l 0 5)) ∧ j.1 ≠ j.2) ∧ k = ((1 + atZ l 1 8) - i).toNat) ?_ (1 + atZ l 1 8).toNat _ _ ?_
  · rintro k F s1 ⟨G, i, D1, sj, js, rfl, H, ho, hji, him, hjr, rfl⟩
    refine cw_seq ?_
    refine cR ?_
    refine oO rfl (mI rfl ?_)
    refine oO rfl (mI rfl ?_)
    refine oO rfl (op_lss rfl rfl (fun h => ?_) (fun h => ?_))
    · refine ops_nil ?_
      refine cT rfl ?_
      refine cw_skip ?_
      refine sN ?_
      refine cw_seq ?_
      refine cw_block ?_
      refine cR ?_
      refine oO rfl (mS rfl ?_)
      refine oO rfl (mI rfl ?_)
      refine oO rfl (op_mul rfl rfl (by unfold In64; omega) ?_)
      refine oO rfl (op_add rfl rfl (by unfold In64; omega) ?_)
      refine oO rfl (mI rfl ?_)
      refine oO rfl (oC rfl fc30 rfl ?_)
      obtain ⟨_, _, hr, rfl, rfl⟩ := at_ok (i := 2 + 2 * (i : Int)) (n := (2 + atZ l 0 5)) hI (hl.kept H) hin (by omega)
      refine ⟨_, _, hr, ?_⟩
      clear hr
      have hA := atZ_range (l := l) (i := 2 + 2 * (i : Int)) (n := (2 + atZ l 0 5)) (by omega)
      refine oO rfl (aI rfl ?_)
      refine ops_nil ?_
      refine cR ?_
      refine oO rfl (mS rfl ?_)
      refine oO rfl (mI rfl ?_)
      refine oO rfl (op_mul rfl rfl (by unfold In64; omega) ?_)
      refine oO rfl (op_add rfl rfl (by unfold In64; omega) ?_)
      refine oO rfl (mI rfl ?_)
      refine oO rfl (op_sub rfl rfl (by unfold In64; omega) ?_)
      refine oO rfl (oC rfl fc30 rfl ?_)
      obtain ⟨_, _, hr, rfl, rfl⟩ := at_ok (i := 3 + 2 * (i : Int)) (n := (2 + atZ l 0 5) - 1) hI (hl.kept H) hin (by omega)
      refine ⟨_, _, hr, ?_⟩
      clear hr
      have hB := atZ_range (l := l) (i := 3 + 2 * (i : Int)) (n := (2 + atZ l 0 5) - 1) (by omega)
      refine oO rfl (aI rfl ?_)
      refine ops_nil ?_
      refine cw_seq ?_
      refine cR ?_
      refine oO rfl (mI rfl ?_)
      refine oO rfl (mI rfl ?_)
      refine oO rfl (op_geq rfl rfl (fun h => ?_) (fun h => ?_))
      · refine ops_nil ?_
        refine cT rfl ?_
        refine cG ?_
        refine oO rfl (mI rfl ?_)
        refine oO rfl (op_add rfl rfl (by unfold In64; omega) ?_)
        refine oO rfl (aI rfl ?_)
        refine ops_nil ?_
        refine sN ?_
        refine cG ?_
        refine oO rfl (fA of27_1 rfl ?_)
        refine oO rfl (lO sh24 rfl (by exact H.own0) rfl ?_)
        refine oO rfl (mI rfl ?_)
        refine oO rfl (mI rfl ?_)
        refine oO rfl (op_build (c := [.int _ _, .int _ _]) bf30 rfl ?_)
        refine oO rfl (op_buildSlice (c := [.int _ _, .int _ _]) H sl24 rfl rfl (by omega) (fun b52 s4 H => ?_))
        have hgt := H.own0
        have H := HL.swap (A := [_, _]) (B := D1) H.drop0
        refine oO rfl (op_appendOwn H ho sl24 un24 rfl rfl rfl (elems_all hgt rfl) (by decide) rfl rfl (by omega) (by omega) (fun b53 s53 H ho => ?_))
        refine oO rfl (fA of27_1 rfl ?_)
        refine oO rfl (op_store1 (vs := [.slice _ _ _]) H sz24 rfl rfl rfl rfl rfl (by omega) (fun s5 H => ?_))
        refine ops_nil ?_
        refine blk_norm ?_
        refine sN ?_
        refine cG ?_
        refine oO rfl (mI rfl ?_)
        refine oO rfl (op_add rfl rfl (by unfold In64; omega) ?_)
        refine oO rfl (aI rfl ?_)
        refine ops_nil ?_
        refine loop_norm ?_
        refine ⟨((1 + atZ l 1 8) - (i + 1 : Nat)).toNat, by omega, _, i + 1, [(b53, .cells ((js.map jc).flatten ++ jc ((atZ l (2 + 2 * (i : Int)) (2 + atZ l 0 5)), ((atZ l (3 + 2 * (i : Int)) ((2 + atZ l 0 5) - 1)) + 1))) 30)], ⟨some ⟨b53, 0, none⟩, js.length + 1, 2 * (js.length + 1) + 1⟩, js ++ [((atZ l (2 + 2 * (i : Int)) (2 + atZ l 0 5)), ((atZ l (3 + 2 * (i : Int)) ((2 + atZ l 0 5) - 1)) + 1))], slots ⟨rfl, rfl, rfl, rfl, rfl, rfl, trivial⟩, ?_, ?_, by simp; omega, by omega, ?_, rfl⟩
        · refine HL.up (n := 2 + 2 * i + 1 + 1) ?_ (by omega)
          exact HL.swap (A := [_]) (B := [_, _]) H
        · rw [flat_snoc, List.length_append]
          exact ho
        · intro j hj
          rcases List.mem_append.mp hj with hj | hj
          · exact hjr j hj
          · rw [List.mem_singleton] at hj
            subst hj
            exact ⟨⟨hA.1, hA.2⟩, ⟨by omega, by omega⟩, by omega⟩
      · refine ops_nil ?_
        refine cE rfl ?_
        refine cw_skip ?_
        refine sN ?_
        refine cG ?_
        refine oO rfl (fA of27_1 rfl ?_)
        refine oO rfl (lO sh24 rfl (by exact H.own0) rfl ?_)
        refine oO rfl (mI rfl ?_)
        refine oO rfl (mI rfl ?_)
        refine oO rfl (op_build (c := [.int _ _, .int _ _]) bf30 rfl ?_)
        refine oO rfl (op_buildSlice (c := [.int _ _, .int _ _]) H sl24 rfl rfl (by omega) (fun b52 s6 H => ?_))
        have hgt := H.own0
        have H := HL.swap (A := [_, _]) (B := D1) H.drop0
        refine oO rfl (op_appendOwn H ho sl24 un24 rfl rfl rfl (elems_all hgt rfl) (by decide) rfl rfl (by omega) (by omega) (fun b53 s53 H ho => ?_))
        refine oO rfl (fA of27_1 rfl ?_)
        refine oO rfl (op_store1 (vs := [.slice _ _ _]) H sz24 rfl rfl rfl rfl rfl (by omega) (fun s7 H => ?_))
        refine ops_nil ?_
        refine blk_norm ?_
        refine sN ?_
        refine cG ?_
        refine oO rfl (mI rfl ?_)
        refine oO rfl (op_add rfl rfl (by unfold In64; omega) ?_)
        refine oO rfl (aI rfl ?_)
        refine ops_nil ?_
        refine loop_norm ?_
        refine ⟨((1 + atZ l 1 8) - (i + 1 : Nat)).toNat, by omega, _, i + 1, [(b53, .cells ((js.map jc).flatten ++ jc ((atZ l (2 + 2 * (i : Int)) (2 + atZ l 0 5)), (atZ l (3 + 2 * (i : Int)) ((2 + atZ l 0 5) - 1)))) 30)], ⟨some ⟨b53, 0, none⟩, js.length + 1, 2 * (js.length + 1) + 1⟩, js ++ [((atZ l (2 + 2 * (i : Int)) (2 + atZ l 0 5)), (atZ l (3 + 2 * (i : Int)) ((2 + atZ l 0 5) - 1)))], slots ⟨rfl, rfl, rfl, rfl, rfl, rfl, trivial⟩, ?_, ?_, by simp; omega, by omega, ?_, rfl⟩
        · refine HL.up (n := 2 + 2 * i + 1 + 1) ?_ (by omega)
          exact HL.swap (A := [_]) (B := [_, _]) H
        · rw [flat_snoc, List.length_append]
          exact ho
        · intro j hj
          rcases List.mem_append.mp hj with hj | hj
          · exact hjr j hj
          · rw [List.mem_singleton] at hj
            subst hj
            exact ⟨⟨hA.1, hA.2⟩, ⟨by omega, by omega⟩, by omega⟩
    · refine ops_nil ?_
      refine cE rfl ?_
      refine cw_exit ?_
      refine seq_exit ?_
      refine loop_exit ?_
      refine blk_here ?_
      refine sN ?_
      refine cR ?_
      refine oO rfl (mS rfl ?_)
      refine oO rfl (mI rfl ?_)
      refine oO rfl (op_shl rfl rfl (by omega) (by omega) (by unfold In64; omega) ?_)
      refine oO rfl (oC rfl fc30 rfl ?_)
      obtain ⟨_, _, hr, rfl, rfl⟩ := at_ok (i := 18) (n := 1 * 2 ^ (1 + atZ l 1 8).toNat) hI (hl.kept H) hin (by omega)
      refine ⟨_, _, hr, ?_⟩
      clear hr
      refine oO rfl (fA of27_2 rfl ?_)
      refine oO rfl (op_store0 (vs := [.int _ _]) H sz23 rfl rfl rfl rfl rfl (by omega) (fun s8 H => ?_))
      refine ops_nil ?_
      refine cR ?_
      refine oO rfl (fA of27_0 rfl ?_)
      refine oO rfl (lO sh23 rfl (by exact H.own0) rfl ?_)
      refine oO rfl (op_buildSlice (c := [.int _ _]) H sl31 rfl rfl (by omega) (fun b62 s9 H => ?_))
      refine oO rfl (aS rfl ?_)
      refine ops_nil ?_
      refine cw_seq ?_
      refine cR ?_
      refine oO rfl (aC ?_)
      refine ops_nil ?_
      refine cw_block ?_
      refine cw_loop (fun k F s1 => ∃ (G : FF) (q : Nat) (D2 D3 DD : Hp') (sm : Slc) (sa : Option Addr) (sc : Nat) (ss : List Int) (may : List Sp), F = lay G [(0, .slice a l.length cap), (2, .pointer (some ⟨b2, 0, none⟩)), (3, .int .i64 (2 + atZ l 0 5)), (4, .pointer (some ⟨b4, 0, none⟩)), (9, .slice sa ss.length sc), (10, .int .i64 (q : Int))] ∧ HL [] s s1 ([(b4, .cells [.int .i64 (1 * 2 ^ (2 + atZ l 0 5).toNat - 1), sj.v, .int .i64 (atZ l 18 (1 * 2 ^ (1 + atZ l 1 8).toNat)), sm.v] 27), (b2, .cells [.int .i64 0, .slice none 0 0, .int .i64 0, .slice none 0 0] 27)] ++ (D3 ++ (D2 ++ (D1 ++ DD)))) (30 + 2000000000100 * q) ∧ Own 23 1 D3 (.slice sa ss.length sc) (ints ss) ss.length ∧ Own 62 10 D2 sm.v (may.map Sp.cells).flatten may.length ∧ 1 ≤ ss.length ∧ ss.length ≤ 1 + 2 * q ∧ may.length ≤ q ∧ q ≤ 14 ∧ (∀ x ∈ may, validB x.w x.p = true ∧ DirIn DD x) ∧ k = 14 - q) ?_ 14 _ _ ?_
      · rintro k F s1 ⟨G, q, D2, D3, DD, sm, sa, sc, ss, may, rfl, H, hos, hom, hs1, hs2, hm1, hq, hmay, rfl⟩
        refine cw_seq ?_
        refine cR ?_
        refine oO rfl (mI rfl ?_)
        refine oO rfl (op_lss rfl rfl (fun h => ?_) (fun h => ?_))
        · refine ops_nil ?_
          refine cT rfl ?_
          refine cw_skip ?_
          refine sN ?_
          refine cw_seq ?_
          refine cw_block ?_
          refine cR ?_
          refine oO rfl (mS rfl ?_)
          refine oO rfl (mS rfl ?_)
          refine oO rfl (mI rfl ?_)
          refine oO rfl (op_mul rfl rfl (by unfold In64; omega) ?_)
          refine oO rfl (op_add rfl rfl (by unfold In64; omega) ?_)
          refine oO rfl (mS rfl ?_)
          refine oO rfl (op_len un31 rfl rfl rfl ?_)
          refine oO rfl (oC rfl fc30 rfl ?_)
          obtain ⟨_, _, hr, rfl, rfl⟩ := at_ok (i := 20 + 2 * (q : Int)) (n := (ss.length : Int)) hI (hl.kept H) hin (by omega)
          refine ⟨_, _, hr, ?_⟩
          clear hr
          have hC := atZ_range (l := l) (i := 20 + 2 * (q : Int)) (n := (ss.length : Int)) (by omega)
          obtain ⟨bs, ofs, cs, rfl, hgs, hbs, hcs⟩ := (((Own.slG (es := ss.map dc) (by intro x hx; obtain ⟨y, _, rfl⟩ := List.mem_map.mp hx; rfl) (by rw [← ints_flat, List.length_map]; exact hos)).sl H (by intro p hp; simp only [List.mem_append, hp, true_or, or_true])).atD (i := atZ l (20 + 2 * (q : Int)) (ss.length : Int)) (k := (atZ l (20 + 2 * (q : Int)) (ss.length : Int)).toNat) (by omega) (by omega))
          refine oO rfl (op_indexS el31 rfl rfl (by omega) (by omega) ?_)
          refine oO rfl (lO sh23 rfl hgs hcs ?_)
          refine oO rfl (aI rfl ?_)
          refine ops_nil ?_
          refine cR ?_
          refine oO rfl (mI rfl ?_)
          refine oO rfl (mS rfl ?_)
          refine oO rfl (mI rfl ?_)
          refine oO rfl (op_mul rfl rfl (by unfold In64; omega) ?_)
          refine oO rfl (op_add rfl rfl (by unfold In64; omega) ?_)
          refine oO rfl (mI rfl ?_)
          refine oO rfl (op_shl rfl rfl (by omega) (by omega) (by unfold In64; omega) ?_)
          refine oO rfl (oC rfl fc30 rfl ?_)
          obtain ⟨_, _, hr, rfl, rfl⟩ := at_ok (i := 21 + 2 * (q : Int)) (n := 1 * 2 ^ (2 + atZ l 0 5).toNat) hI (hl.kept H) hin (by omega)
          refine ⟨_, _, hr, ?_⟩
          clear hr
          refine oO rfl (op_and rfl rfl ?_)
          refine oO rfl (aI rfl ?_)
          refine ops_nil ?_
          refine cR ?_
          refine oO rfl (mI rfl ?_)
          refine oO rfl (mI rfl ?_)
          refine oO rfl (mI rfl ?_)
          refine oO rfl (op_rem rfl rfl (by omega) ?_)
          refine oO rfl (oC rfl fc38 rfl ?_)
          obtain ⟨_, s9, hr, Dn, n1, s1, s2, n3, s3, s4, l1, l2, l3, l4, rfl, Hc, hd1, hd2, hd3, hd4⟩ := of05_ok (x := (q : Int).tmod 3) (y := 1) hI H.fine (by rw [Int.tmod_eq_emod_of_nonneg (by omega)]; exact ⟨by omega, by omega⟩) ⟨by decide, by decide⟩ (by have := H.most; omega)
          refine ⟨_, _, hr, ?_⟩
          clear hr
          have H := H.callE Hc
          clear Hc
          try simp only [List.cons_append, List.nil_append, List.append_assoc] at H
          obtain ⟨N1, hN1⟩ : ∃ N1, N1 = 30 + 2000000000100 * q + 2000000000000 := ⟨_, rfl⟩
          rw [← hN1] at H
          refine oO rfl (op_build (c := [.int _ _, .int _ _, .bool _, .slice _ _ _, .bool _, .slice _ _ _, .bool _, .slice _ _ _, .bool _, .slice _ _ _]) bf62 rfl ?_)
          refine oO rfl (op_alloc H zf62 (by omega) (fun b13 s10 H => ?_))
          refine oO rfl (op_store0 (vs := [.int _ _, .int _ _, .bool _, .slice _ _ _, .bool _, .slice _ _ _, .bool _, .slice _ _ _, .bool _, .slice _ _ _]) H sz62 rfl rfl rfl rfl rfl (by omega) (fun s11 H => ?_))
          refine ops_nil ?_
          refine cR ?_
          refine oO rfl (lN sh62 rfl (by exact H.own0) rfl ?_)
          refine oO rfl (oC rfl fc39 rfl ?_)
          obtain ⟨_, s9, hr, rfl, Hc⟩ := valid_ok (x := (⟨(ss.getD (atZ l (20 + 2 * (q : Int)) (ss.length : Int)).toNat 0), (andI (ss.getD (atZ l (20 + 2 * (q : Int)) (ss.length : Int)).toNat 0) (atZ l (21 + 2 * (q : Int)) (1 * 2 ^ (2 + atZ l 0 5).toNat))), n1, s1, false, s2, n3, s3, false, s4⟩ : Sp)) hI H.fine (by have := H.most; omega)
          refine ⟨_, _, hr, ?_⟩
          clear hr
          have H := H.call0 Hc
          clear Hc
          cases hv : validB (ss.getD (atZ l (20 + 2 * (q : Int)) (ss.length : Int)).toNat 0) (andI (ss.getD (atZ l (20 + 2 * (q : Int)) (ss.length : Int)).toNat 0) (atZ l (21 + 2 * (q : Int)) (1 * 2 ^ (2 + atZ l 0 5).toNat)))
          · refine ops_nil ?_
            refine cE rfl ?_
            refine cw_skip ?_
            refine blk_norm ?_
            refine sN ?_
            refine cG ?_
            refine oO rfl (mI rfl ?_)
            refine oO rfl (op_add rfl rfl (by unfold In64; omega) ?_)
            refine oO rfl (aI rfl ?_)
            refine ops_nil ?_
            refine loop_norm ?_
            refine ⟨14 - (q + 1), by omega, _, q + 1, D2, D3, DD ++ Dn, sm, _, sc, ss, may, slots ⟨rfl, rfl, rfl, rfl, rfl, rfl, trivial⟩, H.drop0.up (by omega), hos, hom, hs1, by omega, by omega, by omega, ?_, rfl⟩
            exact fun x hx => ⟨(hmay x hx).1, (hmay x hx).2.mono (List.subset_append_left _ _)⟩
          · refine ops_nil ?_
            refine cT rfl ?_
            refine cR ?_
            refine oO rfl (fA of27_3 rfl ?_)
            refine oO rfl (lO sh25 rfl (by exact H.own1) rfl ?_)
            refine oO rfl (lN sh62 rfl (by exact H.own0) rfl ?_)
            refine oO rfl (op_buildSlice (c := [.int _ _, .int _ _, .bool _, .slice _ _ _, .bool _, .slice _ _ _, .bool _, .slice _ _ _, .bool _, .slice _ _ _]) H sl25 rfl rfl (by omega) (fun b97 s12 H => ?_))
            have hgt := H.own0
            have H := (HL.mid2 (A := [_, _, _]) (B := D3) (C := D2) (E := D1 ++ (DD ++ Dn)) H.drop0)
            refine oO rfl (op_appendOwn H hom sl25 un25 rfl rfl rfl (elems_all hgt rfl) (by decide) rfl rfl (by omega) (by omega) (fun b98 s98 H hom => ?_))
            refine oO rfl (fA of27_3 rfl ?_)
            refine oO rfl (op_store2 (vs := [.slice _ _ _]) H sz25 rfl rfl rfl rfl rfl (by omega) (fun s13 H => ?_))
            refine ops_nil ?_
            refine cG ?_
            refine oO rfl (mS rfl ?_)
            refine oO rfl (mI rfl ?_)
            refine oO rfl (mI rfl ?_)
            refine oO rfl (mI rfl ?_)
            refine oO rfl (op_andNot rfl rfl ?_)
            refine oO rfl (op_buildSlice (c := [.int _ _, .int _ _]) H sl31 rfl rfl (by omega) (fun b105 s14 H => ?_))
            have hgt := H.own0
            have H := (HL.mid (A := [_, _, _, _]) (B := D3) (C := D1 ++ (DD ++ Dn)) H.drop0)
            refine oO rfl (op_appendOwn H hos sl31 un31 rfl rfl rfl (elems_all hgt rfl) (by decide) rfl rfl (by omega) (by omega) (fun b106 s106 H hos => ?_))
            refine oO rfl (aS rfl ?_)
            refine ops_nil ?_
            refine blk_norm ?_
            refine sN ?_
            refine cG ?_
            refine oO rfl (mI rfl ?_)
            refine oO rfl (op_add rfl rfl (by unfold In64; omega) ?_)
            refine oO rfl (aI rfl ?_)
            refine ops_nil ?_
            refine loop_norm ?_
            refine ⟨14 - (q + 1), by omega, _, q + 1, [(b98, .cells ((may.map Sp.cells).flatten ++ Sp.cells (⟨(ss.getD (atZ l (20 + 2 * (q : Int)) (ss.length : Int)).toNat 0), (andI (ss.getD (atZ l (20 + 2 * (q : Int)) (ss.length : Int)).toNat 0) (atZ l (21 + 2 * (q : Int)) (1 * 2 ^ (2 + atZ l 0 5).toNat))), n1, s1, false, s2, n3, s3, false, s4⟩ : Sp)) 62)], [(b106, .cells (ints ss ++ [.int .i64 (andI (ss.getD (atZ l (20 + 2 * (q : Int)) (ss.length : Int)).toNat 0) (atZ l (21 + 2 * (q : Int)) (1 * 2 ^ (2 + atZ l 0 5).toNat))), .int .i64 (andNotI (ss.getD (atZ l (20 + 2 * (q : Int)) (ss.length : Int)).toNat 0) (andI (ss.getD (atZ l (20 + 2 * (q : Int)) (ss.length : Int)).toNat 0) (atZ l (21 + 2 * (q : Int)) (1 * 2 ^ (2 + atZ l 0 5).toNat))))]) 23)], DD ++ Dn, ⟨some ⟨b98, 0, none⟩, may.length + 1, 2 * (may.length + 1) + 1⟩, some ⟨b106, 0, none⟩, 2 * (ss.length + 2) + 1, ss ++ [(andI (ss.getD (atZ l (20 + 2 * (q : Int)) (ss.length : Int)).toNat 0) (atZ l (21 + 2 * (q : Int)) (1 * 2 ^ (2 + atZ l 0 5).toNat))), andNotI (ss.getD (atZ l (20 + 2 * (q : Int)) (ss.length : Int)).toNat 0) (andI (ss.getD (atZ l (20 + 2 * (q : Int)) (ss.length : Int)).toNat 0) (atZ l (21 + 2 * (q : Int)) (1 * 2 ^ (2 + atZ l 0 5).toNat)))], may ++ [(⟨(ss.getD (atZ l (20 + 2 * (q : Int)) (ss.length : Int)).toNat 0), (andI (ss.getD (atZ l (20 + 2 * (q : Int)) (ss.length : Int)).toNat 0) (atZ l (21 + 2 * (q : Int)) (1 * 2 ^ (2 + atZ l 0 5).toNat))), n1, s1, false, s2, n3, s3, false, s4⟩ : Sp)], slots ⟨rfl, rfl, rfl, rfl, by rw [List.length_append]; rfl, rfl, trivial⟩, ?_, ?_, ?_, by simp, by simp; omega, by simp; omega, by omega, ?_, rfl⟩
            · exact ((HL.mid (A := [_, _]) (B := [_, _]) (C := D1 ++ (DD ++ Dn)) H.drop2)).up (by omega)
            · rw [ints_append, List.length_append]
              exact hos
            · rw [flat_snoc, List.length_append]
              exact hom
            · intro x hx
              rcases List.mem_append.mp hx with hx | hx
              · exact ⟨(hmay x hx).1, (hmay x hx).2.mono (List.subset_append_left _ _)⟩
              · rw [List.mem_singleton] at hx
                subst hx
                exact ⟨hv, rfl, rfl, l1, l2, l3, l4, hd1.mono (List.subset_append_right _ _), hd2.mono (List.subset_append_right _ _), hd3.mono (List.subset_append_right _ _), hd4.mono (List.subset_append_right _ _)⟩
        · refine ops_nil ?_
          refine cE rfl ?_
          refine cw_exit ?_
          refine seq_exit ?_
          refine loop_exit ?_
          refine blk_here ?_
          refine sN ?_
          refine cR ?_
          refine oO rfl (lN sh27 rfl (by exact H.own0) rfl ?_)
          refine oO rfl (op_store1 (vs := [.int _ _, .slice _ _ _, .int _ _, .slice _ _ _]) H sz27 rfl rfl rfl rfl rfl (by omega) (fun s15 H => ?_))
          refine ops_nil ?_
          refine cw_ret ?_
          refine ret_end ?_
          refine end_cell sh27 rfl (by exact H.own1) rfl ?_
          have hbad := atZ_range (l := l) (i := 18) (n := 1 * 2 ^ (1 + atZ l 1 8).toNat) (by omega)
          have hjl : js.length = (1 + atZ l 1 8).toNat := by omega
          refine ⟨D3 ++ (D2 ++ D1), DD, sj, sm, js, may, (2 + atZ l 0 5).toNat, _, _, rfl, ?_, ?_, ?_, ⟨by omega, by omega, by omega⟩, ⟨by omega, by omega⟩, ?_, ⟨hbad.1, ?_⟩, by omega, hmay⟩
          · rw [List.append_assoc, List.append_assoc]
            exact H.drop0.drop0.up (by omega)
          · exact (Own.slG (es := js.map jc) (by intro x hx; obtain ⟨y, _, rfl⟩ := List.mem_map.mp hx; rfl) (by rw [List.length_map]; exact ho)).mono (by intro p hp; simp only [List.mem_append, hp, or_true])
          · exact (Own.slG (es := may.map Sp.cells) (by intro x hx; obtain ⟨y, _, rfl⟩ := List.mem_map.mp hx; rfl) (by rw [List.length_map]; exact hom)).mono (by intro p hp; simp only [List.mem_append, hp, or_true, true_or])
          · intro j hj
            have := hjr j hj
            omega
          · rw [hjl]
            omega
      · refine ⟨_, 0, [], [(b62, .cells [.int .i64 (1 * 2 ^ (2 + atZ l 0 5).toNat - 1)] 23)], [], ⟨none, 0, 0⟩, some ⟨b62, 0, none⟩, 2, [(1 * 2 ^ (2 + atZ l 0 5).toNat - 1)], [], slots ⟨rfl, rfl, rfl, rfl, rfl, rfl, trivial⟩, ?_, ?_, .nil, by simp, by simp, by simp, by omega, (by intro x hx; cases hx), rfl⟩
        · have H := (HL.mid (A := [_]) (B := [_, _]) (C := D1) H)
          rw [List.nil_append, List.append_nil]
          exact H.up (by omega)
        · exact .block b62 2 _ 1 rfl (by decide)
  · exact ⟨_, 0, [], ⟨none, 0, 0⟩, [], slots ⟨rfl, rfl, rfl, rfl, rfl, rfl, trivial⟩, H, .nil, rfl, by omega, (by intro j hj; cases hj), by omega⟩

end Go.Proofs.YtdejleegamcioaaGreat
