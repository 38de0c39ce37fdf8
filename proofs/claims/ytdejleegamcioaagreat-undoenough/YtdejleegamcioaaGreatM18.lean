/- The reference of rational numbers and of vectors: whole numbers. -/
import Derived.Test.YtdejleegamcioaaGreatM17
namespace Go.Proofs.YtdejleegamcioaaGreat
open Go Go.M

theorem fb165 : funcB Tryz.f165 (Tryz.f165.body.getD .skip) 2 = true := by kernel_rfl
theorem fc210 : funcF Tryz.prog 210 = true := by kernel_rfl
theorem fb166 : funcB Tryz.f166 (Tryz.f166.body.getD .skip) 1 = true := by kernel_rfl

theorem Dig.take {l : List Int} (h : Dig l) (m : Nat) : Dig (l.take m) := fun x hx => h x (List.mem_of_mem_take hx)
/-- A slice in these blocks, or one that was there. -/
def SlX (s0 : St) (D : Hp') (v : Value) (l : List Int) : Prop := SlIn D v l ∨ SlD s0 v l
theorem SlX.sl {s0 s : St} {D L : Hp'} {v : Value} {l : List Int} {n : Nat} (h : SlX s0 D v l) (H : HL [] s0 s L n) (hs : D ⊆ L) : SlD s v l := by
  rcases h with h | h
  · exact h.sl H hs
  · exact h.kept H
theorem SlX.isSlice {s0 : St} {D : Hp'} {v : Value} {l : List Int} (h : SlX s0 D v l) : ∃ a n c, v = .slice a n c ∧ n = l.length := by
  rcases h with h | h
  · exact h.isSlice
  · obtain ⟨a, n, c, h1, h2⟩ := Sl.isSlice h
    exact ⟨a, n, c, h1, by rw [h2, List.length_map]⟩
theorem SlX.nv {s0 : St} {D : Hp'} {a : Option Addr} {len cap : Nat} {l : List Int} (h : SlX s0 D (.slice a len cap) l) {m : Nat} (hm : m ≤ l.length) : SlX s0 D (nv a m cap) (l.take m) := by
  rcases h with h | h
  · exact .inl (h.take hm)
  · right
    unfold Go.Proofs.YtdejleegamcioaaGreat.nv
    by_cases hz : m = 0
    · rw [if_pos hz]; subst hz; exact .nil 0 rfl (by simp)
    · rw [if_neg hz]
      have := Sl.take h (m := m) (by simpa using hm)
      rwa [← List.map_take] at this

set_option maxHeartbeats 4000000 in
set_option maxRecDepth 10000 in
theorem div1_ok {I : Table} (hI : Plain I) {s : St} (hf : Fine s) {n1 : Bool} {s1 s2 : Value} {la : List Int} (ha : SlD s s1 la) (hb : SlD s s2 [1]) (hd : Dig la) (hlen : la.length ≤ 3) (hroom : s.next + 200000000100 ≤ limit) :
    ∃ v' s', Rets Tryz.prog I 165 #[.agg ⟨[.bool n1, s1]⟩, .agg ⟨[.bool false, s2]⟩] s v' s' ∧ (∃ D nb q lq, v' = .tuple ⟨[.agg ⟨[.bool nb, q]⟩, .agg ⟨[.bool false, .slice none 0 0]⟩]⟩ ∧ HL [] s s' D 200000000100 ∧ SlIn D q lq ∧ Dig lq ∧ lq.length ≤ 3 ∧ (n1 = false → nb = false)) := by
  have H := hf.hl
  obtain ⟨a, len, cap, rfl, hn⟩ := ha.isSlice
  rw [List.length_map] at hn
  subst hn
  obtain ⟨a2, len, cap2, rfl, hn⟩ := hb.isSlice
  simp only [List.length_map, List.length_cons, List.length_nil, Nat.zero_add] at hn
  subst hn
  refine call_of 2 (hI 165 (by decide) (by decide)) Tryz.func165 rfl fb165 rfl ?_
  refine cw_rseq ?_
  first | refine ops_on rfl (op_boxA H rfl (by (unfold limit at *; omega)) (fun b2 s1 H => ?_)) | refine ops_on rfl (op_box H rfl (by (unfold limit at *; omega)) (fun b2 s1 H => ?_))
  first | refine ops_on rfl (op_boxA H rfl (by (unfold limit at *; omega)) (fun b3 s2 H => ?_)) | refine ops_on rfl (op_box H rfl (by (unfold limit at *; omega)) (fun b3 s2 H => ?_))
  refine ops_on rfl (op_alloc H zf56 (by (unfold limit at *; omega)) (fun b4 s3 H => ?_))
  refine ops_on rfl (op_alloc H zf56 (by (unfold limit at *; omega)) (fun b5 s4 H => ?_))
  refine ops_nil ?_
  refine cw_seq ?_
  refine cw_rseq ?_
  refine ops_on rfl (op_fieldAddr of56_1 rfl ?_)
  refine ops_on rfl (op_load1 sh22 rfl (by first | exact H.own0 | exact H.own1 | exact H.own2 | exact H.own3 | exact H.own4 | exact H.own5 | exact H.ownA | assumption) rfl ?_)
  refine ops_on rfl (op_len un22 rfl rfl rfl ?_)
  refine ops_on rfl (op_eql rfl rfl (fun h => False.elim (by omega)) (fun h => ?_))
  refine ops_nil ?_
  refine cw_else rfl ?_
  refine cw_skip ?_
  refine seq_norm ?_
  refine cw_rseq ?_
  refine ops_on rfl (op_fieldAddr of56_1 rfl ?_)
  refine ops_on rfl (op_load1 sh22 rfl (by first | exact H.own0 | exact H.own1 | exact H.own2 | exact H.own3 | exact H.own4 | exact H.own5 | exact H.ownA | assumption) rfl ?_)
  refine ops_on rfl (op_fieldAddr of56_1 rfl ?_)
  refine ops_on rfl (op_load1 sh22 rfl (by first | exact H.own0 | exact H.own1 | exact H.own2 | exact H.own3 | exact H.own4 | exact H.own5 | exact H.ownA | assumption) rfl ?_)
  refine ops_on rfl (op_call rfl fc210 rfl ?_)
  obtain ⟨_, s9, hr, D1, q, r, lq, rfl, Hc, hq, hdq, hlq, hrr⟩ := divided1_ok hI H.fine (ha.kept H) (hb.kept H) hd hlen (by have := H.most; unfold limit at *; omega)
  refine ⟨_, _, hr, ?_⟩
  clear hr
  have H := H.callE Hc
  clear Hc
  try simp only [List.cons_append, List.nil_append, List.append_assoc] at H
  obtain ⟨aq, nq, cq, rfl, hnq⟩ := hq.isSlice
  subst hnq
  obtain ⟨ar, nr, cr, rfl, hnr⟩ := hrr.isSlice
  subst hnr
  first | refine ops_on rfl (op_moveT rfl ?_) | refine ops_on rfl (op_move ?_)
  refine ops_on rfl (op_extract rfl rfl ?_)
  refine ops_on rfl (op_extract rfl rfl ?_)
  first | refine ops_on rfl (op_assignS rfl ?_) | refine ops_on rfl (op_assign ?_)
  first | refine ops_on rfl (op_assignS rfl ?_) | refine ops_on rfl (op_assign ?_)
  refine ops_nil ?_
  refine cw_rseq ?_
  refine ops_on rfl (op_fieldAddr of56_0 rfl ?_)
  refine ops_on rfl (op_load1 sh4 rfl (by first | exact H.own0 | exact H.own1 | exact H.own2 | exact H.own3 | exact H.own4 | exact H.own5 | exact H.ownA | assumption) rfl ?_)
  refine ops_on rfl (op_fieldAddr of56_0 rfl ?_)
  refine ops_on rfl (op_load1 sh4 rfl (by first | exact H.own0 | exact H.own1 | exact H.own2 | exact H.own3 | exact H.own4 | exact H.own5 | exact H.ownA | assumption) rfl ?_)
  refine ops_on rfl (op_neqb un4 rfl rfl ?_)
  first | refine ops_on rfl (op_moveS rfl ?_) | refine ops_on rfl (op_move ?_)
  refine ops_on rfl (op_call rfl fc167 rfl ?_)
  obtain ⟨_, s9, hr, rfl, Hc⟩ := normal_ok (l := lq) (neg := !(n1 == false)) hI H.fine (hq.sl H (by intro p hp; (try simp only [List.mem_cons, List.mem_append, List.not_mem_nil, or_false] at hp ⊢); first | exact hp | simp only [hp, true_or, or_true])) (by omega) (by have := H.most; unfold limit at *; omega)
  refine ⟨_, _, hr, ?_⟩
  clear hr
  have H := H.call0 Hc
  clear Hc
  have hqt := hq.take (nlen_le lq lq.length)
  obtain ⟨ax, nx, cx, hxe, hnx⟩ := hqt.isSlice
  rw [hxe] at hqt
  rw [hxe]
  obtain ⟨nb, hnb⟩ : ∃ nb, nb = (if nlen lq lq.length = 0 then false else !(n1 == false)) := ⟨_, rfl⟩
  rw [← hnb]
  have hnb2 : n1 = false → nb = false := by intro h; rw [hnb, h]; split <;> rfl
  clear hnb
  refine ops_on rfl (op_alloc H zf56 (by (unfold limit at *; omega)) (fun b8 s5 H => ?_))
  first | refine ops_on rfl (op_store0 (vs := [.bool _, .slice _ _ _]) H sz56 rfl rfl rfl rfl rfl (by (unfold limit at *; omega)) (fun s6 H => ?_)) | refine ops_on rfl (op_store1 (vs := [.bool _, .slice _ _ _]) H sz56 rfl rfl rfl rfl rfl (by (unfold limit at *; omega)) (fun s6 H => ?_)) | refine ops_on rfl (op_store2 (vs := [.bool _, .slice _ _ _]) H sz56 rfl rfl rfl rfl rfl (by (unfold limit at *; omega)) (fun s6 H => ?_)) | refine ops_on rfl (op_store3 (vs := [.bool _, .slice _ _ _]) H sz56 rfl rfl rfl rfl rfl (by (unfold limit at *; omega)) (fun s6 H => ?_)) | refine ops_on rfl (op_store4 (vs := [.bool _, .slice _ _ _]) H sz56 rfl rfl rfl rfl rfl (by (unfold limit at *; omega)) (fun s6 H => ?_)) | refine ops_on rfl (op_store0 H sz56 rfl rfl rfl rfl rfl (by (unfold limit at *; omega)) (fun s6 H => ?_)) | refine ops_on rfl (op_store1 H sz56 rfl rfl rfl rfl rfl (by (unfold limit at *; omega)) (fun s6 H => ?_)) | refine ops_on rfl (op_store2 H sz56 rfl rfl rfl rfl rfl (by (unfold limit at *; omega)) (fun s6 H => ?_)) | refine ops_on rfl (op_store3 H sz56 rfl rfl rfl rfl rfl (by (unfold limit at *; omega)) (fun s6 H => ?_)) | refine ops_on rfl (op_store4 H sz56 rfl rfl rfl rfl rfl (by (unfold limit at *; omega)) (fun s6 H => ?_))
  refine ops_nil ?_
  refine cw_rseq ?_
  first | refine ops_on rfl (op_moveS rfl ?_) | refine ops_on rfl (op_move ?_)
  refine ops_on rfl (op_call rfl fc167 rfl ?_)
  obtain ⟨_, s9, hr, rfl, Hc⟩ := normal_ok (l := []) (neg := false) hI H.fine (hrr.sl H (by intro p hp; (try simp only [List.mem_cons, List.mem_append, List.not_mem_nil, or_false] at hp ⊢); first | exact hp | simp only [hp, true_or, or_true])) (by decide) (by have := H.most; unfold limit at *; omega)
  refine ⟨_, _, hr, ?_⟩
  clear hr
  have H := H.call0 Hc
  clear Hc
  refine ops_on rfl (op_alloc H zf56 (by (unfold limit at *; omega)) (fun b9 s7 H => ?_))
  first | refine ops_on rfl (op_store0 (vs := [.bool _, .slice _ _ _]) H sz56 rfl rfl rfl rfl rfl (by (unfold limit at *; omega)) (fun s8 H => ?_)) | refine ops_on rfl (op_store1 (vs := [.bool _, .slice _ _ _]) H sz56 rfl rfl rfl rfl rfl (by (unfold limit at *; omega)) (fun s8 H => ?_)) | refine ops_on rfl (op_store2 (vs := [.bool _, .slice _ _ _]) H sz56 rfl rfl rfl rfl rfl (by (unfold limit at *; omega)) (fun s8 H => ?_)) | refine ops_on rfl (op_store3 (vs := [.bool _, .slice _ _ _]) H sz56 rfl rfl rfl rfl rfl (by (unfold limit at *; omega)) (fun s8 H => ?_)) | refine ops_on rfl (op_store4 (vs := [.bool _, .slice _ _ _]) H sz56 rfl rfl rfl rfl rfl (by (unfold limit at *; omega)) (fun s8 H => ?_)) | refine ops_on rfl (op_store0 H sz56 rfl rfl rfl rfl rfl (by (unfold limit at *; omega)) (fun s8 H => ?_)) | refine ops_on rfl (op_store1 H sz56 rfl rfl rfl rfl rfl (by (unfold limit at *; omega)) (fun s8 H => ?_)) | refine ops_on rfl (op_store2 H sz56 rfl rfl rfl rfl rfl (by (unfold limit at *; omega)) (fun s8 H => ?_)) | refine ops_on rfl (op_store3 H sz56 rfl rfl rfl rfl rfl (by (unfold limit at *; omega)) (fun s8 H => ?_)) | refine ops_on rfl (op_store4 H sz56 rfl rfl rfl rfl rfl (by (unfold limit at *; omega)) (fun s8 H => ?_))
  refine ops_nil ?_
  refine cw_seq ?_
  cases n1
  · refine cw_rseq ?_
    refine ops_on rfl (op_fieldAddr of56_0 rfl ?_)
    refine ops_on rfl (op_load1 sh4 rfl (by first | exact H.own0 | exact H.own1 | exact H.own2 | exact H.own3 | exact H.own4 | exact H.own5 | exact H.ownA | assumption) rfl ?_)
    first | refine ops_on rfl (op_moveB rfl ?_) | refine ops_on rfl (op_move ?_)
    refine ops_off rfl ?_
    refine ops_off rfl ?_
    refine ops_off rfl ?_
    refine ops_off rfl ?_
    refine ops_on rfl (op_pick0C rfl ?_)
    refine ops_nil ?_
    refine cw_else rfl ?_
    refine cw_skip ?_
    refine seq_norm ?_
    refine cw_dseq [⟨0, 0, .light, [1]⟩, ⟨1, 0, .light, [0]⟩, ⟨2, 1, .whole, [1]⟩, ⟨3, 7, .whole, []⟩] (by kernel_rfl) (by kernel_rfl) ?_
    refine dr_loadN rfl rfl sh56 rfl (by first | exact H.own0 | exact H.own1 | exact H.own2 | exact H.own3 | exact H.own4 | exact H.own5 | exact H.ownA | assumption) (by first | exact H.lim0 (by (unfold limit at *; omega)) | exact H.lim1 (by (unfold limit at *; omega)) | exact H.lim2 (by (unfold limit at *; omega)) | exact H.lim3 (by (unfold limit at *; omega)) | exact H.lim4 (by (unfold limit at *; omega)) | exact H.lim5 (by (unfold limit at *; omega)) | (have := H.most; (unfold limit at *; omega))) rfl ?_
    refine dr_loadN rfl rfl sh56 rfl (by first | exact H.own0 | exact H.own1 | exact H.own2 | exact H.own3 | exact H.own4 | exact H.own5 | exact H.ownA | assumption) (by first | exact H.lim0 (by (unfold limit at *; omega)) | exact H.lim1 (by (unfold limit at *; omega)) | exact H.lim2 (by (unfold limit at *; omega)) | exact H.lim3 (by (unfold limit at *; omega)) | exact H.lim4 (by (unfold limit at *; omega)) | exact H.lim5 (by (unfold limit at *; omega)) | (have := H.most; (unfold limit at *; omega))) rfl ?_
    first | refine dr_store0 (vs := [.bool _, .slice _ _ _]) (fr := [_]) H rfl rfl sz56 rfl rfl rfl rfl rfl rfl (by have hd := H.dist; simp only [List.pairwise_cons, List.mem_cons, List.not_mem_nil, or_false, forall_eq_or_imp, forall_eq, false_imp_iff, implies_true] at hd ⊢; try omega) (by (unfold limit at *; omega)) (fun s9 H => ?_) | refine dr_store1 (vs := [.bool _, .slice _ _ _]) (fr := [_]) H rfl rfl sz56 rfl rfl rfl rfl rfl rfl (by have hd := H.dist; simp only [List.pairwise_cons, List.mem_cons, List.not_mem_nil, or_false, forall_eq_or_imp, forall_eq, false_imp_iff, implies_true] at hd ⊢; try omega) (by (unfold limit at *; omega)) (fun s9 H => ?_) | refine dr_store2 (vs := [.bool _, .slice _ _ _]) (fr := [_]) H rfl rfl sz56 rfl rfl rfl rfl rfl rfl (by have hd := H.dist; simp only [List.pairwise_cons, List.mem_cons, List.not_mem_nil, or_false, forall_eq_or_imp, forall_eq, false_imp_iff, implies_true] at hd ⊢; try omega) (by (unfold limit at *; omega)) (fun s9 H => ?_) | refine dr_store3 (vs := [.bool _, .slice _ _ _]) (fr := [_]) H rfl rfl sz56 rfl rfl rfl rfl rfl rfl (by have hd := H.dist; simp only [List.pairwise_cons, List.mem_cons, List.not_mem_nil, or_false, forall_eq_or_imp, forall_eq, false_imp_iff, implies_true] at hd ⊢; try omega) (by (unfold limit at *; omega)) (fun s9 H => ?_) | refine dr_store4 (vs := [.bool _, .slice _ _ _]) (fr := [_]) H rfl rfl sz56 rfl rfl rfl rfl rfl rfl (by have hd := H.dist; simp only [List.pairwise_cons, List.mem_cons, List.not_mem_nil, or_false, forall_eq_or_imp, forall_eq, false_imp_iff, implies_true] at hd ⊢; try omega) (by (unfold limit at *; omega)) (fun s9 H => ?_) | refine dr_store5 (vs := [.bool _, .slice _ _ _]) (fr := [_]) H rfl rfl sz56 rfl rfl rfl rfl rfl rfl (by have hd := H.dist; simp only [List.pairwise_cons, List.mem_cons, List.not_mem_nil, or_false, forall_eq_or_imp, forall_eq, false_imp_iff, implies_true] at hd ⊢; try omega) (by (unfold limit at *; omega)) (fun s9 H => ?_)
    first | refine dr_store0 (vs := [.bool _, .slice _ _ _]) (fr := []) H rfl rfl sz56 rfl rfl rfl rfl rfl rfl (by have hd := H.dist; simp only [List.pairwise_cons, List.mem_cons, List.not_mem_nil, or_false, forall_eq_or_imp, forall_eq, false_imp_iff, implies_true] at hd ⊢; try omega) (by (unfold limit at *; omega)) (fun s10 H => ?_) | refine dr_store1 (vs := [.bool _, .slice _ _ _]) (fr := []) H rfl rfl sz56 rfl rfl rfl rfl rfl rfl (by have hd := H.dist; simp only [List.pairwise_cons, List.mem_cons, List.not_mem_nil, or_false, forall_eq_or_imp, forall_eq, false_imp_iff, implies_true] at hd ⊢; try omega) (by (unfold limit at *; omega)) (fun s10 H => ?_) | refine dr_store2 (vs := [.bool _, .slice _ _ _]) (fr := []) H rfl rfl sz56 rfl rfl rfl rfl rfl rfl (by have hd := H.dist; simp only [List.pairwise_cons, List.mem_cons, List.not_mem_nil, or_false, forall_eq_or_imp, forall_eq, false_imp_iff, implies_true] at hd ⊢; try omega) (by (unfold limit at *; omega)) (fun s10 H => ?_) | refine dr_store3 (vs := [.bool _, .slice _ _ _]) (fr := []) H rfl rfl sz56 rfl rfl rfl rfl rfl rfl (by have hd := H.dist; simp only [List.pairwise_cons, List.mem_cons, List.not_mem_nil, or_false, forall_eq_or_imp, forall_eq, false_imp_iff, implies_true] at hd ⊢; try omega) (by (unfold limit at *; omega)) (fun s10 H => ?_) | refine dr_store4 (vs := [.bool _, .slice _ _ _]) (fr := []) H rfl rfl sz56 rfl rfl rfl rfl rfl rfl (by have hd := H.dist; simp only [List.pairwise_cons, List.mem_cons, List.not_mem_nil, or_false, forall_eq_or_imp, forall_eq, false_imp_iff, implies_true] at hd ⊢; try omega) (by (unfold limit at *; omega)) (fun s10 H => ?_) | refine dr_store5 (vs := [.bool _, .slice _ _ _]) (fr := []) H rfl rfl sz56 rfl rfl rfl rfl rfl rfl (by have hd := H.dist; simp only [List.pairwise_cons, List.mem_cons, List.not_mem_nil, or_false, forall_eq_or_imp, forall_eq, false_imp_iff, implies_true] at hd ⊢; try omega) (by (unfold limit at *; omega)) (fun s10 H => ?_)
    refine draw_nil ?_
    refine cw_ret ?_
    refine ret_end ?_
    refine end_cc sh56 rfl (by first | exact H.own0 | exact H.own1 | exact H.own2 | exact H.own3 | exact H.own4 | exact H.own5 | exact H.ownA | assumption) rfl sh56 rfl (by first | exact H.own0 | exact H.own1 | exact H.own2 | exact H.own3 | exact H.own4 | exact H.own5 | exact H.ownA | assumption) rfl ?_
    exact ⟨_, _, _, _, rfl, H.up (by omega), hqt.mono (by intro p hp; (try simp only [List.mem_cons, List.mem_append, List.not_mem_nil, or_false] at hp ⊢); first | exact hp | simp only [hp, true_or, or_true]), hdq.take _, by rw [List.length_take]; omega, hnb2⟩
  · refine cw_rseq ?_
    refine ops_on rfl (op_fieldAddr of56_0 rfl ?_)
    refine ops_on rfl (op_load1 sh4 rfl (by first | exact H.own0 | exact H.own1 | exact H.own2 | exact H.own3 | exact H.own4 | exact H.own5 | exact H.ownA | assumption) rfl ?_)
    first | refine ops_on rfl (op_moveB rfl ?_) | refine ops_on rfl (op_move ?_)
    refine ops_on rfl (op_fieldAddr of56_1 rfl ?_)
    refine ops_on rfl (op_load1 sh22 rfl (by first | exact H.own0 | exact H.own1 | exact H.own2 | exact H.own3 | exact H.own4 | exact H.own5 | exact H.ownA | assumption) rfl ?_)
    refine ops_on rfl (op_len un22 rfl rfl rfl ?_)
    refine ops_on rfl (op_gtr rfl rfl (fun h => False.elim (by have h2 : ((0 : Nat) : Int) > 0 := h; omega)) (fun h => ?_))
    first | refine ops_on rfl (op_pick1B rfl rfl ?_) | refine ops_on rfl (op_pick1 rfl ?_)
    refine ops_nil ?_
    refine cw_else rfl ?_
    refine cw_skip ?_
    refine seq_norm ?_
    refine cw_dseq [⟨0, 0, .light, [1]⟩, ⟨1, 0, .light, [0]⟩, ⟨2, 1, .whole, [1]⟩, ⟨3, 7, .whole, []⟩] (by kernel_rfl) (by kernel_rfl) ?_
    refine dr_loadN rfl rfl sh56 rfl (by first | exact H.own0 | exact H.own1 | exact H.own2 | exact H.own3 | exact H.own4 | exact H.own5 | exact H.ownA | assumption) (by first | exact H.lim0 (by (unfold limit at *; omega)) | exact H.lim1 (by (unfold limit at *; omega)) | exact H.lim2 (by (unfold limit at *; omega)) | exact H.lim3 (by (unfold limit at *; omega)) | exact H.lim4 (by (unfold limit at *; omega)) | exact H.lim5 (by (unfold limit at *; omega)) | (have := H.most; (unfold limit at *; omega))) rfl ?_
    refine dr_loadN rfl rfl sh56 rfl (by first | exact H.own0 | exact H.own1 | exact H.own2 | exact H.own3 | exact H.own4 | exact H.own5 | exact H.ownA | assumption) (by first | exact H.lim0 (by (unfold limit at *; omega)) | exact H.lim1 (by (unfold limit at *; omega)) | exact H.lim2 (by (unfold limit at *; omega)) | exact H.lim3 (by (unfold limit at *; omega)) | exact H.lim4 (by (unfold limit at *; omega)) | exact H.lim5 (by (unfold limit at *; omega)) | (have := H.most; (unfold limit at *; omega))) rfl ?_
    first | refine dr_store0 (vs := [.bool _, .slice _ _ _]) (fr := [_]) H rfl rfl sz56 rfl rfl rfl rfl rfl rfl (by have hd := H.dist; simp only [List.pairwise_cons, List.mem_cons, List.not_mem_nil, or_false, forall_eq_or_imp, forall_eq, false_imp_iff, implies_true] at hd ⊢; try omega) (by (unfold limit at *; omega)) (fun s11 H => ?_) | refine dr_store1 (vs := [.bool _, .slice _ _ _]) (fr := [_]) H rfl rfl sz56 rfl rfl rfl rfl rfl rfl (by have hd := H.dist; simp only [List.pairwise_cons, List.mem_cons, List.not_mem_nil, or_false, forall_eq_or_imp, forall_eq, false_imp_iff, implies_true] at hd ⊢; try omega) (by (unfold limit at *; omega)) (fun s11 H => ?_) | refine dr_store2 (vs := [.bool _, .slice _ _ _]) (fr := [_]) H rfl rfl sz56 rfl rfl rfl rfl rfl rfl (by have hd := H.dist; simp only [List.pairwise_cons, List.mem_cons, List.not_mem_nil, or_false, forall_eq_or_imp, forall_eq, false_imp_iff, implies_true] at hd ⊢; try omega) (by (unfold limit at *; omega)) (fun s11 H => ?_) | refine dr_store3 (vs := [.bool _, .slice _ _ _]) (fr := [_]) H rfl rfl sz56 rfl rfl rfl rfl rfl rfl (by have hd := H.dist; simp only [List.pairwise_cons, List.mem_cons, List.not_mem_nil, or_false, forall_eq_or_imp, forall_eq, false_imp_iff, implies_true] at hd ⊢; try omega) (by (unfold limit at *; omega)) (fun s11 H => ?_) | refine dr_store4 (vs := [.bool _, .slice _ _ _]) (fr := [_]) H rfl rfl sz56 rfl rfl rfl rfl rfl rfl (by have hd := H.dist; simp only [List.pairwise_cons, List.mem_cons, List.not_mem_nil, or_false, forall_eq_or_imp, forall_eq, false_imp_iff, implies_true] at hd ⊢; try omega) (by (unfold limit at *; omega)) (fun s11 H => ?_) | refine dr_store5 (vs := [.bool _, .slice _ _ _]) (fr := [_]) H rfl rfl sz56 rfl rfl rfl rfl rfl rfl (by have hd := H.dist; simp only [List.pairwise_cons, List.mem_cons, List.not_mem_nil, or_false, forall_eq_or_imp, forall_eq, false_imp_iff, implies_true] at hd ⊢; try omega) (by (unfold limit at *; omega)) (fun s11 H => ?_)
    first | refine dr_store0 (vs := [.bool _, .slice _ _ _]) (fr := []) H rfl rfl sz56 rfl rfl rfl rfl rfl rfl (by have hd := H.dist; simp only [List.pairwise_cons, List.mem_cons, List.not_mem_nil, or_false, forall_eq_or_imp, forall_eq, false_imp_iff, implies_true] at hd ⊢; try omega) (by (unfold limit at *; omega)) (fun s12 H => ?_) | refine dr_store1 (vs := [.bool _, .slice _ _ _]) (fr := []) H rfl rfl sz56 rfl rfl rfl rfl rfl rfl (by have hd := H.dist; simp only [List.pairwise_cons, List.mem_cons, List.not_mem_nil, or_false, forall_eq_or_imp, forall_eq, false_imp_iff, implies_true] at hd ⊢; try omega) (by (unfold limit at *; omega)) (fun s12 H => ?_) | refine dr_store2 (vs := [.bool _, .slice _ _ _]) (fr := []) H rfl rfl sz56 rfl rfl rfl rfl rfl rfl (by have hd := H.dist; simp only [List.pairwise_cons, List.mem_cons, List.not_mem_nil, or_false, forall_eq_or_imp, forall_eq, false_imp_iff, implies_true] at hd ⊢; try omega) (by (unfold limit at *; omega)) (fun s12 H => ?_) | refine dr_store3 (vs := [.bool _, .slice _ _ _]) (fr := []) H rfl rfl sz56 rfl rfl rfl rfl rfl rfl (by have hd := H.dist; simp only [List.pairwise_cons, List.mem_cons, List.not_mem_nil, or_false, forall_eq_or_imp, forall_eq, false_imp_iff, implies_true] at hd ⊢; try omega) (by (unfold limit at *; omega)) (fun s12 H => ?_) | refine dr_store4 (vs := [.bool _, .slice _ _ _]) (fr := []) H rfl rfl sz56 rfl rfl rfl rfl rfl rfl (by have hd := H.dist; simp only [List.pairwise_cons, List.mem_cons, List.not_mem_nil, or_false, forall_eq_or_imp, forall_eq, false_imp_iff, implies_true] at hd ⊢; try omega) (by (unfold limit at *; omega)) (fun s12 H => ?_) | refine dr_store5 (vs := [.bool _, .slice _ _ _]) (fr := []) H rfl rfl sz56 rfl rfl rfl rfl rfl rfl (by have hd := H.dist; simp only [List.pairwise_cons, List.mem_cons, List.not_mem_nil, or_false, forall_eq_or_imp, forall_eq, false_imp_iff, implies_true] at hd ⊢; try omega) (by (unfold limit at *; omega)) (fun s12 H => ?_)
    refine draw_nil ?_
    refine cw_ret ?_
    refine ret_end ?_
    refine end_cc sh56 rfl (by first | exact H.own0 | exact H.own1 | exact H.own2 | exact H.own3 | exact H.own4 | exact H.own5 | exact H.ownA | assumption) rfl sh56 rfl (by first | exact H.own0 | exact H.own1 | exact H.own2 | exact H.own3 | exact H.own4 | exact H.own5 | exact H.ownA | assumption) rfl ?_
    exact ⟨_, _, _, _, rfl, H.up (by omega), hqt.mono (by intro p hp; (try simp only [List.mem_cons, List.mem_append, List.not_mem_nil, or_false] at hp ⊢); first | exact hp | simp only [hp, true_or, or_true]), hdq.take _, by rw [List.length_take]; omega, hnb2⟩

set_option maxHeartbeats 4000000 in
set_option maxRecDepth 10000 in
theorem one_ok {I : Table} (hI : Plain I) {s : St} (hf : Fine s) {n1 : Bool} {s1 : Value} {la : List Int} (ha : SlD s s1 la) (hroom : s.next + 1 ≤ limit) :
    ∃ v' s', Rets Tryz.prog I 166 #[.agg ⟨[.bool n1, s1]⟩] s v' s' ∧ (∃ b, v' = .bool b ∧ HL [] s s' [] 1) := by
  have H := hf.hl
  obtain ⟨a, len, cap, rfl, hn⟩ := ha.isSlice
  rw [List.length_map] at hn
  subst hn
  refine call_of 1 (hI 166 (by decide) (by decide)) Tryz.func166 rfl fb166 rfl ?_
  refine cw_rseq ?_
  first | refine ops_on rfl (op_boxA H rfl (by (unfold limit at *; omega)) (fun b1 s1 H => ?_)) | refine ops_on rfl (op_box H rfl (by (unfold limit at *; omega)) (fun b1 s1 H => ?_))
  refine ops_on rfl (op_assignC ?_)
  refine ops_nil ?_
  refine cw_seq ?_
  cases n1
  · refine cw_rseq ?_
    refine ops_on rfl (op_fieldAddr of56_0 rfl ?_)
    refine ops_on rfl (op_load1 sh4 rfl (by first | exact H.own0 | exact H.own1 | exact H.own2 | exact H.own3 | exact H.own4 | exact H.own5 | exact H.ownA | assumption) rfl ?_)
    first | refine ops_on rfl (op_moveB rfl ?_) | refine ops_on rfl (op_move ?_)
    refine ops_on rfl (op_fieldAddr of56_1 rfl ?_)
    refine ops_on rfl (op_load1 sh22 rfl (by first | exact H.own0 | exact H.own1 | exact H.own2 | exact H.own3 | exact H.own4 | exact H.own5 | exact H.ownA | assumption) rfl ?_)
    refine ops_on rfl (op_len un22 rfl rfl rfl ?_)
    refine ops_on rfl (op_neq rfl rfl (fun h => ?_) (fun h => ?_))
    · first | refine ops_on rfl (op_pick0B rfl rfl ?_) | refine ops_on rfl (op_pick0 rfl ?_)
      refine ops_nil ?_
      refine cw_then rfl ?_
      refine cw_rseq ?_
      refine ops_on rfl (op_assignC ?_)
      refine ops_nil ?_
      refine cw_ret ?_
      refine seq_ret ?_
      refine ret_end ?_
      refine end_t ?_
      exact ⟨_, rfl, H.drop0⟩
    · first | refine ops_on rfl (op_pick0B rfl rfl ?_) | refine ops_on rfl (op_pick0 rfl ?_)
      refine ops_nil ?_
      refine cw_else rfl ?_
      refine cw_skip ?_
      refine seq_norm ?_
      refine cw_rseq ?_
      refine ops_on rfl (op_fieldAddr of56_1 rfl ?_)
      refine ops_on rfl (op_load1 sh22 rfl (by first | exact H.own0 | exact H.own1 | exact H.own2 | exact H.own3 | exact H.own4 | exact H.own5 | exact H.ownA | assumption) rfl ?_)
      obtain ⟨b1, off1, c1, rfl, hg1, hb1, hc1⟩ := (ha.kept H).atD (i := 0) (k := 0) rfl (by omega)
      refine ops_on rfl (op_indexS el22 rfl rfl (by (unfold limit at *; omega)) (by (unfold limit at *; omega)) ?_)
      refine ops_on rfl (op_load1 sh3 rfl hg1 hc1 ?_)
      refine ops_on rfl (op_eql' rfl rfl ?_)
      first | refine ops_on rfl (op_assignB rfl ?_) | refine ops_on rfl (op_assign ?_)
      refine ops_nil ?_
      refine cw_ret ?_
      refine ret_end ?_
      refine end_t ?_
      exact ⟨_, rfl, H.drop0⟩
  · refine cw_rseq ?_
    refine ops_on rfl (op_fieldAddr of56_0 rfl ?_)
    refine ops_on rfl (op_load1 sh4 rfl (by first | exact H.own0 | exact H.own1 | exact H.own2 | exact H.own3 | exact H.own4 | exact H.own5 | exact H.ownA | assumption) rfl ?_)
    first | refine ops_on rfl (op_moveB rfl ?_) | refine ops_on rfl (op_move ?_)
    refine ops_off rfl ?_
    refine ops_off rfl ?_
    refine ops_off rfl ?_
    refine ops_off rfl ?_
    refine ops_on rfl (op_pick1C rfl ?_)
    refine ops_nil ?_
    refine cw_then rfl ?_
    refine cw_rseq ?_
    refine ops_on rfl (op_assignC ?_)
    refine ops_nil ?_
    refine cw_ret ?_
    refine seq_ret ?_
    refine ret_end ?_
    refine end_t ?_
    exact ⟨_, rfl, H.drop0⟩

end Go.Proofs.YtdejleegamcioaaGreat
