/- The reference of integers: division by one. -/
import Derived.Test.YtdejleegamcioaaGreatM16
namespace Go.Proofs.YtdejleegamcioaaGreat
open Go Go.M

theorem fb210 : funcB Tryz.f210 (Tryz.f210.body.getD .skip) 2 = true := by kernel_rfl
theorem fc169 : funcF Tryz.prog 169 = true := by kernel_rfl
theorem fc170 : funcF Tryz.prog 170 = true := by kernel_rfl
theorem fc209 : funcF Tryz.prog 209 = true := by kernel_rfl
theorem fc306 : funcF Tryz.prog 306 = true := by kernel_rfl

set_option maxHeartbeats 4000000 in
set_option maxRecDepth 10000 in
theorem divided1_ok {I : Table} (hI : Plain I) {s : St} (hf : Fine s) {va vb : Value} {la : List Int} (ha : SlD s va la) (hb : SlD s vb [1]) (hd : Dig la) (hlen : la.length ≤ 3) (hroom : s.next + 200000000000 ≤ limit) :
    ∃ v' s', Rets Tryz.prog I 210 #[va, vb] s v' s' ∧ (∃ D q r lq, v' = .tuple ⟨[q, r]⟩ ∧ HL [] s s' D 200000000000 ∧ SlIn D q lq ∧ Dig lq ∧ lq.length ≤ 3 ∧ SlIn D r []) := by
  have H := hf.hl
  have hd0 := hd.at 0
  have hd1 := hd.at 1
  obtain ⟨a, len, cap, rfl, hn⟩ := ha.isSlice
  rw [List.length_map] at hn
  subst hn
  obtain ⟨a2, len, cap2, rfl, hn⟩ := hb.isSlice
  simp only [List.length_map, List.length_cons, List.length_nil, Nat.zero_add] at hn
  subst hn
  refine call_of 2 (hI 210 (by decide) (by decide)) Tryz.func210 rfl fb210 rfl ?_
  refine cw_rseq ?_
  refine ops_on rfl (op_assignC ?_)
  refine ops_on rfl (op_assignC ?_)
  refine ops_nil ?_
  refine cw_seq ?_
  refine cw_rseq ?_
  first | refine ops_on rfl (op_moveS rfl ?_) | refine ops_on rfl (op_move ?_)
  refine ops_on rfl (op_len un22 rfl rfl rfl ?_)
  refine ops_on rfl (op_leq rfl rfl (fun h => ?_) (fun h => ?_))
  · first | refine ops_on rfl (op_moveB rfl ?_) | refine ops_on rfl (op_move ?_)
    first | refine ops_on rfl (op_moveS rfl ?_) | refine ops_on rfl (op_move ?_)
    refine ops_on rfl (op_len un22 rfl rfl rfl ?_)
    refine ops_on rfl (op_leq rfl rfl (fun h => ?_) (fun h => False.elim (by omega)))
    first | refine ops_on rfl (op_pick1B rfl rfl ?_) | refine ops_on rfl (op_pick1 rfl ?_)
    refine ops_nil ?_
    refine cw_then rfl ?_
    refine cw_rseq ?_
    first | refine ops_on rfl (op_moveS rfl ?_) | refine ops_on rfl (op_move ?_)
    refine ops_on rfl (op_call rfl fc209 rfl ?_)
    obtain ⟨_, _, hr, rfl, rfl⟩ := tiny_ok (l := la) hI (ha.kept H) hd
    refine ⟨_, _, hr, ?_⟩
    clear hr
    first | refine ops_on rfl (op_moveS rfl ?_) | refine ops_on rfl (op_move ?_)
    refine ops_on rfl (op_call rfl fc209 rfl ?_)
    obtain ⟨_, _, hr, rfl, rfl⟩ := tiny_ok (l := [1]) hI (hb.kept H) (by intro x hx; simp at hx; omega)
    refine ⟨_, _, hr, ?_⟩
    clear hr
    refine ops_on rfl (op_quo rfl rfl (by decide) (by show In64 ((la.getD 1 0 * 1000000000 + la.getD 0 0).tdiv 1); rw [Int.tdiv_one]; unfold In64; omega) ?_)
    refine ops_on rfl (op_call rfl fc113 rfl ?_)
    obtain ⟨_, s9, hr, D1, ra, rfl, Hc, hra⟩ := of03_ok (n := (la.getD 1 0 * 1000000000 + la.getD 0 0).tdiv 1) hI H.fine (by rw [Int.tdiv_one]; exact ⟨by omega, by omega⟩) (by have := H.most; unfold limit at *; omega)
    refine ⟨_, _, hr, ?_⟩
    clear hr
    have H := H.callE Hc
    clear Hc
    try simp only [List.cons_append, List.nil_append, List.append_assoc] at H
    obtain ⟨ara, nra, cra, rfl, hnra⟩ := hra.isSlice
    refine ops_on rfl (op_alloc H zf56 (by (unfold limit at *; omega)) (fun b6 s1 H => ?_))
    first | refine ops_on rfl (op_store0 (vs := [.bool _, .slice _ _ _]) H sz56 rfl rfl rfl rfl rfl (by (unfold limit at *; omega)) (fun s2 H => ?_)) | refine ops_on rfl (op_store1 (vs := [.bool _, .slice _ _ _]) H sz56 rfl rfl rfl rfl rfl (by (unfold limit at *; omega)) (fun s2 H => ?_)) | refine ops_on rfl (op_store2 (vs := [.bool _, .slice _ _ _]) H sz56 rfl rfl rfl rfl rfl (by (unfold limit at *; omega)) (fun s2 H => ?_)) | refine ops_on rfl (op_store3 (vs := [.bool _, .slice _ _ _]) H sz56 rfl rfl rfl rfl rfl (by (unfold limit at *; omega)) (fun s2 H => ?_)) | refine ops_on rfl (op_store4 (vs := [.bool _, .slice _ _ _]) H sz56 rfl rfl rfl rfl rfl (by (unfold limit at *; omega)) (fun s2 H => ?_)) | refine ops_on rfl (op_store0 H sz56 rfl rfl rfl rfl rfl (by (unfold limit at *; omega)) (fun s2 H => ?_)) | refine ops_on rfl (op_store1 H sz56 rfl rfl rfl rfl rfl (by (unfold limit at *; omega)) (fun s2 H => ?_)) | refine ops_on rfl (op_store2 H sz56 rfl rfl rfl rfl rfl (by (unfold limit at *; omega)) (fun s2 H => ?_)) | refine ops_on rfl (op_store3 H sz56 rfl rfl rfl rfl rfl (by (unfold limit at *; omega)) (fun s2 H => ?_)) | refine ops_on rfl (op_store4 H sz56 rfl rfl rfl rfl rfl (by (unfold limit at *; omega)) (fun s2 H => ?_))
    refine ops_nil ?_
    refine cw_rseq ?_
    first | refine ops_on rfl (op_moveS rfl ?_) | refine ops_on rfl (op_move ?_)
    refine ops_on rfl (op_call rfl fc209 rfl ?_)
    obtain ⟨_, _, hr, rfl, rfl⟩ := tiny_ok (l := la) hI (ha.kept H) hd
    refine ⟨_, _, hr, ?_⟩
    clear hr
    first | refine ops_on rfl (op_moveS rfl ?_) | refine ops_on rfl (op_move ?_)
    refine ops_on rfl (op_call rfl fc209 rfl ?_)
    obtain ⟨_, _, hr, rfl, rfl⟩ := tiny_ok (l := [1]) hI (hb.kept H) (by intro x hx; simp at hx; omega)
    refine ⟨_, _, hr, ?_⟩
    clear hr
    refine ops_on rfl (op_rem rfl rfl (by decide) ?_)
    refine ops_on rfl (op_call rfl fc113 rfl ?_)
    obtain ⟨_, s9, hr, D2, rb, rfl, Hc, hrb⟩ := of03_ok (n := (la.getD 1 0 * 1000000000 + la.getD 0 0).tmod 1) hI H.fine (by rw [Int.tmod_one]; exact ⟨by omega, by omega⟩) (by have := H.most; unfold limit at *; omega)
    refine ⟨_, _, hr, ?_⟩
    clear hr
    have H := H.callE Hc
    clear Hc
    try simp only [List.cons_append, List.nil_append, List.append_assoc] at H
    obtain ⟨arb, nrb, crb, rfl, hnrb⟩ := hrb.isSlice
    refine ops_on rfl (op_alloc H zf56 (by (unfold limit at *; omega)) (fun b7 s3 H => ?_))
    first | refine ops_on rfl (op_store0 (vs := [.bool _, .slice _ _ _]) H sz56 rfl rfl rfl rfl rfl (by (unfold limit at *; omega)) (fun s4 H => ?_)) | refine ops_on rfl (op_store1 (vs := [.bool _, .slice _ _ _]) H sz56 rfl rfl rfl rfl rfl (by (unfold limit at *; omega)) (fun s4 H => ?_)) | refine ops_on rfl (op_store2 (vs := [.bool _, .slice _ _ _]) H sz56 rfl rfl rfl rfl rfl (by (unfold limit at *; omega)) (fun s4 H => ?_)) | refine ops_on rfl (op_store3 (vs := [.bool _, .slice _ _ _]) H sz56 rfl rfl rfl rfl rfl (by (unfold limit at *; omega)) (fun s4 H => ?_)) | refine ops_on rfl (op_store4 (vs := [.bool _, .slice _ _ _]) H sz56 rfl rfl rfl rfl rfl (by (unfold limit at *; omega)) (fun s4 H => ?_)) | refine ops_on rfl (op_store0 H sz56 rfl rfl rfl rfl rfl (by (unfold limit at *; omega)) (fun s4 H => ?_)) | refine ops_on rfl (op_store1 H sz56 rfl rfl rfl rfl rfl (by (unfold limit at *; omega)) (fun s4 H => ?_)) | refine ops_on rfl (op_store2 H sz56 rfl rfl rfl rfl rfl (by (unfold limit at *; omega)) (fun s4 H => ?_)) | refine ops_on rfl (op_store3 H sz56 rfl rfl rfl rfl rfl (by (unfold limit at *; omega)) (fun s4 H => ?_)) | refine ops_on rfl (op_store4 H sz56 rfl rfl rfl rfl rfl (by (unfold limit at *; omega)) (fun s4 H => ?_))
    refine ops_nil ?_
    refine cw_dseq [⟨0, 0, .light, [3]⟩, ⟨1, 1, .light, [3]⟩, ⟨2, 0, .light, [1]⟩, ⟨3, 4, .light, [1]⟩, ⟨4, 3, .light, [3]⟩, ⟨5, 31, .light, []⟩] (by kernel_rfl) (by kernel_rfl) ?_
    refine draw_light rfl rfl (op_fieldAddr of56_1 rfl ⟨rfl, ?_⟩)
    refine dr_load1 rfl rfl sh22 rfl (by first | exact H.own0 | exact H.own1 | exact H.own2 | exact H.own3 | exact H.own4 | exact H.own5 | exact H.ownA | assumption) (by first | exact H.lim0 (by (unfold limit at *; omega)) | exact H.lim1 (by (unfold limit at *; omega)) | exact H.lim2 (by (unfold limit at *; omega)) | exact H.lim3 (by (unfold limit at *; omega)) | exact H.lim4 (by (unfold limit at *; omega)) | exact H.lim5 (by (unfold limit at *; omega)) | (have := H.most; (unfold limit at *; omega))) rfl ?_
    refine draw_light rfl rfl (op_fieldAddr of56_1 rfl ⟨rfl, ?_⟩)
    refine dr_load1 rfl rfl sh22 rfl (by first | exact H.own0 | exact H.own1 | exact H.own2 | exact H.own3 | exact H.own4 | exact H.own5 | exact H.ownA | assumption) (by first | exact H.lim0 (by (unfold limit at *; omega)) | exact H.lim1 (by (unfold limit at *; omega)) | exact H.lim2 (by (unfold limit at *; omega)) | exact H.lim3 (by (unfold limit at *; omega)) | exact H.lim4 (by (unfold limit at *; omega)) | exact H.lim5 (by (unfold limit at *; omega)) | (have := H.most; (unfold limit at *; omega))) rfl ?_
    first | refine draw_light rfl rfl (op_assignS rfl ⟨rfl, ?_⟩) | refine draw_light rfl rfl (op_assign ⟨rfl, ?_⟩)
    first | refine draw_light rfl rfl (op_assignS rfl ⟨rfl, ?_⟩) | refine draw_light rfl rfl (op_assign ⟨rfl, ?_⟩)
    refine draw_nil ?_
    refine cw_ret ?_
    refine seq_ret ?_
    refine ret_end ?_
    refine end_tt rfl rfl ?_
    refine ⟨_, _, _, _, rfl, H.up (by omega), hra.mono (by intro p hp; (try simp only [List.mem_cons, List.mem_append, List.not_mem_nil, or_false] at hp ⊢); first | exact hp | simp only [hp, true_or, or_true]), dgs_dig _ _, dgs_len _ _, ?_⟩
    have h0 : (la.getD 1 0 * 1000000000 + la.getD 0 0).tmod 1 = 0 := Int.tmod_one _
    rw [h0] at hrb
    exact hrb.mono (by intro p hp; (try simp only [List.mem_cons, List.mem_append, List.not_mem_nil, or_false] at hp ⊢); first | exact hp | simp only [hp, true_or, or_true])
  · first | refine ops_on rfl (op_moveB rfl ?_) | refine ops_on rfl (op_move ?_)
    refine ops_off rfl ?_
    refine ops_off rfl ?_
    refine ops_off rfl ?_
    refine ops_on rfl (op_pick0C rfl ?_)
    refine ops_nil ?_
    refine cw_else rfl ?_
    refine cw_skip ?_
    refine seq_norm ?_
    refine cw_rseq ?_
    first | refine ops_on rfl (op_moveS rfl ?_) | refine ops_on rfl (op_move ?_)
    refine ops_on rfl (op_len un22 rfl rfl rfl ?_)
    refine ops_on rfl (op_makeSlice (a := la.length) (b := la.length) H sl22 rfl rfl (Nat.le_refl _) (by omega) (by (unfold limit at *; omega)) (fun b42 s42 H => ?_))
    first | refine ops_on rfl (op_assignS rfl ?_) | refine ops_on rfl (op_assign ?_)
    refine ops_nil ?_
    rw [repL_ints] at H
    refine cw_rseq ?_
    refine ops_on rfl (op_assignC ?_)
    refine ops_nil ?_
    refine cw_seq ?_
    refine cw_rseq ?_
    first | refine ops_on rfl (op_moveS rfl ?_) | refine ops_on rfl (op_move ?_)
    refine ops_on rfl (op_len un22 rfl rfl rfl ?_)
    refine ops_on rfl (op_sub rfl rfl (by unfold In64; (unfold limit at *; omega)) ?_)
    first | refine ops_on rfl (op_assignI rfl ?_) | refine ops_on rfl (op_assign ?_)
    refine ops_nil ?_
    refine cw_block ?_
    refine cw_loop (fun k F s1 => ∃ (G : FF) (m : Nat) (o : List Int), F = lay G [(0, .slice a la.length cap), (1, .slice a2 1 cap2), (8, .slice (some ⟨b42, 0, none⟩) la.length (2 * la.length)), (9, .slice none 0 0), (10, .int .i64 ((m : Int) - 1))] ∧ HL [] s s1 [(b42, .cells (ints o) 3)] (1 + (la.length - m) * 50000000000) ∧ o.length = la.length ∧ Dig o ∧ m ≤ la.length ∧ k = m) ?_ la.length _ _ ?_
    · rintro k F s1 ⟨G, m, o, rfl, H, hol, hod, hm, rfl⟩
      refine cw_seq ?_
      refine cw_rseq ?_
      first | refine ops_on rfl (op_moveI rfl ?_) | refine ops_on rfl (op_move ?_)
      refine ops_on rfl (op_geq rfl rfl (fun h => ?_) (fun h => ?_))
      · refine ops_nil ?_
        refine cw_then rfl ?_
        refine cw_skip ?_
        refine seq_norm ?_
        refine cw_seq ?_
        refine cw_block ?_
        obtain ⟨m, rfl⟩ : ∃ j, k = j + 1 := ⟨k - 1, by omega⟩
        have hxd := hd.at m
        obtain ⟨b1, off1, c1, rfl, hg1, hb1, hc1⟩ := (ha.kept H).atD (i := ((m + 1 : Nat) : Int) - 1) (k := m) (by omega) (by omega)
        refine cw_rseq ?_
        first | refine ops_on rfl (op_moveS rfl ?_) | refine ops_on rfl (op_move ?_)
        first | refine ops_on rfl (op_moveI rfl ?_) | refine ops_on rfl (op_move ?_)
        refine ops_on rfl (op_indexS el22 rfl rfl (by (unfold limit at *; omega)) (by (unfold limit at *; omega)) ?_)
        refine ops_on rfl (op_load1 sh3 rfl hg1 hc1 ?_)
        first | refine ops_on rfl (op_buildSlice (c := [.int _ _]) H sl22 rfl rfl (by (unfold limit at *; omega)) (fun b54 s5 H => ?_)) | refine ops_on rfl (op_buildSlice H sl22 rfl rfl (by (unfold limit at *; omega)) (fun b54 s5 H => ?_))
        first | refine ops_on rfl (op_moveS rfl ?_) | refine ops_on rfl (op_move ?_)
        refine ops_on rfl (op_appendNone' H sl22 un22 rfl rfl rfl elems_nil (by decide) (Nat.le_refl _) (by (unfold limit at *; omega)) (fun s56 H => ?_))
        have hsx : SlIn [(b54, .cells [.int .i64 (la.getD m 0)] 3)] (.slice (some ⟨b54, 0, none⟩) 1 (2 * 1)) [(la.getD m 0)] := (Own.slIn (l := [(la.getD m 0)]) (len := 1) (.block b54 (2 * 1) _ _ (by simp [ints]) (by decide))).2
        refine ops_on rfl (op_call rfl fc167 rfl ?_)
        obtain ⟨_, s9, hr, rfl, Hc⟩ := normal_ok (l := [(la.getD m 0)]) (a := some ⟨b54, 0, none⟩) (cap := 2 * 1) (neg := false) hI H.fine (hsx.sl H (by intro p hp; (try simp only [List.mem_cons, List.mem_append, List.not_mem_nil, or_false] at hp ⊢); first | exact hp | simp only [hp, true_or, or_true])) (by simp) (by have := H.most; unfold limit at *; omega)
        refine ⟨_, _, hr, ?_⟩
        clear hr
        have H := H.call0 Hc
        clear Hc
        have hrest := hsx.take (m := nlen [(la.getD m 0)] [(la.getD m 0)].length) (nlen_le _ _)
        rw [nlen_one hxd.1 hxd.2] at hrest
        obtain ⟨ar, nr, cr, hreq, hnr⟩ := hrest.isSlice
        rw [hreq] at hrest
        rw [hreq]
        have hneg0 : (if nlen [(la.getD m 0)] [(la.getD m 0)].length = 0 then false else false) = false := by split <;> rfl
        rw [hneg0]
        refine ops_on rfl (op_alloc H zf56 (by (unfold limit at *; omega)) (fun b11 s6 H => ?_))
        refine ops_on rfl (op_store0 (vs := [.bool _, .slice _ _ _]) H sz56 rfl rfl rfl rfl rfl (by (unfold limit at *; omega)) (fun s57 H => ?_))
        refine ops_nil ?_
        refine cw_rseq ?_
        refine ops_on rfl (op_fieldAddr of56_1 rfl ?_)
        refine ops_on rfl (op_load1 sh22 rfl (by first | exact H.own0 | exact H.own1 | exact H.own2 | exact H.own3 | exact H.own4 | exact H.own5 | exact H.ownA | assumption) rfl ?_)
        first | refine ops_on rfl (op_assignS rfl ?_) | refine ops_on rfl (op_assign ?_)
        refine ops_nil ?_
        refine cw_rseq ?_
        refine ops_on rfl (op_assignC ?_)
        refine ops_nil ?_
        refine cw_rseq ?_
        refine ops_on rfl (op_assignC ?_)
        refine ops_nil ?_
        refine cw_seq ?_
        refine cw_rseq ?_
        first | refine ops_on rfl (op_moveS rfl ?_) | refine ops_on rfl (op_move ?_)
        first | refine ops_on rfl (op_moveS rfl ?_) | refine ops_on rfl (op_move ?_)
        refine ops_on rfl (op_call rfl fc169 rfl ?_)
        obtain ⟨_, _, hr, rfl, rfl⟩ := compared_ok hI (hrest.sl H (by intro p hp; (try simp only [List.mem_cons, List.mem_append, List.not_mem_nil, or_false] at hp ⊢); first | exact hp | simp only [hp, true_or, or_true])) (hb.kept H) (by have := dgs_len 3 (la.getD m 0).natAbs; omega) (by have := H.most; unfold limit at *; omega)
        refine ⟨_, _, hr, ?_⟩
        clear hr
        have hc1 : cmpZ (dgs 3 (la.getD m 0).natAbs) [1] = if (la.getD m 0) < 1 then -1 else if 1 < (la.getD m 0) then 1 else 0 := cmp_small hxd.1 hxd.2 (y := 1) (by decide) (by decide)
        rw [hc1]
        refine ops_on rfl (op_lss rfl rfl (fun h => ?_) (fun h => ?_))
        · refine ops_nil ?_
          refine cw_then rfl ?_
          refine cw_region ?_
          refine ops_on rfl (op_assignC ?_)
          refine ops_nil ?_
          refine seq_norm ?_
          refine cw_seq ?_
          refine cw_block ?_
          refine cw_loop (fun k F s1 => ∃ (G : FF) (lo hi : Int) (n : Nat), F = lay G [(0, .slice (some ⟨b1, off1, none⟩) la.length cap), (1, .slice a2 1 cap2), (8, .slice (some ⟨b42, 0, none⟩) la.length (2 * la.length)), (9, .slice ar nr cr), (10, .int .i64 (((m + 1 : Nat) : Int) - 1)), (12, .int .i64 lo), (13, .int .i64 hi)] ∧ HL [] s s1 [(b54, .cells [.int .i64 (la.getD m 0)] 3), (b42, .cells (ints o) 3)] n ∧ n + 40 * (hi - lo).toNat ≤ (1 + (la.length - (m + 1)) * 50000000000) + 40000000100 ∧ 0 ≤ lo ∧ lo ≤ (la.getD m 0) ∧ (la.getD m 0) ≤ hi ∧ hi ≤ 999999999 ∧ k = (hi - lo).toNat) ?_ ((0 : Int) - 0).toNat _ _ ?_
          · rintro k F s1 ⟨G, lo, hi, n, rfl, H, hcnt, hlo0, hlo, hhi, hhi9, rfl⟩
            refine cw_seq ?_
            refine cw_rseq ?_
            first | refine ops_on rfl (op_moveI rfl ?_) | refine ops_on rfl (op_move ?_)
            first | refine ops_on rfl (op_moveI rfl ?_) | refine ops_on rfl (op_move ?_)
            refine ops_on rfl (op_lss rfl rfl (fun h => ?_) (fun h => ?_))
            · refine ops_nil ?_
              refine cw_then rfl ?_
              refine cw_skip ?_
              refine seq_norm ?_
              refine cw_block ?_
              have hmid : (lo + hi + 1).tdiv 2 = (lo + hi + 1) / 2 := Int.tdiv_eq_ediv_of_nonneg (by omega)
              refine cw_rseq ?_
              first | refine ops_on rfl (op_moveI rfl ?_) | refine ops_on rfl (op_move ?_)
              first | refine ops_on rfl (op_moveI rfl ?_) | refine ops_on rfl (op_move ?_)
              refine ops_on rfl (op_add rfl rfl (by unfold In64; (unfold limit at *; omega)) ?_)
              refine ops_on rfl (op_add rfl rfl (by unfold In64; (unfold limit at *; omega)) ?_)
              refine ops_on rfl (op_quo rfl rfl (by decide) (by show In64 ((lo + hi + 1).tdiv 2); rw [Int.tdiv_eq_ediv_of_nonneg (by omega)]; unfold In64; omega) ?_)
              first | refine ops_on rfl (op_assignI rfl ?_) | refine ops_on rfl (op_assign ?_)
              refine ops_nil ?_
              refine cw_rseq ?_
              first | refine ops_on rfl (op_moveS rfl ?_) | refine ops_on rfl (op_move ?_)
              first | refine ops_on rfl (op_moveI rfl ?_) | refine ops_on rfl (op_move ?_)
              refine ops_on rfl (op_call rfl fc306 rfl ?_)
              obtain ⟨vt, s9, hr, Dt, Hc, hvt⟩ := times1_ok (k := (lo + hi + 1).tdiv 2) hI H.fine (hb.kept H) (by omega) (by omega) (by have := H.most; unfold limit at *; omega)
              refine ⟨_, _, hr, ?_⟩
              clear hr
              have H := H.callE Hc
              clear Hc
              try simp only [List.cons_append, List.nil_append, List.append_assoc] at H
              obtain ⟨avt, nvt, cvt, rfl, hnvt⟩ := hvt.isSlice
              first | refine ops_on rfl (op_moveS rfl ?_) | refine ops_on rfl (op_move ?_)
              refine ops_on rfl (op_call rfl fc169 rfl ?_)
              obtain ⟨_, _, hr, rfl, rfl⟩ := compared_ok hI (hvt.sl H (by intro p hp; (try simp only [List.mem_cons, List.mem_append, List.not_mem_nil, or_false] at hp ⊢); first | exact hp | simp only [hp, true_or, or_true])) (hrest.sl H (by intro p hp; (try simp only [List.mem_cons, List.mem_append, List.not_mem_nil, or_false] at hp ⊢); first | exact hp | simp only [hp, true_or, or_true])) (by have := dgs_len 3 ((lo + hi + 1).tdiv 2).natAbs; omega) (by have := H.most; unfold limit at *; omega)
              refine ⟨_, _, hr, ?_⟩
              clear hr
              have hc2 : cmpZ (dgs 3 ((lo + hi + 1).tdiv 2).natAbs) (dgs 3 (la.getD m 0).natAbs) = if (lo + hi + 1).tdiv 2 < (la.getD m 0) then -1 else if (la.getD m 0) < (lo + hi + 1).tdiv 2 then 1 else 0 := cmp_small (by omega) (by omega) hxd.1 hxd.2
              rw [hc2]
              refine ops_on rfl (op_leq rfl rfl (fun h => ?_) (fun h => ?_))
              · refine ops_nil ?_
                refine cw_then rfl ?_
                refine cw_region ?_
                first | refine ops_on rfl (op_moveI rfl ?_) | refine ops_on rfl (op_move ?_)
                first | refine ops_on rfl (op_assignI rfl ?_) | refine ops_on rfl (op_assign ?_)
                refine ops_nil ?_
                refine blk_norm ?_
                refine loop_norm ?_
                refine ⟨_, ?_, _, _, _, _, slots ⟨rfl, rfl, rfl, rfl, rfl, rfl, rfl, trivial⟩, H.left2, ?_, ?_, ?_, ?_, ?_, rfl⟩
                · omega
                · omega
                · omega
                · omega
                · omega
                · omega
              · refine ops_nil ?_
                refine cw_else rfl ?_
                refine cw_region ?_
                first | refine ops_on rfl (op_moveI rfl ?_) | refine ops_on rfl (op_move ?_)
                refine ops_on rfl (op_sub rfl rfl (by unfold In64; (unfold limit at *; omega)) ?_)
                first | refine ops_on rfl (op_assignI rfl ?_) | refine ops_on rfl (op_assign ?_)
                refine ops_nil ?_
                refine blk_norm ?_
                refine loop_norm ?_
                refine ⟨_, ?_, _, _, _, _, slots ⟨rfl, rfl, rfl, rfl, rfl, rfl, rfl, trivial⟩, H.left2, ?_, ?_, ?_, ?_, ?_, rfl⟩
                · omega
                · omega
                · omega
                · omega
                · omega
                · omega
            · refine ops_nil ?_
              refine cw_else rfl ?_
              refine cw_exit ?_
              refine seq_exit ?_
              refine loop_exit ?_
              refine blk_here ?_
              refine seq_norm ?_
              refine cw_rseq ?_
              first | refine ops_on rfl (op_moveS rfl ?_) | refine ops_on rfl (op_move ?_)
              first | refine ops_on rfl (op_moveS rfl ?_) | refine ops_on rfl (op_move ?_)
              first | refine ops_on rfl (op_moveI rfl ?_) | refine ops_on rfl (op_move ?_)
              refine ops_on rfl (op_call rfl fc306 rfl ?_)
              obtain ⟨vu, s9, hr, Du, Hc, hvu⟩ := times1_ok (k := lo) hI H.fine (hb.kept H) (by omega) (by omega) (by have := H.most; unfold limit at *; omega)
              refine ⟨_, _, hr, ?_⟩
              clear hr
              have H := H.callE Hc
              clear Hc
              try simp only [List.cons_append, List.nil_append, List.append_assoc] at H
              obtain ⟨avu, nvu, cvu, rfl, hnvu⟩ := hvu.isSlice
              refine ops_on rfl (op_call rfl fc170 rfl ?_)
              have hlx : lo = la.getD m 0 := by omega
              have hvu2 := hvu
              rw [hlx] at hvu2
              obtain ⟨vm, s9, hr, Dm, Hc, hvm⟩ := minus_ok hI H.fine (hrest.sl H (by intro p hp; (try simp only [List.mem_cons, List.mem_append, List.not_mem_nil, or_false] at hp ⊢); first | exact hp | simp only [hp, true_or, or_true])) (hvu2.sl H (by intro p hp; (try simp only [List.mem_cons, List.mem_append, List.not_mem_nil, or_false] at hp ⊢); first | exact hp | simp only [hp, true_or, or_true])) (dgs_dig _ _) (by have := dgs_len 3 (la.getD m 0).natAbs; omega) (by have := H.most; unfold limit at *; omega)
              refine ⟨_, _, hr, ?_⟩
              clear hr
              have H := H.callE Hc
              clear Hc
              try simp only [List.cons_append, List.nil_append, List.append_assoc] at H
              obtain ⟨avm, nvm, cvm, rfl, hnvm⟩ := hvm.isSlice
              refine ops_on rfl (op_call rfl fc167 rfl ?_)
              subst hnvm
              have hlm := dgs_len 3 (la.getD m 0).natAbs
              obtain ⟨_, s9, hr, rfl, Hc⟩ := normal_ok (l := List.replicate (dgs 3 (la.getD m 0).natAbs).length 0) (a := avm) (cap := cvm) (neg := false) hI H.fine (hvm.sl H (by intro p hp; (try simp only [List.mem_cons, List.mem_append, List.not_mem_nil, or_false] at hp ⊢); first | exact hp | simp only [hp, true_or, or_true])) (by rw [List.length_replicate]; omega) (by have := H.most; unfold limit at *; omega)
              refine ⟨_, _, hr, ?_⟩
              clear hr
              have H := H.call0 Hc
              clear Hc
              rw [nlen_rep]
              refine ops_on rfl (op_alloc H zf56 (by (unfold limit at *; omega)) (fun b15 s7 H => ?_))
              refine ops_on rfl (op_store0 (vs := [.bool _, .slice _ _ _]) H sz56 rfl rfl rfl rfl rfl (by (unfold limit at *; omega)) (fun s86 H => ?_))
              refine ops_nil ?_
              refine cw_rseq ?_
              first | refine ops_on rfl (op_moveS rfl ?_) | refine ops_on rfl (op_move ?_)
              first | refine ops_on rfl (op_moveI rfl ?_) | refine ops_on rfl (op_move ?_)
              first | refine ops_on rfl (op_moveI rfl ?_) | refine ops_on rfl (op_move ?_)
              refine ops_on rfl (op_indexS el22 rfl rfl (by (unfold limit at *; omega)) (by (unfold limit at *; omega)) ?_)
              refine ops_on rfl (op_store2 H sz3 rfl rfl rfl rfl (lput_ints' (o := o) (k := m) (by omega) (by omega)) (by (unfold limit at *; omega)) (fun s90 H => ?_))
              refine ops_nil ?_
              refine cw_region ?_
              refine ops_on rfl (op_fieldAddr of56_1 rfl ?_)
              refine ops_on rfl (op_load1 sh22 rfl (by first | exact H.own0 | exact H.own1 | exact H.own2 | exact H.own3 | exact H.own4 | exact H.own5 | exact H.ownA | assumption) rfl ?_)
              first | refine ops_on rfl (op_assignS rfl ?_) | refine ops_on rfl (op_assign ?_)
              refine ops_nil ?_
              refine blk_norm ?_
              refine seq_norm ?_
              refine cw_region ?_
              first | refine ops_on rfl (op_moveI rfl ?_) | refine ops_on rfl (op_move ?_)
              refine ops_on rfl (op_sub rfl rfl (by unfold In64; (unfold limit at *; omega)) ?_)
              first | refine ops_on rfl (op_assignI rfl ?_) | refine ops_on rfl (op_assign ?_)
              refine ops_nil ?_
              refine loop_norm ?_
              refine ⟨m, by omega, _, m, o.set m lo, slots ⟨rfl, rfl, rfl, rfl, by show Value.int .i64 (((m + 1 : Nat) : Int) - 1 - 1) = _; congr 1; omega, trivial⟩, ?_, by simp; omega, ?_, by omega, rfl⟩
              · refine (H.sub (L' := [(b42, .cells (ints (o.set m lo)) 3)]) ?_).up (by omega)
                exact .cons _ (.cons _ (.cons_cons _ (List.nil_sublist _)))
              · intro y hy
                rcases List.mem_or_eq_of_mem_set hy with h | h
                · exact hod y h
                · omega
          · refine ⟨_, 0, _, _, slots ⟨rfl, rfl, rfl, rfl, rfl, rfl, rfl, trivial⟩, H.drop0, ?_, by omega, by omega, ?_, by omega, rfl⟩
            · omega
            · omega
        · refine ops_nil ?_
          refine cw_else rfl ?_
          refine cw_skip ?_
          refine seq_norm ?_
          refine cw_seq ?_
          refine cw_block ?_
          refine cw_loop (fun k F s1 => ∃ (G : FF) (lo hi : Int) (n : Nat), F = lay G [(0, .slice (some ⟨b1, off1, none⟩) la.length cap), (1, .slice a2 1 cap2), (8, .slice (some ⟨b42, 0, none⟩) la.length (2 * la.length)), (9, .slice ar nr cr), (10, .int .i64 (((m + 1 : Nat) : Int) - 1)), (12, .int .i64 lo), (13, .int .i64 hi)] ∧ HL [] s s1 [(b54, .cells [.int .i64 (la.getD m 0)] 3), (b42, .cells (ints o) 3)] n ∧ n + 40 * (hi - lo).toNat ≤ (1 + (la.length - (m + 1)) * 50000000000) + 40000000100 ∧ 0 ≤ lo ∧ lo ≤ (la.getD m 0) ∧ (la.getD m 0) ≤ hi ∧ hi ≤ 999999999 ∧ k = (hi - lo).toNat) ?_ ((999999999 : Int) - 0).toNat _ _ ?_
          · rintro k F s1 ⟨G, lo, hi, n, rfl, H, hcnt, hlo0, hlo, hhi, hhi9, rfl⟩
            refine cw_seq ?_
            refine cw_rseq ?_
            first | refine ops_on rfl (op_moveI rfl ?_) | refine ops_on rfl (op_move ?_)
            first | refine ops_on rfl (op_moveI rfl ?_) | refine ops_on rfl (op_move ?_)
            refine ops_on rfl (op_lss rfl rfl (fun h => ?_) (fun h => ?_))
            · refine ops_nil ?_
              refine cw_then rfl ?_
              refine cw_skip ?_
              refine seq_norm ?_
              refine cw_block ?_
              have hmid : (lo + hi + 1).tdiv 2 = (lo + hi + 1) / 2 := Int.tdiv_eq_ediv_of_nonneg (by omega)
              refine cw_rseq ?_
              first | refine ops_on rfl (op_moveI rfl ?_) | refine ops_on rfl (op_move ?_)
              first | refine ops_on rfl (op_moveI rfl ?_) | refine ops_on rfl (op_move ?_)
              refine ops_on rfl (op_add rfl rfl (by unfold In64; (unfold limit at *; omega)) ?_)
              refine ops_on rfl (op_add rfl rfl (by unfold In64; (unfold limit at *; omega)) ?_)
              refine ops_on rfl (op_quo rfl rfl (by decide) (by show In64 ((lo + hi + 1).tdiv 2); rw [Int.tdiv_eq_ediv_of_nonneg (by omega)]; unfold In64; omega) ?_)
              first | refine ops_on rfl (op_assignI rfl ?_) | refine ops_on rfl (op_assign ?_)
              refine ops_nil ?_
              refine cw_rseq ?_
              first | refine ops_on rfl (op_moveS rfl ?_) | refine ops_on rfl (op_move ?_)
              first | refine ops_on rfl (op_moveI rfl ?_) | refine ops_on rfl (op_move ?_)
              refine ops_on rfl (op_call rfl fc306 rfl ?_)
              obtain ⟨vt, s9, hr, Dt, Hc, hvt⟩ := times1_ok (k := (lo + hi + 1).tdiv 2) hI H.fine (hb.kept H) (by omega) (by omega) (by have := H.most; unfold limit at *; omega)
              refine ⟨_, _, hr, ?_⟩
              clear hr
              have H := H.callE Hc
              clear Hc
              try simp only [List.cons_append, List.nil_append, List.append_assoc] at H
              obtain ⟨avt, nvt, cvt, rfl, hnvt⟩ := hvt.isSlice
              first | refine ops_on rfl (op_moveS rfl ?_) | refine ops_on rfl (op_move ?_)
              refine ops_on rfl (op_call rfl fc169 rfl ?_)
              obtain ⟨_, _, hr, rfl, rfl⟩ := compared_ok hI (hvt.sl H (by intro p hp; (try simp only [List.mem_cons, List.mem_append, List.not_mem_nil, or_false] at hp ⊢); first | exact hp | simp only [hp, true_or, or_true])) (hrest.sl H (by intro p hp; (try simp only [List.mem_cons, List.mem_append, List.not_mem_nil, or_false] at hp ⊢); first | exact hp | simp only [hp, true_or, or_true])) (by have := dgs_len 3 ((lo + hi + 1).tdiv 2).natAbs; omega) (by have := H.most; unfold limit at *; omega)
              refine ⟨_, _, hr, ?_⟩
              clear hr
              have hc2 : cmpZ (dgs 3 ((lo + hi + 1).tdiv 2).natAbs) (dgs 3 (la.getD m 0).natAbs) = if (lo + hi + 1).tdiv 2 < (la.getD m 0) then -1 else if (la.getD m 0) < (lo + hi + 1).tdiv 2 then 1 else 0 := cmp_small (by omega) (by omega) hxd.1 hxd.2
              rw [hc2]
              refine ops_on rfl (op_leq rfl rfl (fun h => ?_) (fun h => ?_))
              · refine ops_nil ?_
                refine cw_then rfl ?_
                refine cw_region ?_
                first | refine ops_on rfl (op_moveI rfl ?_) | refine ops_on rfl (op_move ?_)
                first | refine ops_on rfl (op_assignI rfl ?_) | refine ops_on rfl (op_assign ?_)
                refine ops_nil ?_
                refine blk_norm ?_
                refine loop_norm ?_
                refine ⟨_, ?_, _, _, _, _, slots ⟨rfl, rfl, rfl, rfl, rfl, rfl, rfl, trivial⟩, H.left2, ?_, ?_, ?_, ?_, ?_, rfl⟩
                · omega
                · omega
                · omega
                · omega
                · omega
                · omega
              · refine ops_nil ?_
                refine cw_else rfl ?_
                refine cw_region ?_
                first | refine ops_on rfl (op_moveI rfl ?_) | refine ops_on rfl (op_move ?_)
                refine ops_on rfl (op_sub rfl rfl (by unfold In64; (unfold limit at *; omega)) ?_)
                first | refine ops_on rfl (op_assignI rfl ?_) | refine ops_on rfl (op_assign ?_)
                refine ops_nil ?_
                refine blk_norm ?_
                refine loop_norm ?_
                refine ⟨_, ?_, _, _, _, _, slots ⟨rfl, rfl, rfl, rfl, rfl, rfl, rfl, trivial⟩, H.left2, ?_, ?_, ?_, ?_, ?_, rfl⟩
                · omega
                · omega
                · omega
                · omega
                · omega
                · omega
            · refine ops_nil ?_
              refine cw_else rfl ?_
              refine cw_exit ?_
              refine seq_exit ?_
              refine loop_exit ?_
              refine blk_here ?_
              refine seq_norm ?_
              refine cw_rseq ?_
              first | refine ops_on rfl (op_moveS rfl ?_) | refine ops_on rfl (op_move ?_)
              first | refine ops_on rfl (op_moveS rfl ?_) | refine ops_on rfl (op_move ?_)
              first | refine ops_on rfl (op_moveI rfl ?_) | refine ops_on rfl (op_move ?_)
              refine ops_on rfl (op_call rfl fc306 rfl ?_)
              obtain ⟨vu, s9, hr, Du, Hc, hvu⟩ := times1_ok (k := lo) hI H.fine (hb.kept H) (by omega) (by omega) (by have := H.most; unfold limit at *; omega)
              refine ⟨_, _, hr, ?_⟩
              clear hr
              have H := H.callE Hc
              clear Hc
              try simp only [List.cons_append, List.nil_append, List.append_assoc] at H
              obtain ⟨avu, nvu, cvu, rfl, hnvu⟩ := hvu.isSlice
              refine ops_on rfl (op_call rfl fc170 rfl ?_)
              have hlx : lo = la.getD m 0 := by omega
              have hvu2 := hvu
              rw [hlx] at hvu2
              obtain ⟨vm, s9, hr, Dm, Hc, hvm⟩ := minus_ok hI H.fine (hrest.sl H (by intro p hp; (try simp only [List.mem_cons, List.mem_append, List.not_mem_nil, or_false] at hp ⊢); first | exact hp | simp only [hp, true_or, or_true])) (hvu2.sl H (by intro p hp; (try simp only [List.mem_cons, List.mem_append, List.not_mem_nil, or_false] at hp ⊢); first | exact hp | simp only [hp, true_or, or_true])) (dgs_dig _ _) (by have := dgs_len 3 (la.getD m 0).natAbs; omega) (by have := H.most; unfold limit at *; omega)
              refine ⟨_, _, hr, ?_⟩
              clear hr
              have H := H.callE Hc
              clear Hc
              try simp only [List.cons_append, List.nil_append, List.append_assoc] at H
              obtain ⟨avm, nvm, cvm, rfl, hnvm⟩ := hvm.isSlice
              refine ops_on rfl (op_call rfl fc167 rfl ?_)
              subst hnvm
              have hlm := dgs_len 3 (la.getD m 0).natAbs
              obtain ⟨_, s9, hr, rfl, Hc⟩ := normal_ok (l := List.replicate (dgs 3 (la.getD m 0).natAbs).length 0) (a := avm) (cap := cvm) (neg := false) hI H.fine (hvm.sl H (by intro p hp; (try simp only [List.mem_cons, List.mem_append, List.not_mem_nil, or_false] at hp ⊢); first | exact hp | simp only [hp, true_or, or_true])) (by rw [List.length_replicate]; omega) (by have := H.most; unfold limit at *; omega)
              refine ⟨_, _, hr, ?_⟩
              clear hr
              have H := H.call0 Hc
              clear Hc
              rw [nlen_rep]
              refine ops_on rfl (op_alloc H zf56 (by (unfold limit at *; omega)) (fun b15 s8 H => ?_))
              refine ops_on rfl (op_store0 (vs := [.bool _, .slice _ _ _]) H sz56 rfl rfl rfl rfl rfl (by (unfold limit at *; omega)) (fun s86 H => ?_))
              refine ops_nil ?_
              refine cw_rseq ?_
              first | refine ops_on rfl (op_moveS rfl ?_) | refine ops_on rfl (op_move ?_)
              first | refine ops_on rfl (op_moveI rfl ?_) | refine ops_on rfl (op_move ?_)
              first | refine ops_on rfl (op_moveI rfl ?_) | refine ops_on rfl (op_move ?_)
              refine ops_on rfl (op_indexS el22 rfl rfl (by (unfold limit at *; omega)) (by (unfold limit at *; omega)) ?_)
              refine ops_on rfl (op_store2 H sz3 rfl rfl rfl rfl (lput_ints' (o := o) (k := m) (by omega) (by omega)) (by (unfold limit at *; omega)) (fun s90 H => ?_))
              refine ops_nil ?_
              refine cw_region ?_
              refine ops_on rfl (op_fieldAddr of56_1 rfl ?_)
              refine ops_on rfl (op_load1 sh22 rfl (by first | exact H.own0 | exact H.own1 | exact H.own2 | exact H.own3 | exact H.own4 | exact H.own5 | exact H.ownA | assumption) rfl ?_)
              first | refine ops_on rfl (op_assignS rfl ?_) | refine ops_on rfl (op_assign ?_)
              refine ops_nil ?_
              refine blk_norm ?_
              refine seq_norm ?_
              refine cw_region ?_
              first | refine ops_on rfl (op_moveI rfl ?_) | refine ops_on rfl (op_move ?_)
              refine ops_on rfl (op_sub rfl rfl (by unfold In64; (unfold limit at *; omega)) ?_)
              first | refine ops_on rfl (op_assignI rfl ?_) | refine ops_on rfl (op_assign ?_)
              refine ops_nil ?_
              refine loop_norm ?_
              refine ⟨m, by omega, _, m, o.set m lo, slots ⟨rfl, rfl, rfl, rfl, by show Value.int .i64 (((m + 1 : Nat) : Int) - 1 - 1) = _; congr 1; omega, trivial⟩, ?_, by simp; omega, ?_, by omega, rfl⟩
              · refine (H.sub (L' := [(b42, .cells (ints (o.set m lo)) 3)]) ?_).up (by omega)
                exact .cons _ (.cons _ (.cons_cons _ (List.nil_sublist _)))
              · intro y hy
                rcases List.mem_or_eq_of_mem_set hy with h | h
                · exact hod y h
                · omega
          · refine ⟨_, 0, _, _, slots ⟨rfl, rfl, rfl, rfl, rfl, rfl, rfl, trivial⟩, H.drop0, ?_, by omega, by omega, ?_, by omega, rfl⟩
            · omega
            · omega
      · refine ops_nil ?_
        refine cw_else rfl ?_
        refine cw_exit ?_
        refine seq_exit ?_
        refine loop_exit ?_
        refine blk_here ?_
        refine seq_norm ?_
        refine cw_rseq ?_
        first | refine ops_on rfl (op_moveS rfl ?_) | refine ops_on rfl (op_move ?_)
        first | refine ops_on rfl (op_moveS rfl ?_) | refine ops_on rfl (op_move ?_)
        first | refine ops_on rfl (op_assignS rfl ?_) | refine ops_on rfl (op_assign ?_)
        first | refine ops_on rfl (op_assignS rfl ?_) | refine ops_on rfl (op_assign ?_)
        refine ops_nil ?_
        refine cw_ret ?_
        refine ret_end ?_
        refine end_tt rfl rfl ?_
        refine ⟨_, _, _, o, rfl, H.up (by omega), ?_, hod, by omega, .nil 0 rfl rfl⟩
        rw [← hol]
        exact (Own.slIn (l := o) (len := o.length) (.block b42 (2 * o.length) _ _ (by simp [ints]) (by omega))).2
    · exact ⟨_, la.length, List.replicate la.length 0, slots ⟨rfl, rfl, rfl, rfl, rfl, trivial⟩, H.up (by omega), by simp, by intro x hx; rw [List.mem_replicate] at hx; omega, by omega, rfl⟩

end Go.Proofs.YtdejleegamcioaaGreat
