/- The reference of integers: products with one. -/
/- The reference of integers: division by one. -/
import Derived.Test.YtdejleegamcioaaGreatM15
namespace Go.Proofs.YtdejleegamcioaaGreat
open Go Go.M

theorem fb116 : funcB Tryz.f116 (Tryz.f116.body.getD .skip) 2 = true := by kernel_rfl
theorem of56_0 : offF Tryz.prog 56 0 = some 0 := by kernel_rfl
theorem of56_1 : offF Tryz.prog 56 1 = some 1 := by kernel_rfl
theorem sh22 : shapeOf Tryz.prog 22 = some (none) := by kernel_rfl
theorem sh4 : shapeOf Tryz.prog 4 = some (none) := by kernel_rfl
theorem sz3 : sizeF Tryz.prog 3 = some 1 := by kernel_rfl

theorem repL_ints : ∀ n, repL [.int .i64 0] n = ints (List.replicate n 0)
  | 0 => rfl
  | n + 1 => by rw [repL, repL_ints n, List.replicate_succ]; rfl
theorem lput_ints {x : Int} : ∀ {o : List Int} {k : Nat}, k < o.length → lput k [.int .i64 x] (ints o) = some (ints (o.set k x))
  | [], _, h => by simp at h
  | y :: o, 0, _ => rfl
  | y :: o, k + 1, h => by
    have := lput_ints (x := x) (o := o) (k := k) (by simpa using h)
    simp only [ints, List.map_cons, lput] at this ⊢
    rw [this]
    rfl
theorem lget_ints' {o : List Int} {k m : Nat} (hk : k < o.length) (hm : m = k) : lget (ints o) m = some (.int .i64 (o.getD k 0)) := by
  subst hm
  rw [lget_eq]
  simp [ints, List.getElem?_map, List.getD_eq_getElem?_getD, List.getElem?_eq_getElem hk]
theorem lput_ints' {x : Int} {o : List Int} {k m : Nat} (hk : k < o.length) (hm : m = k) : lput m [.int .i64 x] (ints o) = some (ints (o.set k x)) := by
  subst hm; exact lput_ints hk
theorem nlen_app {l r : List Int} : ∀ n, n ≤ l.length → nlen (l ++ r) n = nlen l n
  | 0, _ => rfl
  | n + 1, h => by
    simp only [nlen]
    have e : (l ++ r).getD n 0 = l.getD n 0 := by
      simp only [List.getD_eq_getElem?_getD]
      rw [List.getElem?_append_left (by omega)]
    rw [e, nlen_app n (by omega)]

set_option maxHeartbeats 4000000 in
set_option maxRecDepth 10000 in
theorem mul1_ok {I : Table} (hI : Plain I) {s : St} (hf : Fine s) {n1 n2 : Bool} {s1 s2 : Value} {lb : List Int} (ha : SlD s s1 [1]) (hb : SlD s s2 lb) (hd : Dig lb) (hnl : nlen lb lb.length = lb.length) (hlen : lb.length ≤ 4) (hroom : s.next + 10 ≤ limit) :
    ∃ v' s', Rets Tryz.prog I 116 #[.agg ⟨[.bool n1, s1]⟩, .agg ⟨[.bool n2, s2]⟩] s v' s' ∧ (∃ D nb sl, v' = .agg ⟨[.bool nb, sl]⟩ ∧ HL [] s s' D 10 ∧ SlIn D sl lb) := by
  have H := hf.hl
  obtain ⟨a1, len, cap1, rfl, hn⟩ := ha.isSlice
  simp only [List.length_map, List.length_cons, List.length_nil, Nat.zero_add] at hn
  subst hn
  obtain ⟨a2, len, cap2, rfl, hn⟩ := hb.isSlice
  rw [List.length_map] at hn
  subst hn
  refine call_of 2 (hI 116 (by decide) (by decide)) Tryz.func116 rfl fb116 rfl ?_
  refine cw_rseq ?_
  first | refine ops_on rfl (op_boxA H rfl (by (unfold limit at *; omega)) (fun b2 s1 H => ?_)) | refine ops_on rfl (op_box H rfl (by (unfold limit at *; omega)) (fun b2 s1 H => ?_))
  first | refine ops_on rfl (op_boxA H rfl (by (unfold limit at *; omega)) (fun b3 s2 H => ?_)) | refine ops_on rfl (op_box H rfl (by (unfold limit at *; omega)) (fun b3 s2 H => ?_))
  refine ops_on rfl (op_alloc H zf56 (by (unfold limit at *; omega)) (fun b4 s3 H => ?_))
  refine ops_nil ?_
  refine cw_rseq ?_
  refine ops_on rfl (op_fieldAddr of56_1 rfl ?_)
  refine ops_on rfl (op_load1 sh22 rfl (by first | exact H.own0 | exact H.own1 | exact H.own2 | exact H.own3 | exact H.own4 | exact H.own5 | exact H.ownA | assumption) rfl ?_)
  refine ops_on rfl (op_len un22 rfl rfl rfl ?_)
  refine ops_on rfl (op_fieldAddr of56_1 rfl ?_)
  refine ops_on rfl (op_load1 sh22 rfl (by first | exact H.own0 | exact H.own1 | exact H.own2 | exact H.own3 | exact H.own4 | exact H.own5 | exact H.ownA | assumption) rfl ?_)
  refine ops_on rfl (op_len un22 rfl rfl rfl ?_)
  refine ops_on rfl (op_add rfl rfl (by unfold In64; (unfold limit at *; omega)) ?_)
  refine ops_on rfl (op_makeSlice (a := 1 + lb.length) (b := 1 + lb.length) H sl22 rfl rfl (Nat.le_refl _) (by omega) (by (unfold limit at *; omega)) (fun b17 s17 H => ?_))
  first | refine ops_on rfl (op_assignS rfl ?_) | refine ops_on rfl (op_assign ?_)
  refine ops_nil ?_
  refine cw_seq ?_
  rw [repL_ints] at H
  refine cw_rseq ?_
  refine ops_on rfl (op_assignC ?_)
  refine ops_nil ?_
  refine cw_block ?_
  refine cw_unroll ?_
  refine cw_seq ?_
  refine cw_rseq ?_
  first | refine ops_on rfl (op_moveI rfl ?_) | refine ops_on rfl (op_move ?_)
  refine ops_on rfl (op_fieldAddr of56_1 rfl ?_)
  refine ops_on rfl (op_load1 sh22 rfl (by first | exact H.own0 | exact H.own1 | exact H.own2 | exact H.own3 | exact H.own4 | exact H.own5 | exact H.ownA | assumption) rfl ?_)
  refine ops_on rfl (op_len un22 rfl rfl rfl ?_)
  refine ops_on rfl (op_lss rfl rfl (fun h => ?_) (fun h => ?_))
  · refine ops_nil ?_
    refine cw_then rfl ?_
    refine cw_skip ?_
    refine seq_norm ?_
    refine cw_seq ?_
    refine cw_block ?_
    refine cw_rseq ?_
    refine ops_on rfl (op_assignC ?_)
    refine ops_nil ?_
    refine cw_seq ?_
    refine cw_rseq ?_
    refine ops_on rfl (op_assignC ?_)
    refine ops_nil ?_
    refine cw_block ?_
    refine cw_loop (fun k F s1 => ∃ (G : FF) (q : Nat), F = lay G [(2, .pointer (some ⟨b2, 0, none⟩)), (3, .pointer (some ⟨b3, 0, none⟩)), (4, .pointer (some ⟨b4, 0, none⟩)), (5, .slice (some ⟨b17, 0, none⟩) (1 + lb.length) (2 * (1 + lb.length))), (6, .int .i64 0), (7, .int .i64 0), (8, .int .i64 (q : Int))] ∧ HL [] s s1 [(b17, .cells (ints (lb.take q ++ List.replicate (1 + lb.length - q) 0)) 3), (b4, .cells [.bool false, .slice none 0 0] 56), (b3, .cells [.bool n2, .slice a2 lb.length cap2] 56), (b2, .cells [.bool n1, .slice a1 1 cap1] 56)] 4 ∧ q ≤ lb.length ∧ k = lb.length - q) ?_ lb.length _ _ ?_
    · rintro k F s1 ⟨G, q, rfl, H, hq, rfl⟩
      refine cw_seq ?_
      refine cw_rseq ?_
      first | refine ops_on rfl (op_moveI rfl ?_) | refine ops_on rfl (op_move ?_)
      refine ops_on rfl (op_fieldAddr of56_1 rfl ?_)
      refine ops_on rfl (op_load1 sh22 rfl (by first | exact H.own0 | exact H.own1 | exact H.own2 | exact H.own3 | exact H.own4 | exact H.own5 | exact H.ownA | assumption) rfl ?_)
      refine ops_on rfl (op_len un22 rfl rfl rfl ?_)
      refine ops_on rfl (op_lss rfl rfl (fun h => ?_) (fun h => ?_))
      · refine ops_nil ?_
        refine cw_then rfl ?_
        refine cw_skip ?_
        refine seq_norm ?_
        refine cw_seq ?_
        refine cw_block ?_
        have hdq := hd.at q
        have hout : lget (ints (lb.take q ++ List.replicate (1 + lb.length - q) 0)) (0 + ((0 : Int) + (q : Int)).toNat * 1) = some (.int .i64 0) := by
          rw [lget_ints' (k := q) (by simp; omega) (by omega)]
          congr 2
          rw [List.getD_eq_getElem?_getD, List.getElem?_append_right (by simp; omega)]
          simp [List.getElem?_replicate]
          split <;> rfl
        obtain ⟨b1, off1, c1, rfl, hg1, hb1, hc1⟩ := (ha.kept H).atD (i := 0) (k := 0) rfl (by simp)
        have hl1 : b1 < limit := by have := H.most; unfold limit at *; omega
        obtain ⟨b22, off2, c2, rfl, hg2, hb2, hc2⟩ := (hb.kept H).atD (i := (q : Int)) (k := q) rfl (by omega)
        have hl2 : b22 < limit := by have := H.most; unfold limit at *; omega
        refine cw_dseq [⟨0, 0, .light, [7, 10, 12, 15]⟩, ⟨1, 0, .light, [7, 10, 12, 15]⟩, ⟨2, 0, .light, [7, 10, 12, 15]⟩, ⟨3, 6, .light, [7, 10, 12, 15]⟩, ⟨4, 15, .light, [7, 10, 12, 15]⟩, ⟨5, 31, .light, [7, 10, 12, 15]⟩, ⟨6, 0, .light, [5, 12, 15]⟩, ⟨7, 64, .light, [5, 12, 15]⟩, ⟨8, 0, .light, [5, 7, 12, 15]⟩, ⟨9, 448, .light, [5, 12, 15]⟩, ⟨10, 960, .light, [5, 12, 15]⟩, ⟨11, 0, .light, [5, 7, 10]⟩, ⟨12, 2048, .light, [5, 7, 10]⟩, ⟨13, 0, .light, [5, 7, 10, 12]⟩, ⟨14, 14336, .light, [5, 7, 10]⟩, ⟨15, 30720, .light, [5, 7, 10]⟩, ⟨16, 65472, .light, [5]⟩, ⟨17, 131071, .light, []⟩, ⟨18, 0, .light, [5, 7, 10, 12, 15]⟩, ⟨19, 524287, .light, []⟩, ⟨20, 1048575, .light, []⟩] (by kernel_rfl) (by kernel_rfl) ?_
        first | refine draw_light rfl rfl (op_moveS rfl ⟨rfl, ?_⟩) | refine draw_light rfl rfl (op_move ⟨rfl, ?_⟩)
        first | refine draw_light rfl rfl (op_moveI rfl ⟨rfl, ?_⟩) | refine draw_light rfl rfl (op_move ⟨rfl, ?_⟩)
        first | refine draw_light rfl rfl (op_moveI rfl ⟨rfl, ?_⟩) | refine draw_light rfl rfl (op_move ⟨rfl, ?_⟩)
        refine draw_light rfl rfl (op_add rfl rfl (by unfold In64; (unfold limit at *; omega)) ⟨rfl, ?_⟩)
        refine draw_light rfl rfl (op_indexS el22 rfl rfl (by (unfold limit at *; omega)) (by (unfold limit at *; omega)) ⟨rfl, ?_⟩)
        refine dr_load1 rfl rfl sh3 rfl H.own0 (H.lim0 (by (unfold limit at *; omega))) hout ?_
        refine draw_light rfl rfl (op_fieldAddr of56_1 rfl ⟨rfl, ?_⟩)
        refine dr_load1 rfl rfl sh22 rfl (by first | exact H.own0 | exact H.own1 | exact H.own2 | exact H.own3 | exact H.own4 | exact H.own5 | exact H.ownA | assumption) (by first | exact H.lim0 (by (unfold limit at *; omega)) | exact H.lim1 (by (unfold limit at *; omega)) | exact H.lim2 (by (unfold limit at *; omega)) | exact H.lim3 (by (unfold limit at *; omega)) | exact H.lim4 (by (unfold limit at *; omega)) | exact H.lim5 (by (unfold limit at *; omega)) | (have := H.most; (unfold limit at *; omega))) rfl ?_
        first | refine draw_light rfl rfl (op_moveI rfl ⟨rfl, ?_⟩) | refine draw_light rfl rfl (op_move ⟨rfl, ?_⟩)
        refine draw_light rfl rfl (op_indexS el22 rfl rfl (by (unfold limit at *; omega)) (by (unfold limit at *; omega)) ⟨rfl, ?_⟩)
        refine dr_load1 rfl rfl sh3 rfl hg1 hl1 hc1 ?_
        refine draw_light rfl rfl (op_fieldAddr of56_1 rfl ⟨rfl, ?_⟩)
        refine dr_load1 rfl rfl sh22 rfl (by first | exact H.own0 | exact H.own1 | exact H.own2 | exact H.own3 | exact H.own4 | exact H.own5 | exact H.ownA | assumption) (by first | exact H.lim0 (by (unfold limit at *; omega)) | exact H.lim1 (by (unfold limit at *; omega)) | exact H.lim2 (by (unfold limit at *; omega)) | exact H.lim3 (by (unfold limit at *; omega)) | exact H.lim4 (by (unfold limit at *; omega)) | exact H.lim5 (by (unfold limit at *; omega)) | (have := H.most; (unfold limit at *; omega))) rfl ?_
        first | refine draw_light rfl rfl (op_moveI rfl ⟨rfl, ?_⟩) | refine draw_light rfl rfl (op_move ⟨rfl, ?_⟩)
        refine draw_light rfl rfl (op_indexS el22 rfl rfl (by (unfold limit at *; omega)) (by (unfold limit at *; omega)) ⟨rfl, ?_⟩)
        refine dr_load1 rfl rfl sh3 rfl hg2 hl2 hc2 ?_
        refine draw_light rfl rfl (op_mul rfl rfl (by show In64 (1 * lb.getD q 0); unfold In64; omega) ⟨rfl, ?_⟩)
        refine draw_light rfl rfl (op_add rfl rfl (by show In64 (0 + 1 * lb.getD q 0); unfold In64; omega) ⟨rfl, ?_⟩)
        first | refine draw_light rfl rfl (op_moveI rfl ⟨rfl, ?_⟩) | refine draw_light rfl rfl (op_move ⟨rfl, ?_⟩)
        refine draw_light rfl rfl (op_add rfl rfl (by show In64 (0 + 1 * lb.getD q 0 + 0); unfold In64; omega) ⟨rfl, ?_⟩)
        first | refine draw_light rfl rfl (op_assignI rfl ⟨rfl, ?_⟩) | refine draw_light rfl rfl (op_assign ⟨rfl, ?_⟩)
        refine draw_nil ?_
        refine cw_rseq ?_
        first | refine ops_on rfl (op_moveS rfl ?_) | refine ops_on rfl (op_move ?_)
        first | refine ops_on rfl (op_moveI rfl ?_) | refine ops_on rfl (op_move ?_)
        first | refine ops_on rfl (op_moveI rfl ?_) | refine ops_on rfl (op_move ?_)
        refine ops_on rfl (op_add rfl rfl (by unfold In64; (unfold limit at *; omega)) ?_)
        first | refine ops_on rfl (op_moveI rfl ?_) | refine ops_on rfl (op_move ?_)
        refine ops_on rfl (op_rem rfl rfl (by (unfold limit at *; omega)) ?_)
        refine ops_on rfl (op_indexS el22 rfl rfl (by (unfold limit at *; omega)) (by (unfold limit at *; omega)) ?_)
        refine ops_on rfl (op_store0 H sz3 rfl rfl rfl rfl (lput_ints' (o := (lb.take q ++ List.replicate (1 + lb.length - q) 0)) (k := q) (by simp; omega) (by omega)) (by (unfold limit at *; omega)) (fun s58 H => ?_))
        refine ops_nil ?_
        have htd : (0 + 1 * lb.getD q 0 + 0).tdiv 1000000000 = 0 := by rw [Int.tdiv_eq_ediv_of_nonneg (by omega)]; omega
        have htm : (0 + 1 * lb.getD q 0 + 0).tmod 1000000000 = lb.getD q 0 := by rw [Int.tmod_eq_emod_of_nonneg (by omega)]; omega
        refine cw_region ?_
        first | refine ops_on rfl (op_moveI rfl ?_) | refine ops_on rfl (op_move ?_)
        refine ops_on rfl (op_quo rfl rfl (by decide) (by show In64 ((0 + 1 * lb.getD q 0 + 0).tdiv 1000000000); rw [htd]; unfold In64; omega) ?_)
        first | refine ops_on rfl (op_assignI rfl ?_) | refine ops_on rfl (op_assign ?_)
        refine ops_nil ?_
        refine blk_norm ?_
        refine seq_norm ?_
        refine cw_region ?_
        first | refine ops_on rfl (op_moveI rfl ?_) | refine ops_on rfl (op_move ?_)
        refine ops_on rfl (op_add rfl rfl (by unfold In64; (unfold limit at *; omega)) ?_)
        first | refine ops_on rfl (op_assignI rfl ?_) | refine ops_on rfl (op_assign ?_)
        refine ops_nil ?_
        refine loop_norm ?_
        refine ⟨lb.length - (q + 1), by omega, _, q + 1, slots ⟨rfl, rfl, rfl, rfl, rfl, by show Value.int .i64 ((0 + 1 * lb.getD q 0 + 0).tdiv 1000000000) = _; rw [htd], rfl, trivial⟩, ?_, by omega, rfl⟩
        have hset : (lb.take q ++ List.replicate (1 + lb.length - q) 0).set q ((0 + 1 * lb.getD q 0 + 0).tmod 1000000000) = lb.take (q + 1) ++ List.replicate (1 + lb.length - (q + 1)) 0 := by
          rw [htm]
          obtain ⟨m, hm⟩ : ∃ m, 1 + lb.length - q = m + 1 := ⟨lb.length - q, by omega⟩
          have hm2 : 1 + lb.length - (q + 1) = m := by omega
          have hm3 : q - (lb.take q).length = 0 := by simp; omega
          rw [hm, hm2, List.replicate_succ, List.set_append_right _ _ (by simp; omega), hm3, List.set_cons_zero, List.take_succ_eq_append_getElem (show q < lb.length by omega), List.append_assoc]
          simp only [List.singleton_append, List.getD_eq_getElem?_getD, List.getElem?_eq_getElem (show q < lb.length by omega), Option.getD_some]
        rw [← hset]
        exact H
      · refine ops_nil ?_
        refine cw_else rfl ?_
        refine cw_exit ?_
        refine seq_exit ?_
        refine loop_exit ?_
        refine blk_here ?_
        refine seq_norm ?_
        refine cw_region ?_
        have hq2 : q = lb.length := by omega
        subst hq2
        first | refine ops_on rfl (op_moveS rfl ?_) | refine ops_on rfl (op_move ?_)
        first | refine ops_on rfl (op_moveI rfl ?_) | refine ops_on rfl (op_move ?_)
        refine ops_on rfl (op_fieldAddr of56_1 rfl ?_)
        refine ops_on rfl (op_load1 sh22 rfl (by first | exact H.own0 | exact H.own1 | exact H.own2 | exact H.own3 | exact H.own4 | exact H.own5 | exact H.ownA | assumption) rfl ?_)
        refine ops_on rfl (op_len un22 rfl rfl rfl ?_)
        refine ops_on rfl (op_add rfl rfl (by unfold In64; (unfold limit at *; omega)) ?_)
        first | refine ops_on rfl (op_moveI rfl ?_) | refine ops_on rfl (op_move ?_)
        refine ops_on rfl (op_indexS el22 rfl rfl (by (unfold limit at *; omega)) (by (unfold limit at *; omega)) ?_)
        refine ops_on rfl (op_store0 H sz3 rfl rfl rfl rfl (lput_ints' (o := (lb.take lb.length ++ List.replicate (1 + lb.length - lb.length) 0)) (k := lb.length) (by simp) (by omega)) (by (unfold limit at *; omega)) (fun s68 H => ?_))
        refine ops_nil ?_
        refine blk_norm ?_
        refine seq_norm ?_
        refine cw_region ?_
        have hset2 : (lb.take lb.length ++ List.replicate (1 + lb.length - lb.length) 0).set lb.length 0 = lb ++ [0] := by
          rw [List.take_length, show 1 + lb.length - lb.length = 1 by omega]
          simp
        rw [hset2] at H
        first | refine ops_on rfl (op_moveI rfl ?_) | refine ops_on rfl (op_move ?_)
        refine ops_on rfl (op_add rfl rfl (by unfold In64; (unfold limit at *; omega)) ?_)
        first | refine ops_on rfl (op_assignI rfl ?_) | refine ops_on rfl (op_assign ?_)
        refine ops_nil ?_
        refine seq_norm ?_
        refine cw_unroll ?_
        refine cw_seq ?_
        refine cw_rseq ?_
        first | refine ops_on rfl (op_moveI rfl ?_) | refine ops_on rfl (op_move ?_)
        refine ops_on rfl (op_fieldAddr of56_1 rfl ?_)
        refine ops_on rfl (op_load1 sh22 rfl (by first | exact H.own0 | exact H.own1 | exact H.own2 | exact H.own3 | exact H.own4 | exact H.own5 | exact H.ownA | assumption) rfl ?_)
        refine ops_on rfl (op_len un22 rfl rfl rfl ?_)
        refine ops_on rfl (op_lss rfl rfl (fun h => ?_) (fun h => ?_))
        · refine ops_nil ?_
          refine cw_then rfl ?_
          refine cw_skip ?_
          refine seq_norm ?_
          refine cw_seq ?_
          refine cw_block ?_
          exfalso
          omega
        · refine ops_nil ?_
          refine cw_else rfl ?_
          refine cw_exit ?_
          refine seq_exit ?_
          refine seq_exit ?_
          refine blk_here ?_
          refine seq_norm ?_
          have hll : (lb ++ [(0 : Int)]).length = 1 + lb.length := by simp; omega
          have hsl : SlIn [(b17, .cells (ints (lb ++ [0])) 3)] (.slice (some ⟨b17, 0, none⟩) (1 + lb.length) (2 * (1 + lb.length))) (lb ++ [0]) := by
            have := Own.slIn (l := lb ++ [0]) (len := 1 + lb.length) (.block b17 (2 * (1 + lb.length)) _ _ (by simp [ints]; omega) (by omega))
            exact this.2
          have hnl2 : nlen (lb ++ [0]) (lb ++ [0]).length = lb.length := by
            rw [List.length_append, List.length_singleton, nlen, if_pos (by simp), nlen_app _ (Nat.le_refl _), hnl]
          refine cw_rseq ?_
          refine ops_on rfl (op_fieldAddr of56_0 rfl ?_)
          refine ops_on rfl (op_load1 sh4 rfl (by first | exact H.own0 | exact H.own1 | exact H.own2 | exact H.own3 | exact H.own4 | exact H.own5 | exact H.ownA | assumption) rfl ?_)
          refine ops_on rfl (op_fieldAddr of56_0 rfl ?_)
          refine ops_on rfl (op_load1 sh4 rfl (by first | exact H.own0 | exact H.own1 | exact H.own2 | exact H.own3 | exact H.own4 | exact H.own5 | exact H.ownA | assumption) rfl ?_)
          refine ops_on rfl (op_neqb un4 rfl rfl ?_)
          first | refine ops_on rfl (op_moveS rfl ?_) | refine ops_on rfl (op_move ?_)
          refine ops_on rfl (op_call rfl fc167 rfl ?_)
          obtain ⟨_, s9, hr, rfl, Hc⟩ := normal_ok (l := lb ++ [0]) (a := some ⟨b17, 0, none⟩) (cap := 2 * (1 + lb.length)) (neg := !(n1 == n2)) hI H.fine (by have := hsl.sl H (by simp); rw [hll]; exact this) (by simp; omega) (by have := H.most; unfold limit at *; omega)
          rw [hll] at hr
          refine ⟨_, _, hr, ?_⟩
          clear hr
          have H := H.call0 Hc
          clear Hc
          rw [hll] at hnl2
          rw [hnl2]
          refine ops_on rfl (op_store1 H sz56 rfl rfl rfl (by show List.all [_, _] Go.M.plainCell = true; simp only [List.all_cons, List.all_nil, nv_plain]; rfl) rfl (by (unfold limit at *; omega)) (fun s75 H => ?_))
          refine ops_nil ?_
          refine cw_ret ?_
          refine ret_end ?_
          refine end_cell sh56 rfl (by first | exact H.own0 | exact H.own1 | exact H.own2 | exact H.own3 | exact H.own4 | exact H.own5 | exact H.ownA | assumption) rfl ?_
          refine ⟨_, _, _, rfl, (H.sub (L' := [(b17, .cells (ints (lb ++ [0])) 3)]) (by simp)).up (by omega), ?_⟩
          have := hsl.take (m := lb.length) (by simp)
          rwa [List.take_left' rfl] at this
    · exact ⟨_, 0, slots ⟨rfl, rfl, rfl, rfl, rfl, rfl, rfl, trivial⟩, H, by omega, by omega⟩
  · refine ops_nil ?_
    refine cw_else rfl ?_
    refine cw_exit ?_
    refine seq_exit ?_
    refine seq_exit ?_
    refine blk_here ?_
    refine seq_norm ?_
    exfalso
    omega

end Go.Proofs.YtdejleegamcioaaGreat
namespace Go.Proofs.YtdejleegamcioaaGreat
open Go Go.M

theorem fb306 : funcB Tryz.f306 (Tryz.f306.body.getD .skip) 2 = true := by kernel_rfl
theorem fc113 : funcF Tryz.prog 113 = true := by kernel_rfl
theorem fc116 : funcF Tryz.prog 116 = true := by kernel_rfl

theorem SlIn.isSlice {D : Hp'} {v : Value} {l : List Int} (h : SlIn D v l) : ∃ a n c, v = .slice a n c ∧ n = l.length := by
  cases h with
  | nil c hv hl => exact ⟨_, _, _, hv, by rw [hl]; rfl⟩
  | block b off cap c hv => exact ⟨_, _, _, hv, rfl⟩
theorem dgs_int {x : Int} (h0 : 0 ≤ x) (h1 : x < 1000000000) : dgs 3 x.natAbs = if x = 0 then [] else [x] := by
  rw [dgs_small (by omega)]
  by_cases h : x = 0
  · subst h; rfl
  · rw [if_neg (by omega), if_neg h]
    congr 1
    omega
theorem cmp_small {x y : Int} (hx0 : 0 ≤ x) (hx1 : x < 1000000000) (hy0 : 0 ≤ y) (hy1 : y < 1000000000) : cmpZ (dgs 3 x.natAbs) (dgs 3 y.natAbs) = if x < y then -1 else if y < x then 1 else 0 := by
  rw [dgs_int hx0 hx1, dgs_int hy0 hy1]
  by_cases hx : x = 0 <;> by_cases hy : y = 0
  · rw [if_pos hx, if_pos hy]; subst hx; subst hy; decide
  · rw [if_pos hx, if_neg hy]; subst hx; rw [if_pos (by omega)]; rfl
  · rw [if_neg hx, if_pos hy]; subst hy; rw [if_neg (by omega), if_pos (by omega)]; rfl
  · rw [if_neg hx, if_neg hy]; simp [cmpZ, cmpD]
theorem nlen_dgs (n : Nat) (h : n < 1000000000 ^ 3) : nlen (dgs 3 n) (dgs 3 n).length = (dgs 3 n).length := nlen_last (dgs_last 3 n h)
theorem nlen_rep : ∀ n m, nlen (List.replicate m 0) n = 0
  | 0, _ => rfl
  | n + 1, m => by
    rw [nlen, if_pos, nlen_rep n m]
    rw [List.getD_eq_getElem?_getD, List.getElem?_replicate]
    split <;> rfl
theorem nlen_one {x : Int} (h0 : 0 ≤ x) (h1 : x < 1000000000) : [x].take (nlen [x] [x].length) = dgs 3 x.natAbs := by
  rw [dgs_int h0 h1]
  by_cases h : x = 0
  · subst h; rfl
  · rw [if_neg h]; simp [nlen, h]

set_option maxHeartbeats 4000000 in
set_option maxRecDepth 10000 in
theorem times1_ok {I : Table} (hI : Plain I) {s : St} (hf : Fine s) {va : Value} (ha : SlD s va [1]) {k : Int} (hk0 : 0 ≤ k) (hk1 : k < 1000000000) (hroom : s.next + 40 ≤ limit) :
    ∃ v' s', Rets Tryz.prog I 306 #[va, .int .i64 k] s v' s' ∧ (∃ D, HL [] s s' D 40 ∧ SlIn D v' (dgs 3 k.natAbs)) := by
  have H := hf.hl
  obtain ⟨a, len, cap, rfl, hn⟩ := ha.isSlice
  simp only [List.length_map, List.length_cons, List.length_nil, Nat.zero_add] at hn
  subst hn
  refine call_of 2 (hI 306 (by decide) (by decide)) Tryz.func306 rfl fb306 rfl ?_
  refine cw_rseq ?_
  refine ops_on rfl (op_assignC ?_)
  refine ops_nil ?_
  refine cw_rseq ?_
  first | refine ops_on rfl (op_moveS rfl ?_) | refine ops_on rfl (op_move ?_)
  refine ops_on rfl (op_call rfl fc167 rfl ?_)
  obtain ⟨_, s9, hr, rfl, Hc⟩ := normal_ok (l := [1]) (a := a) (cap := cap) (neg := false) hI H.fine (ha.kept H) (by decide) (by have := H.most; unfold limit at *; omega)
  refine ⟨_, _, hr, ?_⟩
  clear hr
  have H := H.call0 Hc
  clear Hc
  first | refine ops_on rfl (op_moveI rfl ?_) | refine ops_on rfl (op_move ?_)
  refine ops_on rfl (op_call rfl fc113 rfl ?_)
  obtain ⟨_, s9, hr, D1, ra, rfl, Hc, hra⟩ := of03_ok (n := k) hI H.fine ⟨by omega, by omega⟩ (by have := H.most; unfold limit at *; omega)
  refine ⟨_, _, hr, ?_⟩
  clear hr
  have H := H.callE Hc
  clear Hc
  try simp only [List.cons_append, List.nil_append, List.append_assoc] at H
  obtain ⟨ara, nra, cra, rfl, hnra⟩ := hra.isSlice
  refine ops_on rfl (op_call rfl fc116 rfl ?_)
  obtain ⟨_, s9, hr, D2, nb, rb, rfl, Hc, hrb⟩ := mul1_ok (n1 := false) (n2 := decide (k < 0)) (s1 := .slice a 1 cap) (s2 := .slice ara nra cra) (lb := dgs 3 k.natAbs) hI H.fine (ha.kept H) (hra.sl H (by intro p hp; (try simp only [List.mem_cons, List.mem_append, List.not_mem_nil, or_false] at hp ⊢); first | exact hp | simp only [hp, true_or, or_true])) (dgs_dig _ _) (nlen_dgs _ (by omega)) (by have := dgs_len 3 k.natAbs; omega) (by have := H.most; unfold limit at *; omega)
  refine ⟨_, _, hr, ?_⟩
  clear hr
  have H := H.callE Hc
  clear Hc
  try simp only [List.cons_append, List.nil_append, List.append_assoc] at H
  obtain ⟨arb, nrb, crb, rfl, hnrb⟩ := hrb.isSlice
  refine ops_on rfl (op_alloc H zf56 (by (unfold limit at *; omega)) (fun b5 s1 H => ?_))
  first | refine ops_on rfl (op_store0 (vs := [.bool _, .slice _ _ _]) H sz56 rfl rfl rfl rfl rfl (by (unfold limit at *; omega)) (fun s2 H => ?_)) | refine ops_on rfl (op_store1 (vs := [.bool _, .slice _ _ _]) H sz56 rfl rfl rfl rfl rfl (by (unfold limit at *; omega)) (fun s2 H => ?_)) | refine ops_on rfl (op_store2 (vs := [.bool _, .slice _ _ _]) H sz56 rfl rfl rfl rfl rfl (by (unfold limit at *; omega)) (fun s2 H => ?_)) | refine ops_on rfl (op_store3 (vs := [.bool _, .slice _ _ _]) H sz56 rfl rfl rfl rfl rfl (by (unfold limit at *; omega)) (fun s2 H => ?_)) | refine ops_on rfl (op_store4 (vs := [.bool _, .slice _ _ _]) H sz56 rfl rfl rfl rfl rfl (by (unfold limit at *; omega)) (fun s2 H => ?_)) | refine ops_on rfl (op_store0 H sz56 rfl rfl rfl rfl rfl (by (unfold limit at *; omega)) (fun s2 H => ?_)) | refine ops_on rfl (op_store1 H sz56 rfl rfl rfl rfl rfl (by (unfold limit at *; omega)) (fun s2 H => ?_)) | refine ops_on rfl (op_store2 H sz56 rfl rfl rfl rfl rfl (by (unfold limit at *; omega)) (fun s2 H => ?_)) | refine ops_on rfl (op_store3 H sz56 rfl rfl rfl rfl rfl (by (unfold limit at *; omega)) (fun s2 H => ?_)) | refine ops_on rfl (op_store4 H sz56 rfl rfl rfl rfl rfl (by (unfold limit at *; omega)) (fun s2 H => ?_))
  refine ops_nil ?_
  refine cw_rseq ?_
  refine ops_on rfl (op_fieldAddr of56_1 rfl ?_)
  refine ops_on rfl (op_load1 sh22 rfl (by first | exact H.own0 | exact H.own1 | exact H.own2 | exact H.own3 | exact H.own4 | exact H.own5 | exact H.ownA | assumption) rfl ?_)
  first | refine ops_on rfl (op_assignS rfl ?_) | refine ops_on rfl (op_assign ?_)
  refine ops_nil ?_
  refine cw_ret ?_
  refine ret_end ?_
  refine end_t ?_
  exact ⟨_, H.up (by omega), hrb.mono (by intro p hp; (try simp only [List.mem_cons, List.mem_append, List.not_mem_nil, or_false] at hp ⊢); first | exact hp | simp only [hp, true_or, or_true])⟩

end Go.Proofs.YtdejleegamcioaaGreat
