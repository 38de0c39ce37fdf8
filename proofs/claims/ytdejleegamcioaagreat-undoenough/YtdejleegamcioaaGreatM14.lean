/- Which joins splits break: the reference. -/
import Derived.Test.YtdejleegamcioaaGreatM13
namespace Go.Proofs.YtdejleegamcioaaGreat
open Go Go.M

theorem fb25 : funcB Tryz.f25 (Tryz.f25.body.getD .skip) 2 = true := by kernel_rfl
theorem fc26 : funcF Tryz.prog 26 = true := by kernel_rfl
theorem un4 : Tryz.prog.underlying 4 = some (.bool) := by kernel_rfl

set_option maxHeartbeats 4000000 in
set_option maxRecDepth 10000 in
theorem brokenR_ok {I : Table} (hI : Plain I) {s : St} (hf : Fine s) {vj vl : Value} {js : List (Int × Int)} {l : List Sp} (hj : Sl s 30 2 vj (js.map jc)) (hl : Sl s 62 10 vl (l.map Sp.cells)) (hlen : l.length ≤ 4096) (hlen2 : js.length ≤ 1000) (hroom : s.next + 200000 ≤ limit) :
    ∃ v' s', Rets Tryz.prog I 25 #[vj, vl] s v' s' ∧ (v' = .int .i64 (brkZ l 0 js) ∧ HL [] s s' [] 200000) := by
  have H := hf.hl
  obtain ⟨a, len, cap, rfl, hn⟩ := hj.isSlice
  rw [List.length_map] at hn
  subst hn
  obtain ⟨a2, len2, cap2, rfl, hn2⟩ := hl.isSlice
  rw [List.length_map] at hn2
  subst hn2
  refine call_of 2 (hI 25 (by decide) (by decide)) Tryz.func25 rfl fb25 rfl ?_
  refine cw_rseq ?_
  refine ops_on rfl (op_assignC ?_)
  refine ops_nil ?_
  refine cw_rseq ?_
  refine ops_on rfl (op_assignC ?_)
  refine ops_nil ?_
  refine cw_seq ?_
  refine cw_rseq ?_
  refine ops_on rfl (op_assignC ?_)
  refine ops_nil ?_
  refine cw_block ?_
  refine cw_loop (fun k F s1 => ∃ (G : FF) (i : Nat) (o : Int), F = lay G [(0, .slice a js.length cap), (1, .slice a2 l.length cap2), (5, .int .i64 o), (6, .int .i64 (i : Int))] ∧ HL [] s s1 [] (4096 * i) ∧ i ≤ js.length ∧ i ≤ 16 ∧ k = js.length - i ∧ brkZ l 0 js = o + brkZ l i (js.drop i) ∧ 0 ≤ o ∧ o < 2 ^ i) ?_ js.length _ _ ?_
  · rintro k F s1 ⟨G, i, o, rfl, H, hi, hi16, rfl, hb0, ho0, ho1⟩
    refine cw_seq ?_
    refine cw_rseq ?_
    first | refine ops_on rfl (op_moveI rfl ?_) | refine ops_on rfl (op_move ?_)
    first | refine ops_on rfl (op_moveS rfl ?_) | refine ops_on rfl (op_move ?_)
    refine ops_on rfl (op_len un24 rfl rfl rfl ?_)
    refine ops_on rfl (op_lss rfl rfl (fun h => ?_) (fun h => ?_))
    · first | refine ops_on rfl (op_moveB rfl ?_) | refine ops_on rfl (op_move ?_)
      first | refine ops_on rfl (op_moveI rfl ?_) | refine ops_on rfl (op_move ?_)
      refine ops_on rfl (op_lss rfl rfl (fun h => ?_) (fun h => ?_))
      · first | refine ops_on rfl (op_pick1B rfl rfl ?_) | refine ops_on rfl (op_pick1 rfl ?_)
        refine ops_nil ?_
        refine cw_then rfl ?_
        refine cw_skip ?_
        refine seq_norm ?_
        refine cw_seq ?_
        refine cw_block ?_
        refine cw_rseq ?_
        refine ops_on rfl (op_assignC ?_)
        refine ops_nil ?_
        refine cw_seq ?_
        refine cw_rseq ?_
        refine ops_on rfl (op_assignC ?_)
        refine ops_nil ?_
        refine cw_block ?_
        refine cw_loop (fun k F s1 => ∃ (G : FF) (q : Nat) (bb : Bool), F = lay G [(0, .slice a js.length cap), (1, .slice a2 l.length cap2), (5, .int .i64 o), (6, .int .i64 (i : Int)), (7, .bool bb), (8, .int .i64 (q : Int))] ∧ HL [] s s1 [] (4096 * i + q) ∧ q ≤ l.length ∧ k = l.length - q ∧ bb = (l.take q).any (brokenB (js.getD i (0, 0)))) ?_ l.length _ _ ?_
        · rintro k F s1 ⟨G, q, bb, rfl, H, hq, rfl, hbb⟩
          refine cw_seq ?_
          refine cw_rseq ?_
          first | refine ops_on rfl (op_moveI rfl ?_) | refine ops_on rfl (op_move ?_)
          first | refine ops_on rfl (op_moveS rfl ?_) | refine ops_on rfl (op_move ?_)
          refine ops_on rfl (op_len un25 rfl rfl rfl ?_)
          refine ops_on rfl (op_lss rfl rfl (fun h => ?_) (fun h => ?_))
          · refine ops_nil ?_
            refine cw_then rfl ?_
            refine cw_skip ?_
            refine seq_norm ?_
            refine cw_seq ?_
            refine cw_block ?_
            cases bb
            · refine cw_rseq ?_
              obtain ⟨b, off, c, rfl, hg, hb, hc⟩ := (hj.kept H).atJ rfl (show i < js.length by omega)
              obtain ⟨bl, ofl, cl, rfl, hgl0, hbl, hcl⟩ := (hl.kept H).atS rfl (show q < l.length by omega)
              have hbl2 : bl < limit := by have := H.most; unfold limit at *; omega
              first | refine ops_on rfl (op_moveS rfl ?_) | refine ops_on rfl (op_move ?_)
              first | refine ops_on rfl (op_moveI rfl ?_) | refine ops_on rfl (op_move ?_)
              refine ops_on rfl (op_indexS el24 rfl rfl (by (unfold limit at *; omega)) (by (unfold limit at *; omega)) ?_)
              refine ops_on rfl (op_loadN sh30 rfl hg hc ?_)
              refine ops_on rfl (op_alloc H zf30 (by (unfold limit at *; omega)) (fun b9 s1 H => ?_))
              first | refine ops_on rfl (op_store0 (vs := [.int _ _, .int _ _]) H sz30 rfl rfl rfl rfl rfl (by (unfold limit at *; omega)) (fun s2 H => ?_)) | refine ops_on rfl (op_store1 (vs := [.int _ _, .int _ _]) H sz30 rfl rfl rfl rfl rfl (by (unfold limit at *; omega)) (fun s2 H => ?_)) | refine ops_on rfl (op_store2 (vs := [.int _ _, .int _ _]) H sz30 rfl rfl rfl rfl rfl (by (unfold limit at *; omega)) (fun s2 H => ?_)) | refine ops_on rfl (op_store3 (vs := [.int _ _, .int _ _]) H sz30 rfl rfl rfl rfl rfl (by (unfold limit at *; omega)) (fun s2 H => ?_)) | refine ops_on rfl (op_store4 (vs := [.int _ _, .int _ _]) H sz30 rfl rfl rfl rfl rfl (by (unfold limit at *; omega)) (fun s2 H => ?_)) | refine ops_on rfl (op_store0 H sz30 rfl rfl rfl rfl rfl (by (unfold limit at *; omega)) (fun s2 H => ?_)) | refine ops_on rfl (op_store1 H sz30 rfl rfl rfl rfl rfl (by (unfold limit at *; omega)) (fun s2 H => ?_)) | refine ops_on rfl (op_store2 H sz30 rfl rfl rfl rfl rfl (by (unfold limit at *; omega)) (fun s2 H => ?_)) | refine ops_on rfl (op_store3 H sz30 rfl rfl rfl rfl rfl (by (unfold limit at *; omega)) (fun s2 H => ?_)) | refine ops_on rfl (op_store4 H sz30 rfl rfl rfl rfl rfl (by (unfold limit at *; omega)) (fun s2 H => ?_))
              refine ops_nil ?_
              obtain ⟨cl2, hgl, hcl0, hcl1⟩ := (hl.kept H.drop0).gotS (show q < l.length by omega)
              refine cw_draw [⟨0, 0, .light, []⟩, ⟨1, 1, .light, []⟩, ⟨2, 3, .light, [8]⟩, ⟨3, 3, .light, [8]⟩, ⟨4, 15, .light, [8]⟩, ⟨5, 31, .light, [8]⟩, ⟨6, 63, .light, [8]⟩, ⟨7, 3, .light, [6]⟩, ⟨8, 131, .light, [6]⟩, ⟨9, 511, .whole, []⟩, ⟨10, 1023, .light, []⟩, ⟨11, 2047, .light, [17]⟩, ⟨12, 2047, .light, [17]⟩, ⟨13, 8191, .light, [17]⟩, ⟨14, 16383, .light, [17]⟩, ⟨15, 32767, .light, [17]⟩, ⟨16, 2047, .light, [15]⟩, ⟨17, 67583, .light, [15]⟩, ⟨18, 262143, .whole, []⟩, ⟨19, 524287, .light, []⟩, ⟨20, 1048575, .light, []⟩, ⟨21, 2097151, .light, [27, 33, 35]⟩, ⟨22, 2097151, .light, [27, 33, 35]⟩, ⟨23, 8388607, .light, [27, 33, 35]⟩, ⟨24, 16777215, .light, [27, 33, 35]⟩, ⟨25, 33554431, .light, [27, 33, 35]⟩, ⟨26, 2097151, .light, [25, 33, 35]⟩, ⟨27, 69206015, .light, [25, 33, 35]⟩, ⟨29, 2097151, .light, [25, 27, 35]⟩, ⟨30, 2097151, .light, [25, 27, 35]⟩, ⟨31, 1612709887, .light, [25, 27, 35]⟩, ⟨32, 3760193535, .light, [25, 27, 35]⟩, ⟨33, 8055160831, .light, [25, 27, 35]⟩, ⟨34, 2097151, .light, [25, 27, 33]⟩, ⟨35, 17181966335, .light, [25, 27, 33]⟩, ⟨28, 268435455, .whole, [33, 35]⟩, ⟨36, 68719476735, .whole, []⟩, ⟨37, 137438953471, .light, []⟩, ⟨38, 274877906943, .light, []⟩, ⟨39, 549755813887, .light, []⟩, ⟨40, 1099511627775, .light, []⟩] (by kernel_rfl) (by kernel_rfl) ?_
              first | refine draw_light rfl rfl (op_moveB rfl ⟨rfl, ?_⟩) | refine draw_light rfl rfl (op_move ⟨rfl, ?_⟩)
              first | refine draw_light rfl rfl (op_moveB rfl ⟨rfl, ?_⟩) | refine draw_light rfl rfl (op_move ⟨rfl, ?_⟩)
              first | refine draw_light rfl rfl (op_moveS rfl ⟨rfl, ?_⟩) | refine draw_light rfl rfl (op_move ⟨rfl, ?_⟩)
              first | refine draw_light rfl rfl (op_moveI rfl ⟨rfl, ?_⟩) | refine draw_light rfl rfl (op_move ⟨rfl, ?_⟩)
              refine draw_light rfl rfl (op_indexS el25 rfl rfl (by (unfold limit at *; omega)) (by (unfold limit at *; omega)) ⟨rfl, ?_⟩)
              refine draw_light rfl rfl (op_fieldAddr of62_0 rfl ⟨rfl, ?_⟩)
              refine dr_load1 rfl rfl sh23 rfl hgl hbl2 hcl0 ?_
              refine draw_light rfl rfl (op_indexA el30 rfl rfl (by (unfold limit at *; omega)) (by (unfold limit at *; omega)) ⟨rfl, ?_⟩)
              refine dr_load1 rfl rfl sh3 rfl (by first | exact H.own0 | exact H.own1 | exact H.own2 | exact H.own3 | exact H.own4 | exact H.own5 | exact H.ownA | assumption) (by first | exact H.lim0 (by (unfold limit at *; omega)) | exact H.lim1 (by (unfold limit at *; omega)) | exact H.lim2 (by (unfold limit at *; omega)) | exact H.lim3 (by (unfold limit at *; omega)) | exact H.lim4 (by (unfold limit at *; omega)) | exact H.lim5 (by (unfold limit at *; omega)) | (have := H.most; (unfold limit at *; omega))) rfl ?_
              refine draw_whole rfl rfl (op_call rfl fc26 rfl ?_)
              obtain ⟨_, _, hr, rfl, rfl⟩ := has_ok (s := _) (x := (l.getD q default).w) (k := (js.getD i (0, 0)).1) hI
              refine ⟨_, _, hr, ?_⟩
              clear hr
              cases h9 : (decide (0 ≤ (js.getD i (0, 0)).1) && decide ((js.getD i (0, 0)).1 ≤ 15) && bit (l.getD q default).w (js.getD i (0, 0)).1.toNat)
              · first | refine draw_light rfl rfl (op_moveB rfl ⟨rfl, ?_⟩) | refine draw_light rfl rfl (op_move ⟨rfl, ?_⟩)
                refine draw_off rfl rfl ?_
                refine draw_off rfl rfl ?_
                refine draw_off rfl rfl ?_
                refine draw_off rfl rfl ?_
                refine draw_off rfl rfl ?_
                refine draw_off rfl rfl ?_
                refine draw_off rfl rfl ?_
                refine draw_off rfl rfl ?_
                refine draw_light rfl rfl (op_pick0C rfl ⟨rfl, ?_⟩)
                first | refine draw_light rfl rfl (op_moveB rfl ⟨rfl, ?_⟩) | refine draw_light rfl rfl (op_move ⟨rfl, ?_⟩)
                refine draw_off rfl rfl ?_
                refine draw_off rfl rfl ?_
                refine draw_off rfl rfl ?_
                refine draw_off rfl rfl ?_
                refine draw_off rfl rfl ?_
                refine draw_off rfl rfl ?_
                refine draw_off rfl rfl ?_
                refine draw_off rfl rfl ?_
                refine draw_off rfl rfl ?_
                refine draw_off rfl rfl ?_
                refine draw_off rfl rfl ?_
                refine draw_off rfl rfl ?_
                refine draw_off rfl rfl ?_
                refine draw_off rfl rfl ?_
                refine draw_off rfl rfl ?_
                refine draw_off rfl rfl ?_
                refine draw_off rfl rfl ?_
                refine draw_light rfl rfl (op_pick0C rfl ⟨rfl, ?_⟩)
                first | refine draw_light rfl rfl (op_pick0B rfl rfl ⟨rfl, ?_⟩) | refine draw_light rfl rfl (op_pick0 rfl ⟨rfl, ?_⟩)
                first | refine draw_light rfl rfl (op_assignB rfl ⟨rfl, ?_⟩) | refine draw_light rfl rfl (op_assign ⟨rfl, ?_⟩)
                refine draw_nil ?_
                refine blk_norm ?_
                refine seq_norm ?_
                refine cw_region ?_
                first | refine ops_on rfl (op_moveI rfl ?_) | refine ops_on rfl (op_move ?_)
                refine ops_on rfl (op_add rfl rfl (by unfold In64; (unfold limit at *; omega)) ?_)
                first | refine ops_on rfl (op_assignI rfl ?_) | refine ops_on rfl (op_assign ?_)
                refine ops_nil ?_
                refine loop_norm ?_
                refine ⟨l.length - (q + 1), by omega, _, q + 1, false, slots ⟨rfl, rfl, rfl, rfl, rfl, rfl, trivial⟩, H.drop0.up (by omega), by omega, rfl, ?_⟩
                rw [any_take_succ (show q < l.length by omega), ← hbb]
                rw [Bool.false_or]
                simp only [brokenB]
                simp_all
              · first | refine draw_light rfl rfl (op_moveB rfl ⟨rfl, ?_⟩) | refine draw_light rfl rfl (op_move ⟨rfl, ?_⟩)
                first | refine draw_light rfl rfl (op_moveS rfl ⟨rfl, ?_⟩) | refine draw_light rfl rfl (op_move ⟨rfl, ?_⟩)
                first | refine draw_light rfl rfl (op_moveI rfl ⟨rfl, ?_⟩) | refine draw_light rfl rfl (op_move ⟨rfl, ?_⟩)
                refine draw_light rfl rfl (op_indexS el25 rfl rfl (by (unfold limit at *; omega)) (by (unfold limit at *; omega)) ⟨rfl, ?_⟩)
                refine draw_light rfl rfl (op_fieldAddr of62_0 rfl ⟨rfl, ?_⟩)
                refine dr_load1 rfl rfl sh23 rfl hgl hbl2 hcl0 ?_
                refine draw_light rfl rfl (op_indexA el30 rfl rfl (by (unfold limit at *; omega)) (by (unfold limit at *; omega)) ⟨rfl, ?_⟩)
                refine dr_load1 rfl rfl sh3 rfl (by first | exact H.own0 | exact H.own1 | exact H.own2 | exact H.own3 | exact H.own4 | exact H.own5 | exact H.ownA | assumption) (by first | exact H.lim0 (by (unfold limit at *; omega)) | exact H.lim1 (by (unfold limit at *; omega)) | exact H.lim2 (by (unfold limit at *; omega)) | exact H.lim3 (by (unfold limit at *; omega)) | exact H.lim4 (by (unfold limit at *; omega)) | exact H.lim5 (by (unfold limit at *; omega)) | (have := H.most; (unfold limit at *; omega))) rfl ?_
                refine draw_whole rfl rfl (op_call rfl fc26 rfl ?_)
                obtain ⟨_, _, hr, rfl, rfl⟩ := has_ok (s := _) (x := (l.getD q default).w) (k := (js.getD i (0, 0)).2) hI
                refine ⟨_, _, hr, ?_⟩
                clear hr
                cases h18 : (decide (0 ≤ (js.getD i (0, 0)).2) && decide ((js.getD i (0, 0)).2 ≤ 15) && bit (l.getD q default).w (js.getD i (0, 0)).2.toNat)
                · first | refine draw_light rfl rfl (op_pick1B rfl rfl ⟨rfl, ?_⟩) | refine draw_light rfl rfl (op_pick1 rfl ⟨rfl, ?_⟩)
                  first | refine draw_light rfl rfl (op_moveB rfl ⟨rfl, ?_⟩) | refine draw_light rfl rfl (op_move ⟨rfl, ?_⟩)
                  refine draw_off rfl rfl ?_
                  refine draw_off rfl rfl ?_
                  refine draw_off rfl rfl ?_
                  refine draw_off rfl rfl ?_
                  refine draw_off rfl rfl ?_
                  refine draw_off rfl rfl ?_
                  refine draw_off rfl rfl ?_
                  refine draw_off rfl rfl ?_
                  refine draw_off rfl rfl ?_
                  refine draw_off rfl rfl ?_
                  refine draw_off rfl rfl ?_
                  refine draw_off rfl rfl ?_
                  refine draw_off rfl rfl ?_
                  refine draw_off rfl rfl ?_
                  refine draw_off rfl rfl ?_
                  refine draw_off rfl rfl ?_
                  refine draw_off rfl rfl ?_
                  refine draw_light rfl rfl (op_pick0C rfl ⟨rfl, ?_⟩)
                  first | refine draw_light rfl rfl (op_pick0B rfl rfl ⟨rfl, ?_⟩) | refine draw_light rfl rfl (op_pick0 rfl ⟨rfl, ?_⟩)
                  first | refine draw_light rfl rfl (op_assignB rfl ⟨rfl, ?_⟩) | refine draw_light rfl rfl (op_assign ⟨rfl, ?_⟩)
                  refine draw_nil ?_
                  refine blk_norm ?_
                  refine seq_norm ?_
                  refine cw_region ?_
                  first | refine ops_on rfl (op_moveI rfl ?_) | refine ops_on rfl (op_move ?_)
                  refine ops_on rfl (op_add rfl rfl (by unfold In64; (unfold limit at *; omega)) ?_)
                  first | refine ops_on rfl (op_assignI rfl ?_) | refine ops_on rfl (op_assign ?_)
                  refine ops_nil ?_
                  refine loop_norm ?_
                  refine ⟨l.length - (q + 1), by omega, _, q + 1, false, slots ⟨rfl, rfl, rfl, rfl, rfl, rfl, trivial⟩, H.drop0.up (by omega), by omega, rfl, ?_⟩
                  rw [any_take_succ (show q < l.length by omega), ← hbb]
                  rw [Bool.false_or]
                  simp only [brokenB]
                  simp_all
                · first | refine draw_light rfl rfl (op_pick1B rfl rfl ⟨rfl, ?_⟩) | refine draw_light rfl rfl (op_pick1 rfl ⟨rfl, ?_⟩)
                  first | refine draw_light rfl rfl (op_moveB rfl ⟨rfl, ?_⟩) | refine draw_light rfl rfl (op_move ⟨rfl, ?_⟩)
                  first | refine draw_light rfl rfl (op_moveS rfl ⟨rfl, ?_⟩) | refine draw_light rfl rfl (op_move ⟨rfl, ?_⟩)
                  first | refine draw_light rfl rfl (op_moveI rfl ⟨rfl, ?_⟩) | refine draw_light rfl rfl (op_move ⟨rfl, ?_⟩)
                  refine draw_light rfl rfl (op_indexS el25 rfl rfl (by (unfold limit at *; omega)) (by (unfold limit at *; omega)) ⟨rfl, ?_⟩)
                  refine draw_light rfl rfl (op_fieldAddr of62_1 rfl ⟨rfl, ?_⟩)
                  refine dr_load1 rfl rfl sh23 rfl hgl hbl2 hcl1 ?_
                  refine draw_light rfl rfl (op_indexA el30 rfl rfl (by (unfold limit at *; omega)) (by (unfold limit at *; omega)) ⟨rfl, ?_⟩)
                  refine dr_load1 rfl rfl sh3 rfl (by first | exact H.own0 | exact H.own1 | exact H.own2 | exact H.own3 | exact H.own4 | exact H.own5 | exact H.ownA | assumption) (by first | exact H.lim0 (by (unfold limit at *; omega)) | exact H.lim1 (by (unfold limit at *; omega)) | exact H.lim2 (by (unfold limit at *; omega)) | exact H.lim3 (by (unfold limit at *; omega)) | exact H.lim4 (by (unfold limit at *; omega)) | exact H.lim5 (by (unfold limit at *; omega)) | (have := H.most; (unfold limit at *; omega))) rfl ?_
                  first | refine draw_light rfl rfl (op_moveS rfl ⟨rfl, ?_⟩) | refine draw_light rfl rfl (op_move ⟨rfl, ?_⟩)
                  first | refine draw_light rfl rfl (op_moveI rfl ⟨rfl, ?_⟩) | refine draw_light rfl rfl (op_move ⟨rfl, ?_⟩)
                  refine draw_light rfl rfl (op_indexS el25 rfl rfl (by (unfold limit at *; omega)) (by (unfold limit at *; omega)) ⟨rfl, ?_⟩)
                  refine draw_light rfl rfl (op_fieldAddr of62_1 rfl ⟨rfl, ?_⟩)
                  refine dr_load1 rfl rfl sh23 rfl hgl hbl2 hcl1 ?_
                  refine draw_light rfl rfl (op_indexA el30 rfl rfl (by (unfold limit at *; omega)) (by (unfold limit at *; omega)) ⟨rfl, ?_⟩)
                  refine dr_load1 rfl rfl sh3 rfl (by first | exact H.own0 | exact H.own1 | exact H.own2 | exact H.own3 | exact H.own4 | exact H.own5 | exact H.ownA | assumption) (by first | exact H.lim0 (by (unfold limit at *; omega)) | exact H.lim1 (by (unfold limit at *; omega)) | exact H.lim2 (by (unfold limit at *; omega)) | exact H.lim3 (by (unfold limit at *; omega)) | exact H.lim4 (by (unfold limit at *; omega)) | exact H.lim5 (by (unfold limit at *; omega)) | (have := H.most; (unfold limit at *; omega))) rfl ?_
                  refine draw_whole rfl rfl (op_call rfl fc26 rfl ?_)
                  obtain ⟨_, _, hr, rfl, rfl⟩ := has_ok (s := _) (x := (l.getD q default).p) (k := (js.getD i (0, 0)).1) hI
                  refine ⟨_, _, hr, ?_⟩
                  clear hr
                  cases h28 : (decide (0 ≤ (js.getD i (0, 0)).1) && decide ((js.getD i (0, 0)).1 ≤ 15) && bit (l.getD q default).p (js.getD i (0, 0)).1.toNat)
                  · refine draw_whole rfl rfl (op_call rfl fc26 rfl ?_)
                    obtain ⟨_, _, hr, rfl, rfl⟩ := has_ok (s := _) (x := (l.getD q default).p) (k := (js.getD i (0, 0)).2) hI
                    refine ⟨_, _, hr, ?_⟩
                    clear hr
                    cases h36 : (decide (0 ≤ (js.getD i (0, 0)).2) && decide ((js.getD i (0, 0)).2 ≤ 15) && bit (l.getD q default).p (js.getD i (0, 0)).2.toNat)
                    · refine draw_light rfl rfl (op_neqb un4 rfl rfl ⟨rfl, ?_⟩)
                      first | refine draw_light rfl rfl (op_pick1B rfl rfl ⟨rfl, ?_⟩) | refine draw_light rfl rfl (op_pick1 rfl ⟨rfl, ?_⟩)
                      first | refine draw_light rfl rfl (op_pick0B rfl rfl ⟨rfl, ?_⟩) | refine draw_light rfl rfl (op_pick0 rfl ⟨rfl, ?_⟩)
                      first | refine draw_light rfl rfl (op_assignB rfl ⟨rfl, ?_⟩) | refine draw_light rfl rfl (op_assign ⟨rfl, ?_⟩)
                      refine draw_nil ?_
                      refine blk_norm ?_
                      refine seq_norm ?_
                      refine cw_region ?_
                      first | refine ops_on rfl (op_moveI rfl ?_) | refine ops_on rfl (op_move ?_)
                      refine ops_on rfl (op_add rfl rfl (by unfold In64; (unfold limit at *; omega)) ?_)
                      first | refine ops_on rfl (op_assignI rfl ?_) | refine ops_on rfl (op_assign ?_)
                      refine ops_nil ?_
                      refine loop_norm ?_
                      refine ⟨l.length - (q + 1), by omega, _, q + 1, false, slots ⟨rfl, rfl, rfl, rfl, rfl, rfl, trivial⟩, H.drop0.up (by omega), by omega, rfl, ?_⟩
                      rw [any_take_succ (show q < l.length by omega), ← hbb]
                      rw [Bool.false_or]
                      simp only [brokenB]
                      simp_all
                    · refine draw_light rfl rfl (op_neqb un4 rfl rfl ⟨rfl, ?_⟩)
                      first | refine draw_light rfl rfl (op_pick1B rfl rfl ⟨rfl, ?_⟩) | refine draw_light rfl rfl (op_pick1 rfl ⟨rfl, ?_⟩)
                      first | refine draw_light rfl rfl (op_pick0B rfl rfl ⟨rfl, ?_⟩) | refine draw_light rfl rfl (op_pick0 rfl ⟨rfl, ?_⟩)
                      first | refine draw_light rfl rfl (op_assignB rfl ⟨rfl, ?_⟩) | refine draw_light rfl rfl (op_assign ⟨rfl, ?_⟩)
                      refine draw_nil ?_
                      refine blk_norm ?_
                      refine seq_norm ?_
                      refine cw_region ?_
                      first | refine ops_on rfl (op_moveI rfl ?_) | refine ops_on rfl (op_move ?_)
                      refine ops_on rfl (op_add rfl rfl (by unfold In64; (unfold limit at *; omega)) ?_)
                      first | refine ops_on rfl (op_assignI rfl ?_) | refine ops_on rfl (op_assign ?_)
                      refine ops_nil ?_
                      refine loop_norm ?_
                      refine ⟨l.length - (q + 1), by omega, _, q + 1, true, slots ⟨rfl, rfl, rfl, rfl, rfl, rfl, trivial⟩, H.drop0.up (by omega), by omega, rfl, ?_⟩
                      rw [any_take_succ (show q < l.length by omega), ← hbb]
                      rw [Bool.false_or]
                      simp only [brokenB]
                      simp_all
                  · refine draw_whole rfl rfl (op_call rfl fc26 rfl ?_)
                    obtain ⟨_, _, hr, rfl, rfl⟩ := has_ok (s := _) (x := (l.getD q default).p) (k := (js.getD i (0, 0)).2) hI
                    refine ⟨_, _, hr, ?_⟩
                    clear hr
                    cases h36 : (decide (0 ≤ (js.getD i (0, 0)).2) && decide ((js.getD i (0, 0)).2 ≤ 15) && bit (l.getD q default).p (js.getD i (0, 0)).2.toNat)
                    · refine draw_light rfl rfl (op_neqb un4 rfl rfl ⟨rfl, ?_⟩)
                      first | refine draw_light rfl rfl (op_pick1B rfl rfl ⟨rfl, ?_⟩) | refine draw_light rfl rfl (op_pick1 rfl ⟨rfl, ?_⟩)
                      first | refine draw_light rfl rfl (op_pick0B rfl rfl ⟨rfl, ?_⟩) | refine draw_light rfl rfl (op_pick0 rfl ⟨rfl, ?_⟩)
                      first | refine draw_light rfl rfl (op_assignB rfl ⟨rfl, ?_⟩) | refine draw_light rfl rfl (op_assign ⟨rfl, ?_⟩)
                      refine draw_nil ?_
                      refine blk_norm ?_
                      refine seq_norm ?_
                      refine cw_region ?_
                      first | refine ops_on rfl (op_moveI rfl ?_) | refine ops_on rfl (op_move ?_)
                      refine ops_on rfl (op_add rfl rfl (by unfold In64; (unfold limit at *; omega)) ?_)
                      first | refine ops_on rfl (op_assignI rfl ?_) | refine ops_on rfl (op_assign ?_)
                      refine ops_nil ?_
                      refine loop_norm ?_
                      refine ⟨l.length - (q + 1), by omega, _, q + 1, true, slots ⟨rfl, rfl, rfl, rfl, rfl, rfl, trivial⟩, H.drop0.up (by omega), by omega, rfl, ?_⟩
                      rw [any_take_succ (show q < l.length by omega), ← hbb]
                      rw [Bool.false_or]
                      simp only [brokenB]
                      simp_all
                    · refine draw_light rfl rfl (op_neqb un4 rfl rfl ⟨rfl, ?_⟩)
                      first | refine draw_light rfl rfl (op_pick1B rfl rfl ⟨rfl, ?_⟩) | refine draw_light rfl rfl (op_pick1 rfl ⟨rfl, ?_⟩)
                      first | refine draw_light rfl rfl (op_pick0B rfl rfl ⟨rfl, ?_⟩) | refine draw_light rfl rfl (op_pick0 rfl ⟨rfl, ?_⟩)
                      first | refine draw_light rfl rfl (op_assignB rfl ⟨rfl, ?_⟩) | refine draw_light rfl rfl (op_assign ⟨rfl, ?_⟩)
                      refine draw_nil ?_
                      refine blk_norm ?_
                      refine seq_norm ?_
                      refine cw_region ?_
                      first | refine ops_on rfl (op_moveI rfl ?_) | refine ops_on rfl (op_move ?_)
                      refine ops_on rfl (op_add rfl rfl (by unfold In64; (unfold limit at *; omega)) ?_)
                      first | refine ops_on rfl (op_assignI rfl ?_) | refine ops_on rfl (op_assign ?_)
                      refine ops_nil ?_
                      refine loop_norm ?_
                      refine ⟨l.length - (q + 1), by omega, _, q + 1, false, slots ⟨rfl, rfl, rfl, rfl, rfl, rfl, trivial⟩, H.drop0.up (by omega), by omega, rfl, ?_⟩
                      rw [any_take_succ (show q < l.length by omega), ← hbb]
                      rw [Bool.false_or]
                      simp only [brokenB]
                      simp_all
            · refine cw_rseq ?_
              obtain ⟨b, off, c, rfl, hg, hb, hc⟩ := (hj.kept H).atJ rfl (show i < js.length by omega)
              obtain ⟨bl, ofl, cl, rfl, hgl0, hbl, hcl⟩ := (hl.kept H).atS rfl (show q < l.length by omega)
              have hbl2 : bl < limit := by have := H.most; unfold limit at *; omega
              first | refine ops_on rfl (op_moveS rfl ?_) | refine ops_on rfl (op_move ?_)
              first | refine ops_on rfl (op_moveI rfl ?_) | refine ops_on rfl (op_move ?_)
              refine ops_on rfl (op_indexS el24 rfl rfl (by (unfold limit at *; omega)) (by (unfold limit at *; omega)) ?_)
              refine ops_on rfl (op_loadN sh30 rfl hg hc ?_)
              refine ops_on rfl (op_alloc H zf30 (by (unfold limit at *; omega)) (fun b9 s3 H => ?_))
              first | refine ops_on rfl (op_store0 (vs := [.int _ _, .int _ _]) H sz30 rfl rfl rfl rfl rfl (by (unfold limit at *; omega)) (fun s4 H => ?_)) | refine ops_on rfl (op_store1 (vs := [.int _ _, .int _ _]) H sz30 rfl rfl rfl rfl rfl (by (unfold limit at *; omega)) (fun s4 H => ?_)) | refine ops_on rfl (op_store2 (vs := [.int _ _, .int _ _]) H sz30 rfl rfl rfl rfl rfl (by (unfold limit at *; omega)) (fun s4 H => ?_)) | refine ops_on rfl (op_store3 (vs := [.int _ _, .int _ _]) H sz30 rfl rfl rfl rfl rfl (by (unfold limit at *; omega)) (fun s4 H => ?_)) | refine ops_on rfl (op_store4 (vs := [.int _ _, .int _ _]) H sz30 rfl rfl rfl rfl rfl (by (unfold limit at *; omega)) (fun s4 H => ?_)) | refine ops_on rfl (op_store0 H sz30 rfl rfl rfl rfl rfl (by (unfold limit at *; omega)) (fun s4 H => ?_)) | refine ops_on rfl (op_store1 H sz30 rfl rfl rfl rfl rfl (by (unfold limit at *; omega)) (fun s4 H => ?_)) | refine ops_on rfl (op_store2 H sz30 rfl rfl rfl rfl rfl (by (unfold limit at *; omega)) (fun s4 H => ?_)) | refine ops_on rfl (op_store3 H sz30 rfl rfl rfl rfl rfl (by (unfold limit at *; omega)) (fun s4 H => ?_)) | refine ops_on rfl (op_store4 H sz30 rfl rfl rfl rfl rfl (by (unfold limit at *; omega)) (fun s4 H => ?_))
              refine ops_nil ?_
              obtain ⟨cl2, hgl, hcl0, hcl1⟩ := (hl.kept H.drop0).gotS (show q < l.length by omega)
              refine cw_draw [⟨0, 0, .light, []⟩, ⟨1, 1, .light, []⟩, ⟨2, 3, .light, [8]⟩, ⟨3, 3, .light, [8]⟩, ⟨4, 15, .light, [8]⟩, ⟨5, 31, .light, [8]⟩, ⟨6, 63, .light, [8]⟩, ⟨7, 3, .light, [6]⟩, ⟨8, 131, .light, [6]⟩, ⟨9, 511, .whole, []⟩, ⟨10, 1023, .light, []⟩, ⟨11, 2047, .light, [17]⟩, ⟨12, 2047, .light, [17]⟩, ⟨13, 8191, .light, [17]⟩, ⟨14, 16383, .light, [17]⟩, ⟨15, 32767, .light, [17]⟩, ⟨16, 2047, .light, [15]⟩, ⟨17, 67583, .light, [15]⟩, ⟨18, 262143, .whole, []⟩, ⟨19, 524287, .light, []⟩, ⟨20, 1048575, .light, []⟩, ⟨21, 2097151, .light, [27, 33, 35]⟩, ⟨22, 2097151, .light, [27, 33, 35]⟩, ⟨23, 8388607, .light, [27, 33, 35]⟩, ⟨24, 16777215, .light, [27, 33, 35]⟩, ⟨25, 33554431, .light, [27, 33, 35]⟩, ⟨26, 2097151, .light, [25, 33, 35]⟩, ⟨27, 69206015, .light, [25, 33, 35]⟩, ⟨29, 2097151, .light, [25, 27, 35]⟩, ⟨30, 2097151, .light, [25, 27, 35]⟩, ⟨31, 1612709887, .light, [25, 27, 35]⟩, ⟨32, 3760193535, .light, [25, 27, 35]⟩, ⟨33, 8055160831, .light, [25, 27, 35]⟩, ⟨34, 2097151, .light, [25, 27, 33]⟩, ⟨35, 17181966335, .light, [25, 27, 33]⟩, ⟨28, 268435455, .whole, [33, 35]⟩, ⟨36, 68719476735, .whole, []⟩, ⟨37, 137438953471, .light, []⟩, ⟨38, 274877906943, .light, []⟩, ⟨39, 549755813887, .light, []⟩, ⟨40, 1099511627775, .light, []⟩] (by kernel_rfl) (by kernel_rfl) ?_
              first | refine draw_light rfl rfl (op_moveB rfl ⟨rfl, ?_⟩) | refine draw_light rfl rfl (op_move ⟨rfl, ?_⟩)
              first | refine draw_light rfl rfl (op_moveB rfl ⟨rfl, ?_⟩) | refine draw_light rfl rfl (op_move ⟨rfl, ?_⟩)
              refine draw_off rfl rfl ?_
              refine draw_off rfl rfl ?_
              refine draw_off rfl rfl ?_
              refine draw_off rfl rfl ?_
              refine draw_off rfl rfl ?_
              refine draw_off rfl rfl ?_
              refine draw_off rfl rfl ?_
              refine draw_off rfl rfl ?_
              refine draw_off rfl rfl ?_
              refine draw_off rfl rfl ?_
              refine draw_off rfl rfl ?_
              refine draw_off rfl rfl ?_
              refine draw_off rfl rfl ?_
              refine draw_off rfl rfl ?_
              refine draw_off rfl rfl ?_
              refine draw_off rfl rfl ?_
              refine draw_off rfl rfl ?_
              refine draw_off rfl rfl ?_
              refine draw_off rfl rfl ?_
              refine draw_off rfl rfl ?_
              refine draw_off rfl rfl ?_
              refine draw_off rfl rfl ?_
              refine draw_off rfl rfl ?_
              refine draw_off rfl rfl ?_
              refine draw_off rfl rfl ?_
              refine draw_off rfl rfl ?_
              refine draw_off rfl rfl ?_
              refine draw_off rfl rfl ?_
              refine draw_off rfl rfl ?_
              refine draw_off rfl rfl ?_
              refine draw_off rfl rfl ?_
              refine draw_off rfl rfl ?_
              refine draw_off rfl rfl ?_
              refine draw_off rfl rfl ?_
              refine draw_off rfl rfl ?_
              refine draw_off rfl rfl ?_
              refine draw_off rfl rfl ?_
              refine draw_light rfl rfl (op_pick1C rfl ⟨rfl, ?_⟩)
              first | refine draw_light rfl rfl (op_assignB rfl ⟨rfl, ?_⟩) | refine draw_light rfl rfl (op_assign ⟨rfl, ?_⟩)
              refine draw_nil ?_
              refine blk_norm ?_
              refine seq_norm ?_
              refine cw_region ?_
              first | refine ops_on rfl (op_moveI rfl ?_) | refine ops_on rfl (op_move ?_)
              refine ops_on rfl (op_add rfl rfl (by unfold In64; (unfold limit at *; omega)) ?_)
              first | refine ops_on rfl (op_assignI rfl ?_) | refine ops_on rfl (op_assign ?_)
              refine ops_nil ?_
              refine loop_norm ?_
              refine ⟨l.length - (q + 1), by omega, _, q + 1, true, slots ⟨rfl, rfl, rfl, rfl, rfl, rfl, trivial⟩, H.drop0.up (by omega), by omega, rfl, ?_⟩
              rw [any_take_succ (show q < l.length by omega), ← hbb]
              rfl
          · refine ops_nil ?_
            refine cw_else rfl ?_
            refine cw_exit ?_
            refine seq_exit ?_
            refine loop_exit ?_
            refine blk_here ?_
            refine seq_norm ?_
            cases bb
            · refine cw_rseq ?_
              first | refine ops_on rfl (op_moveB rfl ?_) | refine ops_on rfl (op_move ?_)
              refine ops_nil ?_
              refine cw_else rfl ?_
              refine cw_skip ?_
              refine blk_norm ?_
              refine seq_norm ?_
              refine cw_region ?_
              first | refine ops_on rfl (op_moveI rfl ?_) | refine ops_on rfl (op_move ?_)
              refine ops_on rfl (op_add rfl rfl (by unfold In64; (unfold limit at *; omega)) ?_)
              first | refine ops_on rfl (op_assignI rfl ?_) | refine ops_on rfl (op_assign ?_)
              refine ops_nil ?_
              refine loop_norm ?_
              have hpw : (2 : Int) ^ (i + 1) = 2 * 2 ^ i := by rw [Int.pow_succ]; omega
              have hpos : (0 : Int) < 2 ^ i := Int.pow_pos (by decide)
              have hq2 : q = l.length := by omega
              rw [hq2, List.take_length] at hbb
              refine ⟨js.length - (i + 1), by omega, _, i + 1, _, slots ⟨rfl, rfl, rfl, rfl, trivial⟩, H.up (by omega), by omega, by omega, rfl, ?_⟩
              rw [hb0, drop_getD (0, 0) (show i < js.length by omega), brkZ]
              rw [if_neg (fun h => by rw [← hbb] at h; cases h.2), hpw]
              omega
            · refine cw_rseq ?_
              first | refine ops_on rfl (op_moveB rfl ?_) | refine ops_on rfl (op_move ?_)
              refine ops_nil ?_
              refine cw_then rfl ?_
              refine cw_region ?_
              first | refine ops_on rfl (op_moveI rfl ?_) | refine ops_on rfl (op_move ?_)
              first | refine ops_on rfl (op_moveI rfl ?_) | refine ops_on rfl (op_move ?_)
              refine ops_on rfl (op_shl rfl rfl (by omega) (by omega) (by have := two_pow_le (n := i) (by omega); unfold In64; simp only [Int.toNat_natCast]; omega) ?_)
              refine ops_on rfl (op_add rfl rfl (by have := two_pow_le (n := i) (by omega); unfold In64; simp only [Int.toNat_natCast]; omega) ?_)
              first | refine ops_on rfl (op_assignI rfl ?_) | refine ops_on rfl (op_assign ?_)
              refine ops_nil ?_
              refine blk_norm ?_
              refine seq_norm ?_
              refine cw_region ?_
              first | refine ops_on rfl (op_moveI rfl ?_) | refine ops_on rfl (op_move ?_)
              refine ops_on rfl (op_add rfl rfl (by unfold In64; (unfold limit at *; omega)) ?_)
              first | refine ops_on rfl (op_assignI rfl ?_) | refine ops_on rfl (op_assign ?_)
              refine ops_nil ?_
              refine loop_norm ?_
              have hpw : (2 : Int) ^ (i + 1) = 2 * 2 ^ i := by rw [Int.pow_succ]; omega
              have hpos : (0 : Int) < 2 ^ i := Int.pow_pos (by decide)
              have hq2 : q = l.length := by omega
              rw [hq2, List.take_length] at hbb
              refine ⟨js.length - (i + 1), by omega, _, i + 1, _, slots ⟨rfl, rfl, rfl, rfl, trivial⟩, H.up (by omega), by omega, by omega, rfl, ?_⟩
              rw [hb0, drop_getD (0, 0) (show i < js.length by omega), brkZ]
              rw [if_pos ⟨by omega, hbb.symm⟩, hpw]
              simp only [Int.toNat_natCast, Int.one_mul]
              omega
        · exact ⟨_, 0, false, slots ⟨rfl, rfl, rfl, rfl, rfl, rfl, trivial⟩, H.up (by omega), by omega, by omega, by simp⟩
      · first | refine ops_on rfl (op_pick1B rfl rfl ?_) | refine ops_on rfl (op_pick1 rfl ?_)
        refine ops_nil ?_
        refine cw_else rfl ?_
        refine cw_exit ?_
        refine seq_exit ?_
        refine loop_exit ?_
        refine blk_here ?_
        refine seq_norm ?_
        refine cw_rseq ?_
        first | refine ops_on rfl (op_moveI rfl ?_) | refine ops_on rfl (op_move ?_)
        first | refine ops_on rfl (op_assignI rfl ?_) | refine ops_on rfl (op_assign ?_)
        refine ops_nil ?_
        refine cw_ret ?_
        refine ret_end ?_
        refine end_t ?_
        refine ⟨congrArg (Value.int .i64) ?_, H.up (by omega)⟩
        have hz : brkZ l i (js.drop i) = 0 := by
          by_cases h1 : i < js.length
          · exact brkZ_high _ _ _ (by omega)
          · rw [List.drop_eq_nil_of_le (by omega)]; rfl
        show o = _
        omega
    · first | refine ops_on rfl (op_moveB rfl ?_) | refine ops_on rfl (op_move ?_)
      refine ops_off rfl ?_
      refine ops_off rfl ?_
      refine ops_on rfl (op_pick0C rfl ?_)
      refine ops_nil ?_
      refine cw_else rfl ?_
      refine cw_exit ?_
      refine seq_exit ?_
      refine loop_exit ?_
      refine blk_here ?_
      refine seq_norm ?_
      refine cw_rseq ?_
      first | refine ops_on rfl (op_moveI rfl ?_) | refine ops_on rfl (op_move ?_)
      first | refine ops_on rfl (op_assignI rfl ?_) | refine ops_on rfl (op_assign ?_)
      refine ops_nil ?_
      refine cw_ret ?_
      refine ret_end ?_
      refine end_t ?_
      refine ⟨congrArg (Value.int .i64) ?_, H.up (by omega)⟩
      have hz : brkZ l i (js.drop i) = 0 := by
        by_cases h1 : i < js.length
        · exact brkZ_high _ _ _ (by omega)
        · rw [List.drop_eq_nil_of_le (by omega)]; rfl
      show o = _
      omega
  · exact ⟨_, 0, 0, slots ⟨rfl, rfl, rfl, rfl, trivial⟩, H.up (by omega), by omega, by omega, by omega, by simp, by omega, by decide⟩

end Go.Proofs.YtdejleegamcioaaGreat
