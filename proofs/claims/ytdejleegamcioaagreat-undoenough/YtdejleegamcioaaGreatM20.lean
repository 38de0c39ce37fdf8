/- The reference's cases: what they are made of. -/
/- Cells of lists of splits: reading and writing one. -/
import Derived.Test.YtdejleegamcioaaGreatM19
namespace Go.Proofs.YtdejleegamcioaaGreat
open Go Go.M

theorem bf27 : buildF Tryz.prog 27 = some ([.int .i64 0, .slice none 0 0, .int .i64 0, .slice none 0 0], [(0, 1), (1, 1), (2, 1), (3, 1)]) := by kernel_rfl
theorem bf30 : buildF Tryz.prog 30 = some ([.int .i64 0, .int .i64 0], [(0, 1), (1, 1)]) := by kernel_rfl
theorem bf62 : buildF Tryz.prog 62 = some ([.int .i64 0, .int .i64 0, .bool false, .slice none 0 0, .bool false, .slice none 0 0, .bool false, .slice none 0 0, .bool false, .slice none 0 0], [(0, 1), (1, 1), (2, 8)]) := by kernel_rfl
theorem el31 : elemF Tryz.prog 31 = some (true, 0, 1) := by kernel_rfl
theorem fb9 : funcB Tryz.f9 (Tryz.f9.body.getD .skip) 1 = true := by kernel_rfl
theorem fc30 : funcF Tryz.prog 30 = true := by kernel_rfl
theorem fc38 : funcF Tryz.prog 38 = true := by kernel_rfl
theorem fc39 : funcF Tryz.prog 39 = true := by kernel_rfl
theorem of27_0 : offF Tryz.prog 27 0 = some 0 := by kernel_rfl
theorem of27_1 : offF Tryz.prog 27 1 = some 1 := by kernel_rfl
theorem of27_2 : offF Tryz.prog 27 2 = some 2 := by kernel_rfl
theorem of27_3 : offF Tryz.prog 27 3 = some 3 := by kernel_rfl
theorem sh24 : shapeOf Tryz.prog 24 = some (none) := by kernel_rfl
theorem sh25 : shapeOf Tryz.prog 25 = some (none) := by kernel_rfl
theorem sh27 : shapeOf Tryz.prog 27 = some (some 4) := by kernel_rfl
theorem sl25 : sliceF Tryz.prog 25 = some (62, 10, 144, [.int .i64 0, .int .i64 0, .bool false, .slice none 0 0, .bool false, .slice none 0 0, .bool false, .slice none 0 0, .bool false, .slice none 0 0]) := by kernel_rfl
theorem sl31 : sliceF Tryz.prog 31 = some (23, 1, 8, [.int .i64 0]) := by kernel_rfl
theorem sz23 : sizeF Tryz.prog 23 = some 1 := by kernel_rfl
theorem sz24 : sizeF Tryz.prog 24 = some 1 := by kernel_rfl
theorem sz25 : sizeF Tryz.prog 25 = some 1 := by kernel_rfl
theorem sz27 : sizeF Tryz.prog 27 = some 4 := by kernel_rfl
theorem un31 : Tryz.prog.underlying 31 = some (.slice 23) := by kernel_rfl
theorem zf27 : zeroF Tryz.prog 27 = some [.int .i64 0, .slice none 0 0, .int .i64 0, .slice none 0 0] := by kernel_rfl

set_option maxHeartbeats 4000000 in
set_option maxRecDepth 10000 in
theorem made_ok {I : Table} (hI : Plain I) {s : St} (hf : Fine s) {v : Value} {l : List Int} (hl : SlI s v l) (hin : ∀ x ∈ l, In64 x) (hroom : s.next + 30000000000000 ≤ limit) :
    ∃ v' s', Rets Tryz.prog I 9 #[v] s v' s' ∧ (∃ (D DD : Hp') (sj sm : Slc) (js : List (Int × Int)) (may : List Sp) (n : Nat) (w bad : Int), v' = .agg ⟨[.int .i64 w, Slc.v sj, .int .i64 bad, Slc.v sm]⟩ ∧ HL [] s s' (D ++ DD) 30000000000000 ∧ SlG D 30 2 sj.v (js.map jc) ∧ SlG D 62 10 sm.v (may.map Sp.cells) ∧ (2 ≤ n ∧ n ≤ 6 ∧ w = 2 ^ n - 1) ∧ (1 ≤ js.length ∧ js.length ≤ 8) ∧ (∀ j ∈ js, (0 ≤ j.1 ∧ j.1 < (n : Nat)) ∧ (0 ≤ j.2 ∧ j.2 < (n : Nat)) ∧ j.1 ≠ j.2) ∧ (0 ≤ bad ∧ bad < 2 ^ js.length) ∧ may.length ≤ 14 ∧ (∀ x ∈ may, validB x.w x.p = true ∧ DirIn DD x)) := by
  have H := hf.hl
  obtain ⟨a, len, cap, rfl, hn⟩ := hl.isSlice
  subst hn
  have hN := atZ_range (l := l) (i := 0) (n := 5) (by decide)
  have hM := atZ_range (l := l) (i := 1) (n := 8) (by decide)
  have hNp := two_pow8 (n := (2 + atZ l 0 5).toNat) (by omega)
  have hMp := two_pow8 (n := (1 + atZ l 1 8).toNat) (by omega)
  refine call_of 1 (hI 9 (by decide) (by decide)) Tryz.func9 rfl fb9 rfl ?_
  refine cw_rseq ?_
  refine ops_on rfl (op_alloc H zf27 (by omega) (fun b2 s1 H => ?_))
  refine ops_nil ?_
  refine cw_rseq ?_
  first | refine ops_on rfl (op_moveS rfl ?_) | refine ops_on rfl (op_move ?_)
  refine ops_on rfl (op_call rfl fc30 rfl ?_)
  obtain ⟨_, _, hr, rfl, rfl⟩ := at_ok (i := 0) (n := 5) hI (hl.kept H) hin (by decide)
  refine ⟨_, _, hr, ?_⟩
  clear hr
  refine ops_on rfl (op_add rfl rfl (by unfold In64; omega) ?_)
  first | refine ops_on rfl (op_assignI rfl ?_) | refine ops_on rfl (op_assign ?_)
  refine ops_nil ?_
  refine cw_rseq ?_
  first | refine ops_on rfl (op_moveI rfl ?_) | refine ops_on rfl (op_move ?_)
  refine ops_on rfl (op_shl rfl rfl (by omega) (by omega) (by unfold In64; omega) ?_)
  refine ops_on rfl (op_sub rfl rfl (by show In64 (1 * 2 ^ (2 + atZ l 0 5).toNat - 1); unfold In64; omega) ?_)
  first | refine ops_on rfl (op_build (c := [.int _ _, .slice _ _ _, .int _ _, .slice _ _ _]) bf27 rfl ?_) | refine ops_on rfl (op_build bf27 rfl ?_)
  refine ops_on rfl (op_alloc H zf27 (by omega) (fun b4 s2 H => ?_))
  first | refine ops_on rfl (op_store0 (vs := [.int _ _, .slice _ _ _, .int _ _, .slice _ _ _]) H sz27 rfl rfl rfl rfl rfl (by omega) (fun s3 H => ?_)) | refine ops_on rfl (op_store1 (vs := [.int _ _, .slice _ _ _, .int _ _, .slice _ _ _]) H sz27 rfl rfl rfl rfl rfl (by omega) (fun s3 H => ?_)) | refine ops_on rfl (op_store2 (vs := [.int _ _, .slice _ _ _, .int _ _, .slice _ _ _]) H sz27 rfl rfl rfl rfl rfl (by omega) (fun s3 H => ?_)) | refine ops_on rfl (op_store3 (vs := [.int _ _, .slice _ _ _, .int _ _, .slice _ _ _]) H sz27 rfl rfl rfl rfl rfl (by omega) (fun s3 H => ?_)) | refine ops_on rfl (op_store4 (vs := [.int _ _, .slice _ _ _, .int _ _, .slice _ _ _]) H sz27 rfl rfl rfl rfl rfl (by omega) (fun s3 H => ?_)) | refine ops_on rfl (op_store0 H sz27 rfl rfl rfl rfl rfl (by omega) (fun s3 H => ?_)) | refine ops_on rfl (op_store1 H sz27 rfl rfl rfl rfl rfl (by omega) (fun s3 H => ?_)) | refine ops_on rfl (op_store2 H sz27 rfl rfl rfl rfl rfl (by omega) (fun s3 H => ?_)) | refine ops_on rfl (op_store3 H sz27 rfl rfl rfl rfl rfl (by omega) (fun s3 H => ?_)) | refine ops_on rfl (op_store4 H sz27 rfl rfl rfl rfl rfl (by omega) (fun s3 H => ?_))
  refine ops_nil ?_
  refine cw_rseq ?_
  first | refine ops_on rfl (op_moveS rfl ?_) | refine ops_on rfl (op_move ?_)
  refine ops_on rfl (op_call rfl fc30 rfl ?_)
  obtain ⟨_, _, hr, rfl, rfl⟩ := at_ok (i := 1) (n := 8) hI (hl.kept H) hin (by decide)
  refine ⟨_, _, hr, ?_⟩
  clear hr
  refine ops_on rfl (op_add rfl rfl (by unfold In64; omega) ?_)
  first | refine ops_on rfl (op_assignI rfl ?_) | refine ops_on rfl (op_assign ?_)
  refine ops_nil ?_
  refine cw_seq ?_
  refine cw_rseq ?_
  refine ops_on rfl (op_assignC ?_)
  refine ops_nil ?_
  refine cw_block ?_
  refine cw_loop (fun k F s1 => ∃ (G : FF) (i : Nat) (D1 : Hp') (sj : Slc) (js : List (Int × Int)), F = lay G [(0, .slice a l.length cap), (2, .pointer (some ⟨b2, 0, none⟩)), (3, .int .i64 (2 + atZ l 0 5)), (4, .pointer (some ⟨b4, 0, none⟩)), (5, .int .i64 (1 + atZ l 1 8)), (6, .int .i64 (i : Int))] ∧ HL [] s s1 ([(b4, .cells [.int .i64 (1 * 2 ^ (2 + atZ l 0 5).toNat - 1), sj.v, .int .i64 0, .slice none 0 0] 27), (b2, .cells [.int .i64 0, .slice none 0 0, .int .i64 0, .slice none 0 0] 27)] ++ D1) (2 + 2 * i) ∧ Own 30 2 D1 sj.v (js.map jc).flatten js.length ∧ js.length = i ∧ (i : Int) ≤ (1 + atZ l 1 8) ∧ (∀ j ∈ js, (0 ≤ j.1 ∧ j.1 < (2 + atZ l 0 5)) ∧ (0 ≤ j.2 ∧ j.2 < (2 + atZ l 0 5)) ∧ j.1 ≠ j.2) ∧ k = ((1 + atZ l 1 8) - i).toNat) ?_ (1 + atZ l 1 8).toNat _ _ ?_
  · rintro k F s1 ⟨G, i, D1, sj, js, rfl, H, ho, hji, him, hjr, rfl⟩
    refine cw_seq ?_
    refine cw_rseq ?_
    first | refine ops_on rfl (op_moveI rfl ?_) | refine ops_on rfl (op_move ?_)
    first | refine ops_on rfl (op_moveI rfl ?_) | refine ops_on rfl (op_move ?_)
    refine ops_on rfl (op_lss rfl rfl (fun h => ?_) (fun h => ?_))
    · refine ops_nil ?_
      refine cw_then rfl ?_
      refine cw_skip ?_
      refine seq_norm ?_
      refine cw_seq ?_
      refine cw_block ?_
      refine cw_rseq ?_
      first | refine ops_on rfl (op_moveS rfl ?_) | refine ops_on rfl (op_move ?_)
      first | refine ops_on rfl (op_moveI rfl ?_) | refine ops_on rfl (op_move ?_)
      refine ops_on rfl (op_mul rfl rfl (by unfold In64; omega) ?_)
      refine ops_on rfl (op_add rfl rfl (by unfold In64; omega) ?_)
      first | refine ops_on rfl (op_moveI rfl ?_) | refine ops_on rfl (op_move ?_)
      refine ops_on rfl (op_call rfl fc30 rfl ?_)
      obtain ⟨_, _, hr, rfl, rfl⟩ := at_ok (i := 2 + 2 * (i : Int)) (n := (2 + atZ l 0 5)) hI (hl.kept H) hin (by omega)
      refine ⟨_, _, hr, ?_⟩
      clear hr
      have hA := atZ_range (l := l) (i := 2 + 2 * (i : Int)) (n := (2 + atZ l 0 5)) (by omega)
      first | refine ops_on rfl (op_assignI rfl ?_) | refine ops_on rfl (op_assign ?_)
      refine ops_nil ?_
      refine cw_rseq ?_
      first | refine ops_on rfl (op_moveS rfl ?_) | refine ops_on rfl (op_move ?_)
      first | refine ops_on rfl (op_moveI rfl ?_) | refine ops_on rfl (op_move ?_)
      refine ops_on rfl (op_mul rfl rfl (by unfold In64; omega) ?_)
      refine ops_on rfl (op_add rfl rfl (by unfold In64; omega) ?_)
      first | refine ops_on rfl (op_moveI rfl ?_) | refine ops_on rfl (op_move ?_)
      refine ops_on rfl (op_sub rfl rfl (by unfold In64; omega) ?_)
      refine ops_on rfl (op_call rfl fc30 rfl ?_)
      obtain ⟨_, _, hr, rfl, rfl⟩ := at_ok (i := 3 + 2 * (i : Int)) (n := (2 + atZ l 0 5) - 1) hI (hl.kept H) hin (by omega)
      refine ⟨_, _, hr, ?_⟩
      clear hr
      have hB := atZ_range (l := l) (i := 3 + 2 * (i : Int)) (n := (2 + atZ l 0 5) - 1) (by omega)
      first | refine ops_on rfl (op_assignI rfl ?_) | refine ops_on rfl (op_assign ?_)
      refine ops_nil ?_
      refine cw_seq ?_
      refine cw_rseq ?_
      first | refine ops_on rfl (op_moveI rfl ?_) | refine ops_on rfl (op_move ?_)
      first | refine ops_on rfl (op_moveI rfl ?_) | refine ops_on rfl (op_move ?_)
      refine ops_on rfl (op_geq rfl rfl (fun h => ?_) (fun h => ?_))
      · refine ops_nil ?_
        refine cw_then rfl ?_
        refine cw_region ?_
        first | refine ops_on rfl (op_moveI rfl ?_) | refine ops_on rfl (op_move ?_)
        refine ops_on rfl (op_add rfl rfl (by unfold In64; omega) ?_)
        first | refine ops_on rfl (op_assignI rfl ?_) | refine ops_on rfl (op_assign ?_)
        refine ops_nil ?_
        refine seq_norm ?_
        refine cw_region ?_
        refine ops_on rfl (op_fieldAddr of27_1 rfl ?_)
        refine ops_on rfl (op_load1 sh24 rfl (by first | exact H.own0 | exact H.own1 | exact H.own2 | exact H.own3 | exact H.own4 | exact H.own5 | exact H.ownA | assumption) rfl ?_)
        first | refine ops_on rfl (op_moveI rfl ?_) | refine ops_on rfl (op_move ?_)
        first | refine ops_on rfl (op_moveI rfl ?_) | refine ops_on rfl (op_move ?_)
        first | refine ops_on rfl (op_build (c := [.int _ _, .int _ _]) bf30 rfl ?_) | refine ops_on rfl (op_build bf30 rfl ?_)
        first | refine ops_on rfl (op_buildSlice (c := [.int _ _, .int _ _]) H sl24 rfl rfl (by omega) (fun b52 s4 H => ?_)) | refine ops_on rfl (op_buildSlice H sl24 rfl rfl (by omega) (fun b52 s4 H => ?_))
        have hgt := H.own0
        have H := HL.swap (A := [_, _]) (B := D1) H.drop0
        refine ops_on rfl (op_appendOwn H ho sl24 un24 rfl rfl rfl (elems_all hgt rfl) (by decide) rfl rfl (by omega) (by omega) (fun b53 s53 H ho => ?_))
        refine ops_on rfl (op_fieldAddr of27_1 rfl ?_)
        first | refine ops_on rfl (op_store0 (vs := [.slice _ _ _]) H sz24 rfl rfl rfl rfl rfl (by omega) (fun s5 H => ?_)) | refine ops_on rfl (op_store1 (vs := [.slice _ _ _]) H sz24 rfl rfl rfl rfl rfl (by omega) (fun s5 H => ?_)) | refine ops_on rfl (op_store2 (vs := [.slice _ _ _]) H sz24 rfl rfl rfl rfl rfl (by omega) (fun s5 H => ?_)) | refine ops_on rfl (op_store3 (vs := [.slice _ _ _]) H sz24 rfl rfl rfl rfl rfl (by omega) (fun s5 H => ?_)) | refine ops_on rfl (op_store4 (vs := [.slice _ _ _]) H sz24 rfl rfl rfl rfl rfl (by omega) (fun s5 H => ?_)) | refine ops_on rfl (op_store0 H sz24 rfl rfl rfl rfl rfl (by omega) (fun s5 H => ?_)) | refine ops_on rfl (op_store1 H sz24 rfl rfl rfl rfl rfl (by omega) (fun s5 H => ?_)) | refine ops_on rfl (op_store2 H sz24 rfl rfl rfl rfl rfl (by omega) (fun s5 H => ?_)) | refine ops_on rfl (op_store3 H sz24 rfl rfl rfl rfl rfl (by omega) (fun s5 H => ?_)) | refine ops_on rfl (op_store4 H sz24 rfl rfl rfl rfl rfl (by omega) (fun s5 H => ?_))
        refine ops_nil ?_
        refine blk_norm ?_
        refine seq_norm ?_
        refine cw_region ?_
        first | refine ops_on rfl (op_moveI rfl ?_) | refine ops_on rfl (op_move ?_)
        refine ops_on rfl (op_add rfl rfl (by unfold In64; omega) ?_)
        first | refine ops_on rfl (op_assignI rfl ?_) | refine ops_on rfl (op_assign ?_)
        refine ops_nil ?_
        refine loop_norm ?_
        refine ⟨((1 + atZ l 1 8) - (i + 1 : Nat)).toNat, by omega, _, i + 1, [(b53, .cells ((js.map jc).flatten ++ jc ((atZ l (2 + 2 * (i : Int)) (2 + atZ l 0 5)), ((atZ l (3 + 2 * (i : Int)) ((2 + atZ l 0 5) - 1)) + 1))) 30)], ⟨some ⟨b53, 0, none⟩, js.length + 1, 2 * (js.length + 1) + 1⟩, js ++ [((atZ l (2 + 2 * (i : Int)) (2 + atZ l 0 5)), ((atZ l (3 + 2 * (i : Int)) ((2 + atZ l 0 5) - 1)) + 1))], slots ⟨rfl, rfl, rfl, rfl, rfl, rfl, trivial⟩, ?_, ?_, by simp; omega, by omega, ?_, rfl⟩
        · refine HL.up (n := 2 + 2 * i + 1 + 1) ?_ (by omega)
          exact HL.swap (A := [_]) (B := [_, _]) H
        · rw [flat_snoc, List.length_append]
          exact ho
        · intro j hj
          rcases List.mem_append.mp hj with hj | hj
          · exact hjr j hj
          · rw [List.mem_singleton] at hj
            subst hj
            exact ⟨⟨hA.1, hA.2⟩, ⟨by omega, by omega⟩, by omega⟩
      · refine ops_nil ?_
        refine cw_else rfl ?_
        refine cw_skip ?_
        refine seq_norm ?_
        refine cw_region ?_
        refine ops_on rfl (op_fieldAddr of27_1 rfl ?_)
        refine ops_on rfl (op_load1 sh24 rfl (by first | exact H.own0 | exact H.own1 | exact H.own2 | exact H.own3 | exact H.own4 | exact H.own5 | exact H.ownA | assumption) rfl ?_)
        first | refine ops_on rfl (op_moveI rfl ?_) | refine ops_on rfl (op_move ?_)
        first | refine ops_on rfl (op_moveI rfl ?_) | refine ops_on rfl (op_move ?_)
        first | refine ops_on rfl (op_build (c := [.int _ _, .int _ _]) bf30 rfl ?_) | refine ops_on rfl (op_build bf30 rfl ?_)
        first | refine ops_on rfl (op_buildSlice (c := [.int _ _, .int _ _]) H sl24 rfl rfl (by omega) (fun b52 s6 H => ?_)) | refine ops_on rfl (op_buildSlice H sl24 rfl rfl (by omega) (fun b52 s6 H => ?_))
        have hgt := H.own0
        have H := HL.swap (A := [_, _]) (B := D1) H.drop0
        refine ops_on rfl (op_appendOwn H ho sl24 un24 rfl rfl rfl (elems_all hgt rfl) (by decide) rfl rfl (by omega) (by omega) (fun b53 s53 H ho => ?_))
        refine ops_on rfl (op_fieldAddr of27_1 rfl ?_)
        first | refine ops_on rfl (op_store0 (vs := [.slice _ _ _]) H sz24 rfl rfl rfl rfl rfl (by omega) (fun s7 H => ?_)) | refine ops_on rfl (op_store1 (vs := [.slice _ _ _]) H sz24 rfl rfl rfl rfl rfl (by omega) (fun s7 H => ?_)) | refine ops_on rfl (op_store2 (vs := [.slice _ _ _]) H sz24 rfl rfl rfl rfl rfl (by omega) (fun s7 H => ?_)) | refine ops_on rfl (op_store3 (vs := [.slice _ _ _]) H sz24 rfl rfl rfl rfl rfl (by omega) (fun s7 H => ?_)) | refine ops_on rfl (op_store4 (vs := [.slice _ _ _]) H sz24 rfl rfl rfl rfl rfl (by omega) (fun s7 H => ?_)) | refine ops_on rfl (op_store0 H sz24 rfl rfl rfl rfl rfl (by omega) (fun s7 H => ?_)) | refine ops_on rfl (op_store1 H sz24 rfl rfl rfl rfl rfl (by omega) (fun s7 H => ?_)) | refine ops_on rfl (op_store2 H sz24 rfl rfl rfl rfl rfl (by omega) (fun s7 H => ?_)) | refine ops_on rfl (op_store3 H sz24 rfl rfl rfl rfl rfl (by omega) (fun s7 H => ?_)) | refine ops_on rfl (op_store4 H sz24 rfl rfl rfl rfl rfl (by omega) (fun s7 H => ?_))
        refine ops_nil ?_
        refine blk_norm ?_
        refine seq_norm ?_
        refine cw_region ?_
        first | refine ops_on rfl (op_moveI rfl ?_) | refine ops_on rfl (op_move ?_)
        refine ops_on rfl (op_add rfl rfl (by unfold In64; omega) ?_)
        first | refine ops_on rfl (op_assignI rfl ?_) | refine ops_on rfl (op_assign ?_)
        refine ops_nil ?_
        refine loop_norm ?_
        refine ⟨((1 + atZ l 1 8) - (i + 1 : Nat)).toNat, by omega, _, i + 1, [(b53, .cells ((js.map jc).flatten ++ jc ((atZ l (2 + 2 * (i : Int)) (2 + atZ l 0 5)), (atZ l (3 + 2 * (i : Int)) ((2 + atZ l 0 5) - 1)))) 30)], ⟨some ⟨b53, 0, none⟩, js.length + 1, 2 * (js.length + 1) + 1⟩, js ++ [((atZ l (2 + 2 * (i : Int)) (2 + atZ l 0 5)), (atZ l (3 + 2 * (i : Int)) ((2 + atZ l 0 5) - 1)))], slots ⟨rfl, rfl, rfl, rfl, rfl, rfl, trivial⟩, ?_, ?_, by simp; omega, by omega, ?_, rfl⟩
        · refine HL.up (n := 2 + 2 * i + 1 + 1) ?_ (by omega)
          exact HL.swap (A := [_]) (B := [_, _]) H
        · rw [flat_snoc, List.length_append]
          exact ho
        · intro j hj
          rcases List.mem_append.mp hj with hj | hj
          · exact hjr j hj
          · rw [List.mem_singleton] at hj
            subst hj
            exact ⟨⟨hA.1, hA.2⟩, ⟨by omega, by omega⟩, by omega⟩
    · refine ops_nil ?_
      refine cw_else rfl ?_
      refine cw_exit ?_
      refine seq_exit ?_
      refine loop_exit ?_
      refine blk_here ?_
      refine seq_norm ?_
      refine cw_rseq ?_
      first | refine ops_on rfl (op_moveS rfl ?_) | refine ops_on rfl (op_move ?_)
      first | refine ops_on rfl (op_moveI rfl ?_) | refine ops_on rfl (op_move ?_)
      refine ops_on rfl (op_shl rfl rfl (by omega) (by omega) (by unfold In64; omega) ?_)
      refine ops_on rfl (op_call rfl fc30 rfl ?_)
      obtain ⟨_, _, hr, rfl, rfl⟩ := at_ok (i := 18) (n := 1 * 2 ^ (1 + atZ l 1 8).toNat) hI (hl.kept H) hin (by omega)
      refine ⟨_, _, hr, ?_⟩
      clear hr
      refine ops_on rfl (op_fieldAddr of27_2 rfl ?_)
      first | refine ops_on rfl (op_store0 (vs := [.int _ _]) H sz23 rfl rfl rfl rfl rfl (by omega) (fun s8 H => ?_)) | refine ops_on rfl (op_store1 (vs := [.int _ _]) H sz23 rfl rfl rfl rfl rfl (by omega) (fun s8 H => ?_)) | refine ops_on rfl (op_store2 (vs := [.int _ _]) H sz23 rfl rfl rfl rfl rfl (by omega) (fun s8 H => ?_)) | refine ops_on rfl (op_store3 (vs := [.int _ _]) H sz23 rfl rfl rfl rfl rfl (by omega) (fun s8 H => ?_)) | refine ops_on rfl (op_store4 (vs := [.int _ _]) H sz23 rfl rfl rfl rfl rfl (by omega) (fun s8 H => ?_)) | refine ops_on rfl (op_store0 H sz23 rfl rfl rfl rfl rfl (by omega) (fun s8 H => ?_)) | refine ops_on rfl (op_store1 H sz23 rfl rfl rfl rfl rfl (by omega) (fun s8 H => ?_)) | refine ops_on rfl (op_store2 H sz23 rfl rfl rfl rfl rfl (by omega) (fun s8 H => ?_)) | refine ops_on rfl (op_store3 H sz23 rfl rfl rfl rfl rfl (by omega) (fun s8 H => ?_)) | refine ops_on rfl (op_store4 H sz23 rfl rfl rfl rfl rfl (by omega) (fun s8 H => ?_))
      refine ops_nil ?_
      refine cw_rseq ?_
      refine ops_on rfl (op_fieldAddr of27_0 rfl ?_)
      refine ops_on rfl (op_load1 sh23 rfl (by first | exact H.own0 | exact H.own1 | exact H.own2 | exact H.own3 | exact H.own4 | exact H.own5 | exact H.ownA | assumption) rfl ?_)
      first | refine ops_on rfl (op_buildSlice (c := [.int _ _]) H sl31 rfl rfl (by omega) (fun b62 s9 H => ?_)) | refine ops_on rfl (op_buildSlice H sl31 rfl rfl (by omega) (fun b62 s9 H => ?_))
      first | refine ops_on rfl (op_assignS rfl ?_) | refine ops_on rfl (op_assign ?_)
      refine ops_nil ?_
      refine cw_seq ?_
      refine cw_rseq ?_
      refine ops_on rfl (op_assignC ?_)
      refine ops_nil ?_
      refine cw_block ?_
      refine cw_loop (fun k F s1 => ∃ (G : FF) (q : Nat) (D2 D3 DD : Hp') (sm : Slc) (sa : Option Addr) (sc : Nat) (ss : List Int) (may : List Sp), F = lay G [(0, .slice a l.length cap), (2, .pointer (some ⟨b2, 0, none⟩)), (3, .int .i64 (2 + atZ l 0 5)), (4, .pointer (some ⟨b4, 0, none⟩)), (9, .slice sa ss.length sc), (10, .int .i64 (q : Int))] ∧ HL [] s s1 ([(b4, .cells [.int .i64 (1 * 2 ^ (2 + atZ l 0 5).toNat - 1), sj.v, .int .i64 (atZ l 18 (1 * 2 ^ (1 + atZ l 1 8).toNat)), sm.v] 27), (b2, .cells [.int .i64 0, .slice none 0 0, .int .i64 0, .slice none 0 0] 27)] ++ (D3 ++ (D2 ++ (D1 ++ DD)))) (30 + 2000000000100 * q) ∧ Own 23 1 D3 (.slice sa ss.length sc) (ints ss) ss.length ∧ Own 62 10 D2 sm.v (may.map Sp.cells).flatten may.length ∧ 1 ≤ ss.length ∧ ss.length ≤ 1 + 2 * q ∧ may.length ≤ q ∧ q ≤ 14 ∧ (∀ x ∈ may, validB x.w x.p = true ∧ DirIn DD x) ∧ k = 14 - q) ?_ 14 _ _ ?_
      · rintro k F s1 ⟨G, q, D2, D3, DD, sm, sa, sc, ss, may, rfl, H, hos, hom, hs1, hs2, hm1, hq, hmay, rfl⟩
        refine cw_seq ?_
        refine cw_rseq ?_
        first | refine ops_on rfl (op_moveI rfl ?_) | refine ops_on rfl (op_move ?_)
        refine ops_on rfl (op_lss rfl rfl (fun h => ?_) (fun h => ?_))
        · refine ops_nil ?_
          refine cw_then rfl ?_
          refine cw_skip ?_
          refine seq_norm ?_
          refine cw_seq ?_
          refine cw_block ?_
          refine cw_rseq ?_
          first | refine ops_on rfl (op_moveS rfl ?_) | refine ops_on rfl (op_move ?_)
          first | refine ops_on rfl (op_moveS rfl ?_) | refine ops_on rfl (op_move ?_)
          first | refine ops_on rfl (op_moveI rfl ?_) | refine ops_on rfl (op_move ?_)
          refine ops_on rfl (op_mul rfl rfl (by unfold In64; omega) ?_)
          refine ops_on rfl (op_add rfl rfl (by unfold In64; omega) ?_)
          first | refine ops_on rfl (op_moveS rfl ?_) | refine ops_on rfl (op_move ?_)
          refine ops_on rfl (op_len un31 rfl rfl rfl ?_)
          refine ops_on rfl (op_call rfl fc30 rfl ?_)
          obtain ⟨_, _, hr, rfl, rfl⟩ := at_ok (i := 20 + 2 * (q : Int)) (n := (ss.length : Int)) hI (hl.kept H) hin (by omega)
          refine ⟨_, _, hr, ?_⟩
          clear hr
          have hC := atZ_range (l := l) (i := 20 + 2 * (q : Int)) (n := (ss.length : Int)) (by omega)
          obtain ⟨bs, ofs, cs, rfl, hgs, hbs, hcs⟩ := (((Own.slG (es := ss.map dc) (by intro x hx; obtain ⟨y, _, rfl⟩ := List.mem_map.mp hx; rfl) (by rw [← ints_flat, List.length_map]; exact hos)).sl H (by intro p hp; simp only [List.mem_append, hp, true_or, or_true])).atD (i := atZ l (20 + 2 * (q : Int)) (ss.length : Int)) (k := (atZ l (20 + 2 * (q : Int)) (ss.length : Int)).toNat) (by omega) (by omega))
          refine ops_on rfl (op_indexS el31 rfl rfl (by omega) (by omega) ?_)
          refine ops_on rfl (op_load1 sh23 rfl hgs hcs ?_)
          first | refine ops_on rfl (op_assignI rfl ?_) | refine ops_on rfl (op_assign ?_)
          refine ops_nil ?_
          refine cw_rseq ?_
          first | refine ops_on rfl (op_moveI rfl ?_) | refine ops_on rfl (op_move ?_)
          first | refine ops_on rfl (op_moveS rfl ?_) | refine ops_on rfl (op_move ?_)
          first | refine ops_on rfl (op_moveI rfl ?_) | refine ops_on rfl (op_move ?_)
          refine ops_on rfl (op_mul rfl rfl (by unfold In64; omega) ?_)
          refine ops_on rfl (op_add rfl rfl (by unfold In64; omega) ?_)
          first | refine ops_on rfl (op_moveI rfl ?_) | refine ops_on rfl (op_move ?_)
          refine ops_on rfl (op_shl rfl rfl (by omega) (by omega) (by unfold In64; omega) ?_)
          refine ops_on rfl (op_call rfl fc30 rfl ?_)
          obtain ⟨_, _, hr, rfl, rfl⟩ := at_ok (i := 21 + 2 * (q : Int)) (n := 1 * 2 ^ (2 + atZ l 0 5).toNat) hI (hl.kept H) hin (by omega)
          refine ⟨_, _, hr, ?_⟩
          clear hr
          refine ops_on rfl (op_and rfl rfl ?_)
          first | refine ops_on rfl (op_assignI rfl ?_) | refine ops_on rfl (op_assign ?_)
          refine ops_nil ?_
          refine cw_rseq ?_
          first | refine ops_on rfl (op_moveI rfl ?_) | refine ops_on rfl (op_move ?_)
          first | refine ops_on rfl (op_moveI rfl ?_) | refine ops_on rfl (op_move ?_)
          first | refine ops_on rfl (op_moveI rfl ?_) | refine ops_on rfl (op_move ?_)
          refine ops_on rfl (op_rem rfl rfl (by omega) ?_)
          refine ops_on rfl (op_call rfl fc38 rfl ?_)
          obtain ⟨_, s9, hr, Dn, n1, s1, n2, s2, n3, s3, n4, s4, l1, l2, l3, l4, rfl, Hc, hd1, hd2, hd3, hd4⟩ := of05_ok (x := (q : Int).tmod 3) (y := 1) hI H.fine (by rw [Int.tmod_eq_emod_of_nonneg (by omega)]; exact ⟨by omega, by omega⟩) ⟨by decide, by decide⟩ (by have := H.most; omega)
          refine ⟨_, _, hr, ?_⟩
          clear hr
          have H := H.callE Hc
          clear Hc
          try simp only [List.cons_append, List.nil_append, List.append_assoc] at H
          obtain ⟨N1, hN1⟩ : ∃ N1, N1 = 30 + 2000000000100 * q + 2000000000000 := ⟨_, rfl⟩
          rw [← hN1] at H
          first | refine ops_on rfl (op_build (c := [.int _ _, .int _ _, .bool _, .slice _ _ _, .bool _, .slice _ _ _, .bool _, .slice _ _ _, .bool _, .slice _ _ _]) bf62 rfl ?_) | refine ops_on rfl (op_build bf62 rfl ?_)
          refine ops_on rfl (op_alloc H zf62 (by omega) (fun b13 s10 H => ?_))
          refine ops_on rfl (op_store0 (vs := [.int _ _, .int _ _, .bool _, .slice _ _ _, .bool _, .slice _ _ _, .bool _, .slice _ _ _, .bool _, .slice _ _ _]) H sz62 rfl rfl rfl rfl rfl (by omega) (fun s11 H => ?_))
          refine ops_nil ?_
          refine cw_rseq ?_
          refine ops_on rfl (op_loadN sh62 rfl (by first | exact H.own0 | exact H.own1 | exact H.own2 | exact H.own3 | exact H.own4 | exact H.own5 | exact H.ownA | assumption) rfl ?_)
          refine ops_on rfl (op_call rfl fc39 rfl ?_)
          obtain ⟨_, s9, hr, rfl, Hc⟩ := valid_ok (x := (⟨(ss.getD (atZ l (20 + 2 * (q : Int)) (ss.length : Int)).toNat 0), (andI (ss.getD (atZ l (20 + 2 * (q : Int)) (ss.length : Int)).toNat 0) (atZ l (21 + 2 * (q : Int)) (1 * 2 ^ (2 + atZ l 0 5).toNat))), n1, s1, n2, s2, n3, s3, n4, s4⟩ : Sp)) hI H.fine (by have := H.most; omega)
          refine ⟨_, _, hr, ?_⟩
          clear hr
          have H := H.call0 Hc
          clear Hc
          cases hv : validB (ss.getD (atZ l (20 + 2 * (q : Int)) (ss.length : Int)).toNat 0) (andI (ss.getD (atZ l (20 + 2 * (q : Int)) (ss.length : Int)).toNat 0) (atZ l (21 + 2 * (q : Int)) (1 * 2 ^ (2 + atZ l 0 5).toNat)))
          · refine ops_nil ?_
            refine cw_else rfl ?_
            refine cw_skip ?_
            refine blk_norm ?_
            refine seq_norm ?_
            refine cw_region ?_
            first | refine ops_on rfl (op_moveI rfl ?_) | refine ops_on rfl (op_move ?_)
            refine ops_on rfl (op_add rfl rfl (by unfold In64; omega) ?_)
            first | refine ops_on rfl (op_assignI rfl ?_) | refine ops_on rfl (op_assign ?_)
            refine ops_nil ?_
            refine loop_norm ?_
            refine ⟨14 - (q + 1), by omega, _, q + 1, D2, D3, DD ++ Dn, sm, _, sc, ss, may, slots ⟨rfl, rfl, rfl, rfl, rfl, rfl, trivial⟩, H.drop0.up (by omega), hos, hom, hs1, by omega, by omega, by omega, ?_, rfl⟩
            exact fun x hx => ⟨(hmay x hx).1, (hmay x hx).2.mono (List.subset_append_left _ _)⟩
          · refine ops_nil ?_
            refine cw_then rfl ?_
            refine cw_rseq ?_
            refine ops_on rfl (op_fieldAddr of27_3 rfl ?_)
            refine ops_on rfl (op_load1 sh25 rfl (by first | exact H.own0 | exact H.own1 | exact H.own2 | exact H.own3 | exact H.own4 | exact H.own5 | exact H.ownA | assumption) rfl ?_)
            refine ops_on rfl (op_loadN sh62 rfl (by first | exact H.own0 | exact H.own1 | exact H.own2 | exact H.own3 | exact H.own4 | exact H.own5 | exact H.ownA | assumption) rfl ?_)
            first | refine ops_on rfl (op_buildSlice (c := [.int _ _, .int _ _, .bool _, .slice _ _ _, .bool _, .slice _ _ _, .bool _, .slice _ _ _, .bool _, .slice _ _ _]) H sl25 rfl rfl (by omega) (fun b97 s12 H => ?_)) | refine ops_on rfl (op_buildSlice H sl25 rfl rfl (by omega) (fun b97 s12 H => ?_))
            have hgt := H.own0
            have H := (HL.mid2 (A := [_, _, _]) (B := D3) (C := D2) (E := D1 ++ (DD ++ Dn)) H.drop0)
            refine ops_on rfl (op_appendOwn H hom sl25 un25 rfl rfl rfl (elems_all hgt rfl) (by decide) rfl rfl (by omega) (by omega) (fun b98 s98 H hom => ?_))
            refine ops_on rfl (op_fieldAddr of27_3 rfl ?_)
            refine ops_on rfl (op_store2 (vs := [.slice _ _ _]) H sz25 rfl rfl rfl rfl rfl (by omega) (fun s13 H => ?_))
            refine ops_nil ?_
            refine cw_region ?_
            first | refine ops_on rfl (op_moveS rfl ?_) | refine ops_on rfl (op_move ?_)
            first | refine ops_on rfl (op_moveI rfl ?_) | refine ops_on rfl (op_move ?_)
            first | refine ops_on rfl (op_moveI rfl ?_) | refine ops_on rfl (op_move ?_)
            first | refine ops_on rfl (op_moveI rfl ?_) | refine ops_on rfl (op_move ?_)
            refine ops_on rfl (op_andNot rfl rfl ?_)
            first | refine ops_on rfl (op_buildSlice (c := [.int _ _, .int _ _]) H sl31 rfl rfl (by omega) (fun b105 s14 H => ?_)) | refine ops_on rfl (op_buildSlice H sl31 rfl rfl (by omega) (fun b105 s14 H => ?_))
            have hgt := H.own0
            have H := (HL.mid (A := [_, _, _, _]) (B := D3) (C := D1 ++ (DD ++ Dn)) H.drop0)
            refine ops_on rfl (op_appendOwn H hos sl31 un31 rfl rfl rfl (elems_all hgt rfl) (by decide) rfl rfl (by omega) (by omega) (fun b106 s106 H hos => ?_))
            first | refine ops_on rfl (op_assignS rfl ?_) | refine ops_on rfl (op_assign ?_)
            refine ops_nil ?_
            refine blk_norm ?_
            refine seq_norm ?_
            refine cw_region ?_
            first | refine ops_on rfl (op_moveI rfl ?_) | refine ops_on rfl (op_move ?_)
            refine ops_on rfl (op_add rfl rfl (by unfold In64; omega) ?_)
            first | refine ops_on rfl (op_assignI rfl ?_) | refine ops_on rfl (op_assign ?_)
            refine ops_nil ?_
            refine loop_norm ?_
            refine ⟨14 - (q + 1), by omega, _, q + 1, [(b98, .cells ((may.map Sp.cells).flatten ++ Sp.cells (⟨(ss.getD (atZ l (20 + 2 * (q : Int)) (ss.length : Int)).toNat 0), (andI (ss.getD (atZ l (20 + 2 * (q : Int)) (ss.length : Int)).toNat 0) (atZ l (21 + 2 * (q : Int)) (1 * 2 ^ (2 + atZ l 0 5).toNat))), n1, s1, n2, s2, n3, s3, n4, s4⟩ : Sp)) 62)], [(b106, .cells (ints ss ++ [.int .i64 (andI (ss.getD (atZ l (20 + 2 * (q : Int)) (ss.length : Int)).toNat 0) (atZ l (21 + 2 * (q : Int)) (1 * 2 ^ (2 + atZ l 0 5).toNat))), .int .i64 (andNotI (ss.getD (atZ l (20 + 2 * (q : Int)) (ss.length : Int)).toNat 0) (andI (ss.getD (atZ l (20 + 2 * (q : Int)) (ss.length : Int)).toNat 0) (atZ l (21 + 2 * (q : Int)) (1 * 2 ^ (2 + atZ l 0 5).toNat))))]) 23)], DD ++ Dn, ⟨some ⟨b98, 0, none⟩, may.length + 1, 2 * (may.length + 1) + 1⟩, some ⟨b106, 0, none⟩, 2 * (ss.length + 2) + 1, ss ++ [(andI (ss.getD (atZ l (20 + 2 * (q : Int)) (ss.length : Int)).toNat 0) (atZ l (21 + 2 * (q : Int)) (1 * 2 ^ (2 + atZ l 0 5).toNat))), andNotI (ss.getD (atZ l (20 + 2 * (q : Int)) (ss.length : Int)).toNat 0) (andI (ss.getD (atZ l (20 + 2 * (q : Int)) (ss.length : Int)).toNat 0) (atZ l (21 + 2 * (q : Int)) (1 * 2 ^ (2 + atZ l 0 5).toNat)))], may ++ [(⟨(ss.getD (atZ l (20 + 2 * (q : Int)) (ss.length : Int)).toNat 0), (andI (ss.getD (atZ l (20 + 2 * (q : Int)) (ss.length : Int)).toNat 0) (atZ l (21 + 2 * (q : Int)) (1 * 2 ^ (2 + atZ l 0 5).toNat))), n1, s1, n2, s2, n3, s3, n4, s4⟩ : Sp)], slots ⟨rfl, rfl, rfl, rfl, by rw [List.length_append]; rfl, rfl, trivial⟩, ?_, ?_, ?_, by simp, by simp; omega, by simp; omega, by omega, ?_, rfl⟩
            · exact ((HL.mid (A := [_, _]) (B := [_, _]) (C := D1 ++ (DD ++ Dn)) H.drop2)).up (by omega)
            · rw [ints_append, List.length_append]
              exact hos
            · rw [flat_snoc, List.length_append]
              exact hom
            · intro x hx
              rcases List.mem_append.mp hx with hx | hx
              · exact ⟨(hmay x hx).1, (hmay x hx).2.mono (List.subset_append_left _ _)⟩
              · rw [List.mem_singleton] at hx
                subst hx
                exact ⟨hv, l1, l2, l3, l4, hd1.mono (List.subset_append_right _ _), hd2.mono (List.subset_append_right _ _), hd3.mono (List.subset_append_right _ _), hd4.mono (List.subset_append_right _ _)⟩
        · refine ops_nil ?_
          refine cw_else rfl ?_
          refine cw_exit ?_
          refine seq_exit ?_
          refine loop_exit ?_
          refine blk_here ?_
          refine seq_norm ?_
          refine cw_rseq ?_
          refine ops_on rfl (op_loadN sh27 rfl (by first | exact H.own0 | exact H.own1 | exact H.own2 | exact H.own3 | exact H.own4 | exact H.own5 | exact H.ownA | assumption) rfl ?_)
          first | refine ops_on rfl (op_store0 (vs := [.int _ _, .slice _ _ _, .int _ _, .slice _ _ _]) H sz27 rfl rfl rfl rfl rfl (by omega) (fun s15 H => ?_)) | refine ops_on rfl (op_store1 (vs := [.int _ _, .slice _ _ _, .int _ _, .slice _ _ _]) H sz27 rfl rfl rfl rfl rfl (by omega) (fun s15 H => ?_)) | refine ops_on rfl (op_store2 (vs := [.int _ _, .slice _ _ _, .int _ _, .slice _ _ _]) H sz27 rfl rfl rfl rfl rfl (by omega) (fun s15 H => ?_)) | refine ops_on rfl (op_store3 (vs := [.int _ _, .slice _ _ _, .int _ _, .slice _ _ _]) H sz27 rfl rfl rfl rfl rfl (by omega) (fun s15 H => ?_)) | refine ops_on rfl (op_store4 (vs := [.int _ _, .slice _ _ _, .int _ _, .slice _ _ _]) H sz27 rfl rfl rfl rfl rfl (by omega) (fun s15 H => ?_)) | refine ops_on rfl (op_store0 H sz27 rfl rfl rfl rfl rfl (by omega) (fun s15 H => ?_)) | refine ops_on rfl (op_store1 H sz27 rfl rfl rfl rfl rfl (by omega) (fun s15 H => ?_)) | refine ops_on rfl (op_store2 H sz27 rfl rfl rfl rfl rfl (by omega) (fun s15 H => ?_)) | refine ops_on rfl (op_store3 H sz27 rfl rfl rfl rfl rfl (by omega) (fun s15 H => ?_)) | refine ops_on rfl (op_store4 H sz27 rfl rfl rfl rfl rfl (by omega) (fun s15 H => ?_))
          refine ops_nil ?_
          refine cw_ret ?_
          refine ret_end ?_
          refine end_cell sh27 rfl (by first | exact H.own0 | exact H.own1 | exact H.own2 | exact H.own3 | exact H.own4 | exact H.own5 | exact H.ownA | assumption) rfl ?_
          have hbad := atZ_range (l := l) (i := 18) (n := 1 * 2 ^ (1 + atZ l 1 8).toNat) (by omega)
          have hjl : js.length = (1 + atZ l 1 8).toNat := by omega
          refine ⟨D3 ++ (D2 ++ D1), DD, sj, sm, js, may, (2 + atZ l 0 5).toNat, _, _, rfl, ?_, ?_, ?_, ⟨by omega, by omega, by omega⟩, ⟨by omega, by omega⟩, ?_, ⟨hbad.1, ?_⟩, by omega, hmay⟩
          · rw [List.append_assoc, List.append_assoc]
            exact H.drop0.drop0.up (by omega)
          · exact (Own.slG (es := js.map jc) (by intro x hx; obtain ⟨y, _, rfl⟩ := List.mem_map.mp hx; rfl) (by rw [List.length_map]; exact ho)).mono (by intro p hp; simp only [List.mem_append, hp, or_true])
          · exact (Own.slG (es := may.map Sp.cells) (by intro x hx; obtain ⟨y, _, rfl⟩ := List.mem_map.mp hx; rfl) (by rw [List.length_map]; exact hom)).mono (by intro p hp; simp only [List.mem_append, hp, or_true, true_or])
          · intro j hj
            have := hjr j hj
            omega
          · rw [hjl]
            omega
      · refine ⟨_, 0, [], [(b62, .cells [.int .i64 (1 * 2 ^ (2 + atZ l 0 5).toNat - 1)] 23)], [], ⟨none, 0, 0⟩, some ⟨b62, 0, none⟩, 2, [(1 * 2 ^ (2 + atZ l 0 5).toNat - 1)], [], slots ⟨rfl, rfl, rfl, rfl, rfl, rfl, trivial⟩, ?_, ?_, .nil, by simp, by simp, by simp, by omega, (by intro x hx; cases hx), rfl⟩
        · have H := (HL.mid (A := [_]) (B := [_, _]) (C := D1) H)
          rw [List.nil_append, List.append_nil]
          exact H.up (by omega)
        · exact .block b62 2 _ 1 rfl (by decide)
  · exact ⟨_, 0, [], ⟨none, 0, 0⟩, [], slots ⟨rfl, rfl, rfl, rfl, rfl, rfl, trivial⟩, H, .nil, rfl, by omega, (by intro j hj; cases hj), by omega⟩

end Go.Proofs.YtdejleegamcioaaGreat
namespace Go.Proofs.YtdejleegamcioaaGreat
open Go Go.M

theorem lput_app {α : Type} : ∀ (A : List α) (j : Nat) (vs R r : List α), lput j vs R = some r → lput (A.length + j) vs (A ++ R) = some (A ++ r)
  | [], j, vs, R, r, h => by simpa using h
  | a :: A, j, vs, R, r, h => by
    have := lput_app A j vs R r h
    have e : (a :: A).length + j = (A.length + j) + 1 := by simp; omega
    rw [e]
    simp only [List.cons_append, lput, this]

/-- The cells of splits. -/
abbrev spsC (l : List Sp) : List Value := (l.map Sp.cells).flatten
theorem sps_len (l : List Sp) : (spsC l).length = l.length * 10 := by
  have := flat_len (sz := 10) (es := l.map Sp.cells) (by intro x hx; obtain ⟨y, _, rfl⟩ := List.mem_map.mp hx; rfl)
  simpa using this
theorem sps_plain (l : List Sp) : (spsC l).all Go.M.plainCell = true := by
  rw [List.all_eq_true]
  intro x hx
  obtain ⟨c, hc, hx⟩ := List.mem_flatten.mp hx
  obtain ⟨y, _, rfl⟩ := List.mem_map.mp hc
  simp only [Sp.cells, List.mem_cons, List.not_mem_nil, or_false] at hx
  rcases hx with rfl | rfl | rfl | rfl | rfl | rfl | rfl | rfl | rfl | rfl <;> rfl
theorem sps_get {l : List Sp} {k m : Nat} (hk : k < l.length) (hm : m = k * 10) : ltake 10 (ldrop m (spsC l)) = some (l.getD k default).cells := by
  have := flat_get (sz := 10) (es := l.map Sp.cells) (k := k) (by intro x hx; obtain ⟨y, _, rfl⟩ := List.mem_map.mp hx; rfl) (by simpa using hk)
  rw [Nat.zero_add] at this
  rw [hm, this, getD_map hk]
theorem sps_split {l : List Sp} {k : Nat} (hk : k < l.length) : spsC l = spsC (l.take k) ++ ((l.getD k default).cells ++ spsC (l.drop (k + 1))) := by
  have e : l = l.take k ++ (l.getD k default :: l.drop (k + 1)) := by rw [← drop_getD default hk, List.take_append_drop]
  conv => lhs; rw [e]
  simp [spsC]
theorem sps_set {l : List Sp} {k : Nat} {y : Sp} (hk : k < l.length) : spsC (l.set k y) = spsC (l.take k) ++ (y.cells ++ spsC (l.drop (k + 1))) := by
  rw [List.set_eq_take_append_cons_drop, if_pos hk]
  simp [spsC]
/-- Writing within a split. -/
theorem sps_put {l : List Sp} {k j m : Nat} {y : Sp} {vs : List Value} (hk : k < l.length) (hm : m = k * 10 + j) (h : ∀ B, lput j vs ((l.getD k default).cells ++ B) = some (y.cells ++ B)) : lput m vs (spsC l) = some (spsC (l.set k y)) := by
  have hl : (spsC (l.take k)).length = k * 10 := by rw [sps_len, List.length_take]; rw [Nat.min_eq_left (by omega)]
  rw [hm, sps_split hk, sps_set hk, ← hl]
  exact lput_app _ _ _ _ _ (h _)

theorem elems_take {c : List Value} {off sz : Nat} {es : List (List Value)} (hs : 0 < sz) (hz : ∀ x ∈ es, x.length = sz) (hc : ∀ k, k < es.length → ltake sz (ldrop (off + k * sz) c) = some (es.getD k [])) : ∀ n, n ≤ es.length → (c.drop off).take (n * sz) = (es.take n).flatten ∧ (n = 0 ∨ off + n * sz ≤ c.length)
  | 0, _ => by simp
  | n + 1, h => by
    obtain ⟨ih, _⟩ := elems_take hs hz hc n (by omega)
    have h1 := hc n (by omega)
    rw [ltake_eq, ldrop_eq] at h1
    split at h1
    · next hle =>
      rw [Option.some.injEq] at h1
      rw [List.length_drop] at hle
      have hx : (es.getD n []).length = sz := hz _ (getD_mem (by omega))
      refine ⟨?_, ?_⟩
      · rw [Nat.add_mul, Nat.one_mul, List.take_add, ih, List.drop_drop, h1, List.take_succ_eq_append_getElem (by omega), List.flatten_append]
        simp [List.getD_eq_getElem?_getD, List.getElem?_eq_getElem (show n < es.length by omega)]
      · right
        rw [Nat.add_mul, Nat.one_mul]
        omega
    · cases h1
theorem Sl.elems {s : St} {e : TypeId} {sz : Nat} {v : Value} {es : List (List Value)} (h : Sl s e sz v es) (hz : ∀ x ∈ es, x.length = sz) (hs : 0 < sz) : Elems s sz v es.length es.flatten := by
  cases h with
  | nil c hv hl => subst hl; subst hv; exact elems_nil
  | block b off cap c hv hg hb hcap hc =>
    subst hv
    by_cases hn : es.length = 0
    · have : es = [] := List.length_eq_zero_iff.mp hn
      subst this
      refine ⟨⟨_, _, rfl⟩, ?_⟩
      simp only [firstL, hg, List.length_nil, Nat.zero_mul, ltake, List.flatten_nil]
    · obtain ⟨h1, h2⟩ := elems_take hs hz hc es.length (Nat.le_refl _)
      rw [List.take_length] at h1
      exact elems_block hg h1 (by omega)
theorem Sl.elemsS {s : St} {v : Value} {l : List Sp} (h : Sl s 62 10 v (l.map Sp.cells)) : Elems s 10 v l.length (spsC l) := by
  have := Sl.elems h (by intro x hx; obtain ⟨y, _, rfl⟩ := List.mem_map.mp hx; rfl) (by decide)
  rwa [List.length_map] at this
theorem jcs_len (l : List (Int × Int)) : ((l.map jc).flatten).length = l.length * 2 := by
  have := flat_len (sz := 2) (es := l.map jc) (by intro x hx; obtain ⟨y, _, rfl⟩ := List.mem_map.mp hx; rfl)
  simpa using this
theorem jcs_plain (l : List (Int × Int)) : ((l.map jc).flatten).all Go.M.plainCell = true := by
  rw [List.all_eq_true]
  intro x hx
  obtain ⟨c, hc, hx⟩ := List.mem_flatten.mp hx
  obtain ⟨y, _, rfl⟩ := List.mem_map.mp hc
  simp only [jc, List.mem_cons, List.not_mem_nil, or_false] at hx
  rcases hx with rfl | rfl <;> rfl
theorem Sl.elemsJ {s : St} {v : Value} {l : List (Int × Int)} (h : Sl s 30 2 v (l.map jc)) : Elems s 2 v l.length ((l.map jc).flatten) := by
  have := Sl.elems h (by intro x hx; obtain ⟨y, _, rfl⟩ := List.mem_map.mp hx; rfl) (by decide)
  rwa [List.length_map] at this
theorem spsG {b cap : Nat} {l : List Sp} (hcap : l.length ≤ cap / 2) : SlG [(b, .cells (spsC l) 62)] 62 10 (.slice (some ⟨b, 0, none⟩) l.length cap) (l.map Sp.cells) := by
  refine SlG.block b 0 cap (spsC l) (by simp) (by simp) (by simpa using hcap) fun k hk => ?_
  exact flat_get (by intro x hx; obtain ⟨y, _, rfl⟩ := List.mem_map.mp hx; rfl) hk
end Go.Proofs.YtdejleegamcioaaGreat
namespace Go.M
section
variable {P : Program} {I : Table} {F : FF} {s : St} {Q : FF → St → Prop} {d : Option Tmp} {ty : TypeId} {pos : String} {af : Array Edge} {g : Option (Nat × Bool)} {W : List Nat} {s0 : St} {L : Hp'} {n : Nat}
/-- Onto a slice that was made without elements. -/
theorem op_append00 {ag : Array Operand} {ts : Array TypeId} {t t2 e e2 : TypeId} {tr : List TypeId} {x y : Operand} {sz by_ m b : Nat} {z l : List Value} (H : HL W s0 s ((b, .cells [] e) :: L) n) (hs : sliceF P t = some (e, sz, by_, z)) (hu2 : P.underlying t2 = some (.slice e2))
    (ht : ts.toList = t :: t2 :: tr) (ha : ag.toList = [x, y]) (hx : evalF F x = .slice (some ⟨b, 0, none⟩) 0 0) (he : Elems s sz (evalF F y) m l) (hm : 0 < m) (hp : l.all plainCell = true) (hl : l.length = m * sz) (hb : m * (by_ + 1) ≤ 1073741824) (hr : s0.next + n < limit)
    (k : ∀ b' s', HL W s0 s' ((b', .cells l e) :: L) (n + 1) → Q (upd F d (.slice (some ⟨b', 0, none⟩) m (2 * m + 1))) s') : OpW P I ⟨d, .call ⟨.builtin .append, ag, ts⟩, ty, pos, af, g⟩ F s Q := by
  refine op_append0 H hs hu2 ht ha hx he (by simp) (by omega) hp hl (by rw [Nat.zero_add]; exact hb) hr fun b' s' H' => ?_
  have := k b' s' H'
  rwa [Nat.zero_add]
end
end Go.M
