/- The reference of cleanings: its errors, and numbers in levels. -/
/- The reference of cleanings: the sets that come about. -/
import Derived.Test.YtdejleegamcioaaGreatL18
namespace Go.Proofs.YtdejleegamcioaaGreat
open Go Go.M

theorem fb45 : funcB Tryz.f45 (Tryz.f45.body.getD .skip) 4 = true := by kernel_rfl
theorem fb46 : funcB Tryz.f46 (Tryz.f46.body.getD .skip) 2 = true := by kernel_rfl
theorem of40_0 : offF Tryz.prog 40 0 = some 0 := by kernel_rfl
theorem of40_1 : offF Tryz.prog 40 1 = some 1 := by kernel_rfl

theorem split_valid {w p : Int} (h : splitB w p = true) (hp : p < 9223372036854775808) : validB w p = true := by
  have hs := split_facts h hp
  simp only [splitB, Bool.and_eq_true, decide_eq_true_eq] at h
  obtain ⟨⟨⟨⟨h1, h2⟩, h3⟩, h4⟩, h5⟩ := h
  obtain ⟨a, rfl⟩ := Int.eq_ofNat_of_zero_le (show 0 ≤ w by omega)
  obtain ⟨b, rfl⟩ := Int.eq_ofNat_of_zero_le (show 0 ≤ p by omega)
  have ha := ofInt_nat (a := a) (by omega)
  have hb := ofInt_nat (a := b) (by omega)
  have hz : BitVec.ofInt 64 (b : Int) &&& ~~~ BitVec.ofInt 64 (a : Int) = 0#64 := by
    have := wrap_zero (BitVec.isLt _) h4
    exact BitVec.eq_of_toNat_eq (by rw [this]; rfl)
  have hz2 : BitVec.ofInt 64 (b : Int) &&& BitVec.ofInt 64 (a : Int) = BitVec.ofInt 64 (b : Int) := by
    apply BitVec.eq_of_getLsbD_eq
    intro i hi
    have := congrArg (fun x => x.getLsbD i) hz
    simp only [BitVec.getLsbD_and, BitVec.getLsbD_not, hi, decide_true, Bool.true_and, BitVec.getLsbD_zero] at this ⊢
    revert this
    cases (BitVec.ofInt 64 (b : Int)).getLsbD i <;> cases (BitVec.ofInt 64 (a : Int)).getLsbD i <;> simp
  have h6 : andI (b : Int) (a : Int) = (b : Int) := by
    rw [andI_nat (by omega) (by omega)]
    have := congrArg BitVec.toNat hz2
    rw [BitVec.toNat_and, ha, hb] at this
    rw [this]
  simp only [validB, Bool.and_eq_true, decide_eq_true_eq]
  exact ⟨⟨⟨⟨by omega, by omega⟩, by omega, by omega⟩, h6⟩, h5⟩
theorem valid_eq {w p : Int} (hp : p < 9223372036854775808) : validB w p = splitB w p := by
  cases h : splitB w p with
  | true => exact split_valid h hp
  | false =>
    cases h2 : validB w p with
    | false => rfl
    | true => rw [(valid_split h2).1] at h; cases h
theorem any_drop {l : List Sp} {i : Nat} (h : i < l.length) {p : Sp → Bool} : (l.drop i).any p = (p (l.getD i default) || (l.drop (i + 1)).any p) := by
  rw [drop_getD default h, List.any_cons]

set_option maxHeartbeats 4000000 in
set_option maxRecDepth 10000 in
theorem error_ok {I : Table} (hI : Plain I) {s : St} (hf : Fine s) {w bad : Int} {vj vm : Value} {js : List (Int × Int)} {l : List Sp} (hj : Sl s 30 2 vj (js.map jc)) (hl : Sl s 62 10 vm (l.map Sp.cells)) (hin : ∀ x ∈ l, x.p < 9223372036854775808) (hll : l.length ≤ 4000) (hjl : js.length ≤ 4000) (hroom : s.next + 10000 ≤ limit) :
    ∃ v' s', Rets Tryz.prog I 45 #[.int .i64 w, vj, .int .i64 bad, vm] s v' s' ∧ (v' = .int .i64 (errZ w js bad l) ∧ HL [] s s' [] 10000) := by
  have H := hf.hl
  obtain ⟨a, len, cap, rfl, hn⟩ := hj.isSlice
  rw [List.length_map] at hn
  subst hn
  obtain ⟨a2, len2, cap2, rfl, hn2⟩ := hl.isSlice
  rw [List.length_map] at hn2
  subst hn2
  refine call_of 4 (hI 45 (by decide) (by decide)) Tryz.func45 rfl fb45 rfl ?_
  refine cR ?_
  refine oO rfl (aC ?_)
  refine ops_nil ?_
  refine cw_seq ?_
  refine cR ?_
  refine oO rfl (mS rfl ?_)
  refine oO rfl (op_len un25 rfl rfl rfl ?_)
  refine oO rfl (op_gtr rfl rfl (fun h => False.elim (by omega)) (fun h => ?_))
  refine oO rfl (mB rfl ?_)
  refine oO rfl (mS rfl ?_)
  refine oO rfl (op_len un24 rfl rfl rfl ?_)
  refine oO rfl (op_gtr rfl rfl (fun h => ?_) (fun h => ?_))
  · refine oO rfl (k0B rfl rfl ?_)
    refine ops_nil ?_
    refine cT rfl ?_
    refine cR ?_
    refine oO rfl (aC ?_)
    refine ops_nil ?_
    refine cw_ret ?_
    refine seq_ret ?_
    refine ret_end ?_
    refine end_t ?_
    refine ⟨congrArg (Value.int .i64) ?_, H.up (by omega)⟩
    unfold errZ
    rw [if_pos (by omega)]
  · refine oO rfl (k0B rfl rfl ?_)
    refine ops_nil ?_
    refine cE rfl ?_
    refine cw_skip ?_
    refine sN ?_
    refine cw_seq ?_
    refine cR ?_
    refine oO rfl (mI rfl ?_)
    refine oO rfl (op_lss rfl rfl (fun h => ?_) (fun h => ?_))
    · refine oO rfl (mB rfl ?_)
      refine oF rfl ?_
      refine oF rfl ?_
      refine oO rfl (op_pick1C rfl ?_)
      refine oO rfl (mB rfl ?_)
      refine oF rfl ?_
      refine oF rfl ?_
      refine oO rfl (op_pick1C rfl ?_)
      refine oO rfl (mB rfl ?_)
      refine oF rfl ?_
      refine oF rfl ?_
      refine oF rfl ?_
      refine oF rfl ?_
      refine oF rfl ?_
      refine oO rfl (op_pick1C rfl ?_)
      refine ops_nil ?_
      refine cT rfl ?_
      refine cR ?_
      refine oO rfl (aC ?_)
      refine ops_nil ?_
      refine cw_ret ?_
      refine seq_ret ?_
      refine ret_end ?_
      refine end_t ?_
      refine ⟨congrArg (Value.int .i64) ?_, H.up (by omega)⟩
      try simp only [Int.toNat_natCast, Int.one_mul] at h
      unfold errZ
      rw [if_neg (by omega), if_pos (by omega)]
    · refine oO rfl (mB rfl ?_)
      refine oO rfl (mI rfl ?_)
      refine oO rfl (op_gtr rfl rfl (fun h => ?_) (fun h => ?_))
      · refine oO rfl (k0B rfl rfl ?_)
        refine oO rfl (mB rfl ?_)
        refine oF rfl ?_
        refine oF rfl ?_
        refine oO rfl (op_pick1C rfl ?_)
        refine oO rfl (mB rfl ?_)
        refine oF rfl ?_
        refine oF rfl ?_
        refine oF rfl ?_
        refine oF rfl ?_
        refine oF rfl ?_
        refine oO rfl (op_pick1C rfl ?_)
        refine ops_nil ?_
        refine cT rfl ?_
        refine cR ?_
        refine oO rfl (aC ?_)
        refine ops_nil ?_
        refine cw_ret ?_
        refine seq_ret ?_
        refine ret_end ?_
        refine end_t ?_
        refine ⟨congrArg (Value.int .i64) ?_, H.up (by omega)⟩
        try simp only [Int.toNat_natCast, Int.one_mul] at h
        unfold errZ
        rw [if_neg (by omega), if_pos (by omega)]
      · refine oO rfl (k0B rfl rfl ?_)
        refine oO rfl (mB rfl ?_)
        refine oO rfl (mI rfl ?_)
        refine oO rfl (op_lss rfl rfl (fun h => ?_) (fun h => ?_))
        · refine oO rfl (k0B rfl rfl ?_)
          refine oO rfl (mB rfl ?_)
          refine oF rfl ?_
          refine oF rfl ?_
          refine oF rfl ?_
          refine oF rfl ?_
          refine oF rfl ?_
          refine oO rfl (op_pick1C rfl ?_)
          refine ops_nil ?_
          refine cT rfl ?_
          refine cR ?_
          refine oO rfl (aC ?_)
          refine ops_nil ?_
          refine cw_ret ?_
          refine seq_ret ?_
          refine ret_end ?_
          refine end_t ?_
          refine ⟨congrArg (Value.int .i64) ?_, H.up (by omega)⟩
          try simp only [Int.toNat_natCast, Int.one_mul] at h
          unfold errZ
          rw [if_neg (by omega), if_pos (by omega)]
        · refine oO rfl (k0B rfl rfl ?_)
          refine oO rfl (mB rfl ?_)
          refine oO rfl (mI rfl ?_)
          have hp2 := two_pow_le (n := js.length) (by omega)
          refine oO rfl (mS rfl ?_)
          refine oO rfl (op_len un24 rfl rfl rfl ?_)
          refine oO rfl (op_shl rfl rfl (by omega) (by omega) (by unfold In64; simp only [Int.toNat_natCast]; omega) ?_)
          refine oO rfl (op_geq rfl rfl (fun h => ?_) (fun h => ?_))
          · refine oO rfl (k0B rfl rfl ?_)
            refine ops_nil ?_
            refine cT rfl ?_
            refine cR ?_
            refine oO rfl (aC ?_)
            refine ops_nil ?_
            refine cw_ret ?_
            refine seq_ret ?_
            refine ret_end ?_
            refine end_t ?_
            refine ⟨congrArg (Value.int .i64) ?_, H.up (by omega)⟩
            try simp only [Int.toNat_natCast, Int.one_mul] at h
            unfold errZ
            rw [if_neg (by omega), if_pos (by omega)]
          · refine oO rfl (k0B rfl rfl ?_)
            refine ops_nil ?_
            refine cE rfl ?_
            refine cw_skip ?_
            refine sN ?_
            refine cw_seq ?_
            simp only [Int.toNat_natCast, Int.one_mul] at h
            refine cR ?_
            refine oO rfl (aC ?_)
            refine ops_nil ?_
            refine cw_block ?_
            refine cw_loop (fun k F s1 => ∃ (G : FF) (i : Nat), F = lay G [(1, .slice a js.length cap), (3, .slice a2 l.length cap2), (9, .int .i64 (i : Int))] ∧ HL [] s s1 [] i ∧ i ≤ l.length ∧ k = l.length - i ∧ l.any (fun x => !splitB x.w x.p) = (l.drop i).any (fun x => !splitB x.w x.p)) ?_ l.length _ _ ?_
            · rintro k F s1 ⟨G, i, rfl, H, hi, rfl, hn⟩
              refine cw_seq ?_
              refine cR ?_
              refine oO rfl (mI rfl ?_)
              refine oO rfl (mS rfl ?_)
              refine oO rfl (op_len un25 rfl rfl rfl ?_)
              refine oO rfl (op_lss rfl rfl (fun h => ?_) (fun h => ?_))
              · refine ops_nil ?_
                refine cT rfl ?_
                refine cw_skip ?_
                refine sN ?_
                refine cw_seq ?_
                refine cw_block ?_
                refine cR ?_
                refine oO rfl (mS rfl ?_)
                refine oO rfl (mI rfl ?_)
                obtain ⟨b, off, c, rfl, hg, hb, hc⟩ := (hl.kept H).atS rfl (show i < l.length by omega)
                refine oO rfl (op_indexS el25 rfl rfl (by (unfold limit at *; omega)) (by (unfold limit at *; omega)) ?_)
                refine oO rfl (lN sh62 rfl hg hc ?_)
                refine oO rfl (oC rfl fc39 rfl ?_)
                obtain ⟨_, s9, hr, rfl, Hc⟩ := valid_ok (x := l.getD i default) hI H.fine (by have := H.most; omega)
                refine ⟨_, _, hr, ?_⟩
                clear hr
                have H := H.call0 Hc
                clear Hc
                rw [valid_eq (hin _ (getD_mem (show i < l.length by omega)))]
                cases hv : splitB (l.getD i default).w (l.getD i default).p
                · refine oO rfl (op_not rfl ?_)
                  refine ops_nil ?_
                  refine cT rfl ?_
                  refine cR ?_
                  refine oO rfl (aC ?_)
                  refine ops_nil ?_
                  refine cw_ret ?_
                  refine blk_ret ?_
                  refine seq_ret ?_
                  refine loop_ret ?_
                  refine blk_ret ?_
                  refine seq_ret ?_
                  refine ret_end ?_
                  refine end_t ?_
                  refine ⟨congrArg (Value.int .i64) ?_, H.up (by omega)⟩
                  unfold errZ
                  rw [if_neg (by omega), if_neg (by omega), if_pos]
                  rw [hn, any_drop (show i < l.length by omega), hv]
                  rfl
                · refine oO rfl (op_not rfl ?_)
                  refine ops_nil ?_
                  refine cE rfl ?_
                  refine cw_skip ?_
                  refine blk_norm ?_
                  refine sN ?_
                  refine cG ?_
                  refine oO rfl (mI rfl ?_)
                  refine oO rfl (op_add rfl rfl (by unfold In64; (unfold limit at *; omega)) ?_)
                  refine oO rfl (aI rfl ?_)
                  refine ops_nil ?_
                  refine loop_norm ?_
                  refine ⟨l.length - (i + 1), by omega, _, i + 1, slots ⟨rfl, rfl, rfl, trivial⟩, H.up (by omega), by omega, rfl, ?_⟩
                  rw [hn, any_drop (show i < l.length by omega), hv]
                  rfl
              · refine ops_nil ?_
                refine cE rfl ?_
                refine cw_exit ?_
                refine seq_exit ?_
                refine loop_exit ?_
                refine blk_here ?_
                refine sN ?_
                refine cw_seq ?_
                have hany : l.any (fun x => !splitB x.w x.p) = false := by rw [hn, List.drop_eq_nil_of_le (by omega)]; rfl
                clear hn
                refine cR ?_
                refine oO rfl (aC ?_)
                refine ops_nil ?_
                refine cw_block ?_
                refine cw_loop (fun k F s1 => ∃ (G : FF) (i : Nat), F = lay G [(1, .slice a js.length cap), (10, .int .i64 (i : Int))] ∧ HL [] s s1 [] (l.length + i) ∧ i ≤ js.length ∧ k = js.length - i ∧ joinsB js = joinsB (js.drop i)) ?_ js.length _ _ ?_
                · rintro k F s1 ⟨G, i, rfl, H, hi, rfl, hn⟩
                  refine cw_seq ?_
                  refine cR ?_
                  refine oO rfl (mI rfl ?_)
                  refine oO rfl (mS rfl ?_)
                  refine oO rfl (op_len un24 rfl rfl rfl ?_)
                  refine oO rfl (op_lss rfl rfl (fun h => ?_) (fun h => ?_))
                  · refine ops_nil ?_
                    refine cT rfl ?_
                    refine cw_skip ?_
                    refine sN ?_
                    refine cw_seq ?_
                    refine cw_block ?_
                    refine cR ?_
                    refine oO rfl (mS rfl ?_)
                    refine oO rfl (mI rfl ?_)
                    obtain ⟨b, off, c, rfl, hg, hb, hc⟩ := (hj.kept H).atJ rfl (show i < js.length by omega)
                    refine oO rfl (op_indexS el24 rfl rfl (by (unfold limit at *; omega)) (by (unfold limit at *; omega)) ?_)
                    refine oO rfl (lN sh30 rfl hg hc ?_)
                    refine oO rfl (op_alloc H zf30 (by (unfold limit at *; omega)) (fun b11 s1 H => ?_))
                    refine oO rfl (op_store0 (vs := [.int _ _, .int _ _]) H sz30 rfl rfl rfl rfl rfl (by (unfold limit at *; omega)) (fun s2 H => ?_))
                    refine ops_nil ?_
                    refine cR ?_
                    refine oO rfl (op_indexA el30 rfl rfl (by (unfold limit at *; omega)) (by (unfold limit at *; omega)) ?_)
                    refine oO rfl (lO sh3 rfl (by exact H.own0) rfl ?_)
                    refine oO rfl (op_lss rfl rfl (fun h => ?_) (fun h => ?_))
                    · refine oO rfl (mB rfl ?_)
                      refine oF rfl ?_
                      refine oF rfl ?_
                      refine oF rfl ?_
                      refine oO rfl (op_pick1C rfl ?_)
                      refine oO rfl (mB rfl ?_)
                      refine oF rfl ?_
                      refine oF rfl ?_
                      refine oF rfl ?_
                      refine oO rfl (op_pick1C rfl ?_)
                      refine oO rfl (mB rfl ?_)
                      refine oF rfl ?_
                      refine oF rfl ?_
                      refine oF rfl ?_
                      refine oO rfl (op_pick1C rfl ?_)
                      refine oO rfl (mB rfl ?_)
                      refine oF rfl ?_
                      refine oF rfl ?_
                      refine oF rfl ?_
                      refine oF rfl ?_
                      refine oF rfl ?_
                      refine oO rfl (op_pick1C rfl ?_)
                      refine ops_nil ?_
                      refine cT rfl ?_
                      refine cR ?_
                      refine oO rfl (aC ?_)
                      refine ops_nil ?_
                      refine cw_ret ?_
                      refine blk_ret ?_
                      refine seq_ret ?_
                      refine loop_ret ?_
                      refine blk_ret ?_
                      refine seq_ret ?_
                      refine ret_end ?_
                      refine end_t ?_
                      refine ⟨congrArg (Value.int .i64) ?_, H.drop0.up (by omega)⟩
                      unfold errZ
                      rw [if_neg (by omega), if_neg (by omega), if_neg (by rw [hany]; simp), if_neg]
                      rw [hn, drop_getD (0, 0) (show i < js.length by omega), joinsB]
                      simp only [Bool.and_eq_true, Bool.not_eq_true', Bool.or_eq_false_iff, decide_eq_false_iff_not]
                      omega
                    · refine oO rfl (mB rfl ?_)
                      refine oO rfl (op_indexA el30 rfl rfl (by (unfold limit at *; omega)) (by (unfold limit at *; omega)) ?_)
                      refine oO rfl (lO sh3 rfl (by exact H.own0) rfl ?_)
                      refine oO rfl (op_gtr rfl rfl (fun h => ?_) (fun h => ?_))
                      · refine oO rfl (k0B rfl rfl ?_)
                        refine oO rfl (mB rfl ?_)
                        refine oF rfl ?_
                        refine oF rfl ?_
                        refine oF rfl ?_
                        refine oO rfl (op_pick1C rfl ?_)
                        refine oO rfl (mB rfl ?_)
                        refine oF rfl ?_
                        refine oF rfl ?_
                        refine oF rfl ?_
                        refine oO rfl (op_pick1C rfl ?_)
                        refine oO rfl (mB rfl ?_)
                        refine oF rfl ?_
                        refine oF rfl ?_
                        refine oF rfl ?_
                        refine oF rfl ?_
                        refine oF rfl ?_
                        refine oO rfl (op_pick1C rfl ?_)
                        refine ops_nil ?_
                        refine cT rfl ?_
                        refine cR ?_
                        refine oO rfl (aC ?_)
                        refine ops_nil ?_
                        refine cw_ret ?_
                        refine blk_ret ?_
                        refine seq_ret ?_
                        refine loop_ret ?_
                        refine blk_ret ?_
                        refine seq_ret ?_
                        refine ret_end ?_
                        refine end_t ?_
                        refine ⟨congrArg (Value.int .i64) ?_, H.drop0.up (by omega)⟩
                        unfold errZ
                        rw [if_neg (by omega), if_neg (by omega), if_neg (by rw [hany]; simp), if_neg]
                        rw [hn, drop_getD (0, 0) (show i < js.length by omega), joinsB]
                        simp only [Bool.and_eq_true, Bool.not_eq_true', Bool.or_eq_false_iff, decide_eq_false_iff_not]
                        omega
                      · refine oO rfl (k0B rfl rfl ?_)
                        refine oO rfl (mB rfl ?_)
                        refine oO rfl (op_indexA el30 rfl rfl (by (unfold limit at *; omega)) (by (unfold limit at *; omega)) ?_)
                        refine oO rfl (lO sh3 rfl (by exact H.own0) rfl ?_)
                        refine oO rfl (op_lss rfl rfl (fun h => ?_) (fun h => ?_))
                        · refine oO rfl (k0B rfl rfl ?_)
                          refine oO rfl (mB rfl ?_)
                          refine oF rfl ?_
                          refine oF rfl ?_
                          refine oF rfl ?_
                          refine oO rfl (op_pick1C rfl ?_)
                          refine oO rfl (mB rfl ?_)
                          refine oF rfl ?_
                          refine oF rfl ?_
                          refine oF rfl ?_
                          refine oF rfl ?_
                          refine oF rfl ?_
                          refine oO rfl (op_pick1C rfl ?_)
                          refine ops_nil ?_
                          refine cT rfl ?_
                          refine cR ?_
                          refine oO rfl (aC ?_)
                          refine ops_nil ?_
                          refine cw_ret ?_
                          refine blk_ret ?_
                          refine seq_ret ?_
                          refine loop_ret ?_
                          refine blk_ret ?_
                          refine seq_ret ?_
                          refine ret_end ?_
                          refine end_t ?_
                          refine ⟨congrArg (Value.int .i64) ?_, H.drop0.up (by omega)⟩
                          unfold errZ
                          rw [if_neg (by omega), if_neg (by omega), if_neg (by rw [hany]; simp), if_neg]
                          rw [hn, drop_getD (0, 0) (show i < js.length by omega), joinsB]
                          simp only [Bool.and_eq_true, Bool.not_eq_true', Bool.or_eq_false_iff, decide_eq_false_iff_not]
                          omega
                        · refine oO rfl (k0B rfl rfl ?_)
                          refine oO rfl (mB rfl ?_)
                          refine oO rfl (op_indexA el30 rfl rfl (by (unfold limit at *; omega)) (by (unfold limit at *; omega)) ?_)
                          refine oO rfl (lO sh3 rfl (by exact H.own0) rfl ?_)
                          refine oO rfl (op_gtr rfl rfl (fun h => ?_) (fun h => ?_))
                          · refine oO rfl (k0B rfl rfl ?_)
                            refine oO rfl (mB rfl ?_)
                            refine oF rfl ?_
                            refine oF rfl ?_
                            refine oF rfl ?_
                            refine oF rfl ?_
                            refine oF rfl ?_
                            refine oO rfl (op_pick1C rfl ?_)
                            refine ops_nil ?_
                            refine cT rfl ?_
                            refine cR ?_
                            refine oO rfl (aC ?_)
                            refine ops_nil ?_
                            refine cw_ret ?_
                            refine blk_ret ?_
                            refine seq_ret ?_
                            refine loop_ret ?_
                            refine blk_ret ?_
                            refine seq_ret ?_
                            refine ret_end ?_
                            refine end_t ?_
                            refine ⟨congrArg (Value.int .i64) ?_, H.drop0.up (by omega)⟩
                            unfold errZ
                            rw [if_neg (by omega), if_neg (by omega), if_neg (by rw [hany]; simp), if_neg]
                            rw [hn, drop_getD (0, 0) (show i < js.length by omega), joinsB]
                            simp only [Bool.and_eq_true, Bool.not_eq_true', Bool.or_eq_false_iff, decide_eq_false_iff_not]
                            omega
                          · refine oO rfl (k0B rfl rfl ?_)
                            refine oO rfl (mB rfl ?_)
                            refine oO rfl (op_indexA el30 rfl rfl (by (unfold limit at *; omega)) (by (unfold limit at *; omega)) ?_)
                            refine oO rfl (lO sh3 rfl (by exact H.own0) rfl ?_)
                            refine oO rfl (op_indexA el30 rfl rfl (by (unfold limit at *; omega)) (by (unfold limit at *; omega)) ?_)
                            refine oO rfl (lO sh3 rfl (by exact H.own0) rfl ?_)
                            refine oO rfl (op_eql rfl rfl (fun h => ?_) (fun h => ?_))
                            · refine oO rfl (k0B rfl rfl ?_)
                              refine ops_nil ?_
                              refine cT rfl ?_
                              refine cR ?_
                              refine oO rfl (aC ?_)
                              refine ops_nil ?_
                              refine cw_ret ?_
                              refine blk_ret ?_
                              refine seq_ret ?_
                              refine loop_ret ?_
                              refine blk_ret ?_
                              refine seq_ret ?_
                              refine ret_end ?_
                              refine end_t ?_
                              refine ⟨congrArg (Value.int .i64) ?_, H.drop0.up (by omega)⟩
                              unfold errZ
                              rw [if_neg (by omega), if_neg (by omega), if_neg (by rw [hany]; simp), if_neg]
                              rw [hn, drop_getD (0, 0) (show i < js.length by omega), joinsB]
                              simp only [Bool.and_eq_true, Bool.not_eq_true', Bool.or_eq_false_iff, decide_eq_false_iff_not]
                              omega
                            · refine oO rfl (k0B rfl rfl ?_)
                              refine ops_nil ?_
                              refine cE rfl ?_
                              refine cw_skip ?_
                              refine blk_norm ?_
                              refine sN ?_
                              refine cG ?_
                              refine oO rfl (mI rfl ?_)
                              refine oO rfl (op_add rfl rfl (by unfold In64; (unfold limit at *; omega)) ?_)
                              refine oO rfl (aI rfl ?_)
                              refine ops_nil ?_
                              refine loop_norm ?_
                              refine ⟨js.length - (i + 1), by omega, _, i + 1, slots ⟨rfl, rfl, trivial⟩, H.drop0.up (by omega), by omega, rfl, ?_⟩
                              rw [hn, drop_getD (0, 0) (show i < js.length by omega), joinsB]
                              simp only [Bool.and_eq_right_iff_imp, Bool.not_eq_true', Bool.or_eq_false_iff, decide_eq_false_iff_not]
                              intro _
                              omega
                  · refine ops_nil ?_
                    refine cE rfl ?_
                    refine cw_exit ?_
                    refine seq_exit ?_
                    refine loop_exit ?_
                    refine blk_here ?_
                    refine sN ?_
                    refine cR ?_
                    refine oO rfl (aC ?_)
                    refine ops_nil ?_
                    refine cw_ret ?_
                    refine ret_end ?_
                    refine end_t ?_
                    refine ⟨congrArg (Value.int .i64) ?_, H.up (by omega)⟩
                    unfold errZ
                    rw [if_neg (by omega), if_neg (by omega), if_neg (by rw [hany]; simp), hn, List.drop_eq_nil_of_le (by omega)]
                    rfl
                · exact ⟨_, 0, slots ⟨rfl, rfl, trivial⟩, H.up (by omega), by omega, by omega, rfl⟩
            · exact ⟨_, 0, slots ⟨rfl, rfl, rfl, trivial⟩, H, by omega, by omega, rfl⟩

set_option maxHeartbeats 4000000 in
set_option maxRecDepth 10000 in
theorem atR_ok {I : Table} (hI : Plain I) {s : St} (hf : Fine s) {a1 a2 : Option Addr} {c1 c2 : Nat} {ks ns : List Int} {x : Int} (h1 : Sl s 23 1 (.slice a1 ks.length c1) (ks.map dc)) (h2 : Sl s 3 1 (.slice a2 ns.length c2) (ns.map dc)) (hlen : ks.length ≤ 1000000) (hroom : s.next + 1 ≤ limit) :
    ∃ v' s', Rets Tryz.prog I 46 #[.agg ⟨[.slice a1 ks.length c1, .slice a2 ns.length c2]⟩, .int .i64 x] s v' s' ∧ (v' = .int .i64 (atP ks ns x) ∧ HL [] s s' [] 1) := by
  have H := hf.hl
  refine call_of 2 (hI 46 (by decide) (by decide)) Tryz.func46 rfl fb46 rfl ?_
  refine cR ?_
  refine oO rfl (op_boxA H rfl (by omega) (fun b2 s1 H => ?_))
  refine oO rfl (aC ?_)
  refine ops_nil ?_
  refine cw_seq ?_
  refine cR ?_
  refine oO rfl (aC ?_)
  refine ops_nil ?_
  refine cw_block ?_
  refine cw_loop (fun k F s1 => ∃ (G : FF) (i : Nat), F = lay G [(1, .int .i64 x), (2, .pointer (some ⟨b2, 0, none⟩)), (5, .int .i64 (i : Int))] ∧ HL [] s s1 [(b2, .cells [.slice a1 ks.length c1, .slice a2 ns.length c2] 40)] 1 ∧ i ≤ ks.length ∧ k = ks.length - i ∧ atP ks ns x = atP (ks.drop i) (ns.drop i) x) ?_ ks.length _ _ ?_
  · rintro k F s1 ⟨G, i, rfl, H, hi, rfl, hn⟩
    refine cw_seq ?_
    refine cR ?_
    refine oO rfl (mI rfl ?_)
    refine oO rfl (fA of40_0 rfl ?_)
    refine oO rfl (lO sh31 rfl (by exact H.own0) rfl ?_)
    refine oO rfl (op_len un31 rfl rfl rfl ?_)
    refine oO rfl (op_lss rfl rfl (fun h => ?_) (fun h => ?_))
    · refine oO rfl (mB rfl ?_)
      refine oO rfl (mI rfl ?_)
      refine oO rfl (fA of40_1 rfl ?_)
      refine oO rfl (lO sh22 rfl (by exact H.own0) rfl ?_)
      refine oO rfl (op_len un22 rfl rfl rfl ?_)
      refine oO rfl (op_lss rfl rfl (fun h => ?_) (fun h => ?_))
      · refine oO rfl (k1B rfl rfl ?_)
        refine ops_nil ?_
        refine cT rfl ?_
        refine cw_skip ?_
        refine sN ?_
        refine cw_seq ?_
        refine cw_block ?_
        refine cR ?_
        refine oO rfl (fA of40_0 rfl ?_)
        refine oO rfl (lO sh31 rfl (by exact H.own0) rfl ?_)
        refine oO rfl (mI rfl ?_)
        obtain ⟨b, off, c, rfl, hg, hb, hc⟩ := (h1.kept H).atD (i := (i : Int)) (k := i) rfl (by omega)
        have hst : atP (ks.drop i) (ns.drop i) x = if ks.getD i 0 = x then ns.getD i 0 else atP (ks.drop (i + 1)) (ns.drop (i + 1)) x := by rw [drop_getD 0 (show i < ks.length by omega), drop_getD 0 (show i < ns.length by omega), atP]
        refine oO rfl (op_indexS el31 rfl rfl (by omega) (by omega) ?_)
        refine oO rfl (lO sh23 rfl hg hc ?_)
        refine oO rfl (mI rfl ?_)
        refine oO rfl (op_eql rfl rfl (fun h => ?_) (fun h => ?_))
        · refine ops_nil ?_
          refine cT rfl ?_
          refine cR ?_
          refine oO rfl (fA of40_1 rfl ?_)
          refine oO rfl (lO sh22 rfl (by exact H.own0) rfl ?_)
          refine oO rfl (mI rfl ?_)
          obtain ⟨e2, off2, cc2, rfl, hg2, hb2, hc2⟩ := (h2.kept H).atD (i := (i : Int)) (k := i) rfl (by omega)
          refine oO rfl (op_indexS el22 rfl rfl (by omega) (by omega) ?_)
          refine oO rfl (lO sh3 rfl hg2 hc2 ?_)
          refine oO rfl (aI rfl ?_)
          refine ops_nil ?_
          refine cw_ret ?_
          refine blk_ret ?_
          refine seq_ret ?_
          refine loop_ret ?_
          refine blk_ret ?_
          refine seq_ret ?_
          refine ret_end ?_
          refine end_t ?_
          refine ⟨congrArg (Value.int .i64) ?_, H.drop0⟩
          rw [hn, hst, if_pos (by assumption)]
        · refine ops_nil ?_
          refine cE rfl ?_
          refine cw_skip ?_
          refine blk_norm ?_
          refine sN ?_
          refine cG ?_
          refine oO rfl (mI rfl ?_)
          refine oO rfl (op_add rfl rfl (by unfold In64; omega) ?_)
          refine oO rfl (aI rfl ?_)
          refine ops_nil ?_
          refine loop_norm ?_
          refine ⟨ks.length - (i + 1), by omega, _, i + 1, slots ⟨rfl, rfl, rfl, trivial⟩, H, by omega, rfl, ?_⟩
          rw [hn, hst, if_neg (by assumption)]
      · refine oO rfl (k1B rfl rfl ?_)
        refine ops_nil ?_
        refine cE rfl ?_
        refine cw_exit ?_
        refine seq_exit ?_
        refine loop_exit ?_
        refine blk_here ?_
        refine sN ?_
        refine cR ?_
        refine oO rfl (aC ?_)
        refine ops_nil ?_
        refine cw_ret ?_
        refine ret_end ?_
        refine end_t ?_
        refine ⟨congrArg (Value.int .i64) ?_, H.drop0⟩
        rw [hn]
        (rw [List.drop_eq_nil_of_le (show ns.length ≤ i by omega)]; cases ks.drop i <;> rfl)
    · refine oO rfl (mB rfl ?_)
      refine oF rfl ?_
      refine oF rfl ?_
      refine oF rfl ?_
      refine oF rfl ?_
      refine oF rfl ?_
      refine oO rfl (op_pick0C rfl ?_)
      refine ops_nil ?_
      refine cE rfl ?_
      refine cw_exit ?_
      refine seq_exit ?_
      refine loop_exit ?_
      refine blk_here ?_
      refine sN ?_
      refine cR ?_
      refine oO rfl (aC ?_)
      refine ops_nil ?_
      refine cw_ret ?_
      refine ret_end ?_
      refine end_t ?_
      refine ⟨congrArg (Value.int .i64) ?_, H.drop0⟩
      rw [hn]
      (rw [List.drop_eq_nil_of_le (show ks.length ≤ i by omega)]; rfl)
  · exact ⟨_, 0, slots ⟨rfl, rfl, rfl, trivial⟩, H, by omega, by omega, rfl⟩

end Go.Proofs.YtdejleegamcioaaGreat
namespace Go.Proofs.YtdejleegamcioaaGreat
open Go Go.M

theorem fb54 : funcB Tryz.f54 (Tryz.f54.body.getD .skip) 4 = true := by kernel_rfl
theorem fc36 : funcF Tryz.prog 36 = true := by kernel_rfl
theorem fc55 : funcF Tryz.prog 55 = true := by kernel_rfl
theorem fc92 : funcF Tryz.prog 92 = true := by kernel_rfl
theorem fc93 : funcF Tryz.prog 93 = true := by kernel_rfl

theorem rch_len {js : List (Int × Int)} {bad : Int} {may : List Sp} (hm : MayOK may) {w : Int} (h0 : 0 < w) (h1 : w < 65536) {out : List Int} (hi : Inc out) (hr : ∀ x ∈ out, Rch js bad may w x) : out.length ≤ 65535 :=
  nodup_len 65535 out hi.nodup fun x hx => by have := (hr x hx).range hm h0; omega
theorem clo_take {js : List (Int × Int)} {bad : Int} {may : List Sp} {out : List Int} {i : Nat} (hi : i < may.length) (h : Clo js bad (may.take i) out)
    (hm : (may.getD i default).w ∈ out → needsB (may.getD i default).w bad 0 js = true → (may.getD i default).p ∈ out ∧ andNotI (may.getD i default).w (may.getD i default).p ∈ out) : Clo js bad (may.take (i + 1)) out := by
  intro m hmm hw hn
  rcases mem_take_succ hi hmm with hmm | hmm
  · exact h m hmm hw hn
  · subst hmm; exact hm hw hn
theorem two_adds {l : List Int} {p q : Int} (h : Inc l) : l.length ≤ (addZ (addZ l p) q).length ∧ (addZ (addZ l p) q).length ≤ l.length + 2 ∧ ((addZ (addZ l p) q).length ≤ l.length → p ∈ l ∧ q ∈ l) := by
  have h1 := addZ_len (x := p) h
  have h2 := addZ_len (x := q) (addZ_inc (x := p) h)
  refine ⟨by omega, by omega, fun h3 => ?_⟩
  have hp := h1.2.2 (by omega)
  have hq := h2.2.2 (by omega)
  rw [addZ_old h hp] at hq
  exact ⟨hp, hq⟩
theorem sub_clo {js : List (Int × Int)} {bad : Int} {l : List Sp} {out out' : List Int} (h : Clo js bad l out) (e : ∀ x, x ∈ out ↔ x ∈ out') : Clo js bad l out' := fun m hm hw hn => by
  have := h m hm ((e _).mpr hw) hn
  exact ⟨(e _).mp this.1, (e _).mp this.2⟩

set_option maxHeartbeats 4000000 in
set_option maxRecDepth 10000 in
theorem reached_ok {I : Table} (hI : Plain I) {s : St} (hf : Fine s) {w bad : Int} {vj vm : Value} {js : List (Int × Int)} {may : List Sp} (hJ : Sl s 30 2 vj (js.map jc)) (hM : Sl s 62 10 vm (may.map Sp.cells)) (hj : ∀ j ∈ js, joinB j) (hjl : js.length ≤ 16) (hm : MayOK may) (hml : may.length ≤ 15) (hw0 : 0 < w) (hw1 : w < 65536) (hroom : s.next + 1031020300000 ≤ limit) :
    ∃ v' s', Rets Tryz.prog I 54 #[.int .i64 w, vj, .int .i64 bad, vm] s v' s' ∧ (∃ (D : Hp') (so : Slc) (ks : List Int), v' = so.v ∧ HL [] s s' D 1031020300000 ∧ SlG D 23 1 so.v (ks.map dc) ∧ Inc ks ∧ (∀ k, k ∈ ks ↔ Rch js bad may w k)) := by
  have H := hf.hl
  obtain ⟨ja, jn, jcp, rfl, hjn⟩ := hJ.isSlice
  rw [List.length_map] at hjn
  subst hjn
  obtain ⟨ma, mn, mcp, rfl, hmn⟩ := hM.isSlice
  rw [List.length_map] at hmn
  subst hmn
  refine call_of 4 (hI 54 (by decide) (by decide)) Tryz.func54 rfl fb54 rfl ?_
  refine cR ?_
  refine oO rfl (aC ?_)
  refine ops_nil ?_
  refine cR ?_
  refine oO rfl (mI rfl ?_)
  refine oO rfl (op_buildSlice (c := [.int _ _]) H sl31 rfl rfl (by omega) (fun b15 s1 H => ?_))
  refine oO rfl (aS rfl ?_)
  refine ops_nil ?_
  refine cR ?_
  refine oO rfl (aC ?_)
  refine ops_nil ?_
  refine cw_seq ?_
  refine cw_block ?_
  refine cw_loop (fun k F s1 => ∃ (G : FF) (r : Nat) (D1 : Hp') (so : Slc) (out : List Int) (ch : Bool), F = lay G [(0, .int .i64 w), (1, .slice ja js.length jcp), (2, .int .i64 bad), (3, .slice ma may.length mcp), (9, so.v), (10, .bool ch)] ∧ HL [] s s1 D1 (1 + 7866000 * r) ∧ SlG D1 23 1 so.v (out.map dc) ∧ Inc out ∧ w ∈ out ∧ (∀ x ∈ out, Rch js bad may w x) ∧ (ch = false → Clo js bad may out) ∧ r + k ≤ 131073 ∧ k = 2 * (65536 - out.length) + cond ch 1 0) ?_ 131071 _ _ ?_
  · rintro k F s1 ⟨G, r, D1, so, out, ch, rfl, H, hG, hinc, hw, hrc, hcl, hrk, rfl⟩
    obtain ⟨soa, son, soc⟩ := so
    have hsn := hG.slc
    rw [List.length_map] at hsn
    simp only at hsn
    subst hsn
    have hol := rch_len hm hw0 hw1 hinc hrc
    refine cw_seq ?_
    cases ch
    · refine cR ?_
      refine oO rfl (mB rfl ?_)
      refine ops_nil ?_
      refine cE rfl ?_
      refine cw_exit ?_
      refine seq_exit ?_
      refine loop_exit ?_
      refine blk_here ?_
      refine sN ?_
      refine cR ?_
      refine oO rfl (mS rfl ?_)
      refine oO rfl (aS rfl ?_)
      refine ops_nil ?_
      refine cw_ret ?_
      refine ret_end ?_
      refine end_t ?_
      refine ⟨D1, ⟨soa, out.length, soc⟩, out, rfl, H.up (by omega), hG, hinc, fun x => ⟨hrc x, fun hx => (hcl rfl).all hw hx⟩⟩
    · refine cR ?_
      refine oO rfl (mB rfl ?_)
      refine ops_nil ?_
      refine cT rfl ?_
      refine cw_skip ?_
      refine sN ?_
      refine cw_block ?_
      refine cR ?_
      refine oO rfl (aC ?_)
      refine ops_nil ?_
      obtain ⟨n0, hn0⟩ : ∃ n0, n0 = out.length := ⟨_, rfl⟩
      obtain ⟨N0, hN0⟩ : ∃ N0, N0 = 1 + 7866000 * r := ⟨_, rfl⟩
      rw [← hN0] at H
      simp only [cond_true] at hrk
      refine cR ?_
      refine oO rfl (aC ?_)
      refine ops_nil ?_
      refine cw_block ?_
      refine cw_loop (fun k F s1 => ∃ (G : FF) (i : Nat) (D1 : Hp') (so : Slc) (out : List Int) (c : Bool), F = lay G [(0, .int .i64 w), (1, .slice ja js.length jcp), (2, .int .i64 bad), (3, .slice ma may.length mcp), (9, so.v), (10, .bool c), (11, .int .i64 (i : Int))] ∧ HL [] s s1 D1 (N0 + 524400 * i) ∧ SlG D1 23 1 so.v (out.map dc) ∧ Inc out ∧ w ∈ out ∧ (∀ x ∈ out, Rch js bad may w x) ∧ n0 ≤ out.length ∧ (c = true → n0 < out.length) ∧ (c = false → Clo js bad (may.take i) out) ∧ i ≤ may.length ∧ k = may.length - i) ?_ may.length _ _ ?_
      · rintro k F s1 ⟨G, i, D1, so, out, c, rfl, H, hG, hinc, hw, hrc, hn1, hct, hcf, hi, rfl⟩
        obtain ⟨soa, son, soc⟩ := so
        have hsn := hG.slc
        rw [List.length_map] at hsn
        simp only at hsn
        subst hsn
        have hol := rch_len hm hw0 hw1 hinc hrc
        refine cw_seq ?_
        refine cR ?_
        refine oO rfl (mI rfl ?_)
        refine oO rfl (mS rfl ?_)
        refine oO rfl (op_len un25 rfl rfl rfl ?_)
        refine oO rfl (op_lss rfl rfl (fun h => ?_) (fun h => ?_))
        · refine ops_nil ?_
          refine cT rfl ?_
          refine cw_skip ?_
          refine sN ?_
          refine cw_seq ?_
          refine cw_block ?_
          refine cR ?_
          refine oO rfl (mS rfl ?_)
          refine oO rfl (mI rfl ?_)
          obtain ⟨bm, ofm, cmm, rfl, hgm, hbm, hcm⟩ := (hM.kept H).atS rfl (show i < may.length by omega)
          refine oO rfl (op_indexS el25 rfl rfl (by omega) (by omega) ?_)
          refine oO rfl (lN sh62 rfl hgm hcm ?_)
          refine oO rfl (op_alloc H zf62 (by omega) (fun b12 s2 H => ?_))
          refine oO rfl (op_store0 (vs := [.int _ _, .int _ _, .bool _, .slice _ _ _, .bool _, .slice _ _ _, .bool _, .slice _ _ _, .bool _, .slice _ _ _]) H sz62 rfl rfl rfl rfl rfl (by omega) (fun s3 H => ?_))
          refine ops_nil ?_
          refine cw_seq ?_
          refine cR ?_
          refine oO rfl (mS rfl ?_)
          refine oO rfl (fA of62_0 rfl ?_)
          refine oO rfl (lO sh23 rfl (by exact H.own0) rfl ?_)
          refine oO rfl (oC rfl fc92 rfl ?_)
          obtain ⟨_, _, hr, rfl, rfl⟩ := hasL_ok (x := (may.getD i default).w) hI (hG.sl H (by intro p hp; (try simp only [List.mem_cons, List.mem_append, List.not_mem_nil, or_false] at hp ⊢); first | exact hp | simp only [hp, true_or, or_true])) (by omega)
          refine ⟨_, _, hr, ?_⟩
          clear hr
          cases hh : decide ((may.getD i default).w ∈ out)
          · refine oO rfl (op_not rfl ?_)
            refine oO rfl (mB rfl ?_)
            refine oF rfl ?_
            refine oF rfl ?_
            refine oF rfl ?_
            refine oF rfl ?_
            refine oF rfl ?_
            refine oF rfl ?_
            refine oO rfl (op_pick1C rfl ?_)
            refine ops_nil ?_
            refine cT rfl ?_
            refine cw_exit ?_
            refine seq_exit ?_
            refine blk_here ?_
            refine sN ?_
            refine cG ?_
            refine oO rfl (mI rfl ?_)
            refine oO rfl (op_add rfl rfl (by unfold In64; omega) ?_)
            refine oO rfl (aI rfl ?_)
            refine ops_nil ?_
            refine loop_norm ?_
            refine ⟨may.length - (i + 1), by omega, _, i + 1, D1, ⟨soa, out.length, soc⟩, out, c, slots ⟨rfl, rfl, rfl, rfl, rfl, rfl, rfl, trivial⟩, (H.drop0).up (by omega), hG, hinc, hw, hrc, hn1, hct, (fun hc => clo_take (by omega) (hcf hc) (fun h1 h2 => ?_)), by omega, rfl⟩
            (exact absurd h1 (of_decide_eq_false hh))
          · refine oO rfl (op_not rfl ?_)
            refine oO rfl (mB rfl ?_)
            refine oO rfl (fA of62_0 rfl ?_)
            refine oO rfl (lO sh23 rfl (by exact H.own0) rfl ?_)
            refine oO rfl (mS rfl ?_)
            refine oO rfl (mI rfl ?_)
            refine oO rfl (oC rfl fc55 rfl ?_)
            obtain ⟨_, _, hr, rfl, rfl⟩ := needsR_ok (x := (may.getD i default).w) (bad := bad) hI (hJ.kept H) hj hjl
            refine ⟨_, _, hr, ?_⟩
            clear hr
            cases hnd : needsB (may.getD i default).w bad 0 js
            · refine oO rfl (op_not rfl ?_)
              refine oO rfl (k0B rfl rfl ?_)
              refine ops_nil ?_
              refine cT rfl ?_
              refine cw_exit ?_
              refine seq_exit ?_
              refine blk_here ?_
              refine sN ?_
              refine cG ?_
              refine oO rfl (mI rfl ?_)
              refine oO rfl (op_add rfl rfl (by unfold In64; omega) ?_)
              refine oO rfl (aI rfl ?_)
              refine ops_nil ?_
              refine loop_norm ?_
              refine ⟨may.length - (i + 1), by omega, _, i + 1, D1, ⟨soa, out.length, soc⟩, out, c, slots ⟨rfl, rfl, rfl, rfl, rfl, rfl, rfl, trivial⟩, (H.drop0).up (by omega), hG, hinc, hw, hrc, hn1, hct, (fun hc => clo_take (by omega) (hcf hc) (fun h1 h2 => ?_)), by omega, rfl⟩
              (rw [hnd] at h2; cases h2)
            · refine oO rfl (op_not rfl ?_)
              refine oO rfl (k0B rfl rfl ?_)
              refine ops_nil ?_
              refine cE rfl ?_
              refine cw_skip ?_
              refine sN ?_
              refine cR ?_
              refine oO rfl (mS rfl ?_)
              refine oO rfl (op_len un31 rfl rfl rfl ?_)
              refine oO rfl (aI rfl ?_)
              refine ops_nil ?_
              have h2a := two_adds (p := (may.getD i default).p) (q := (andNotI (may.getD i default).w (may.getD i default).p)) hinc
              have h1a := addZ_len (x := (may.getD i default).p) hinc
              refine cw_dseq [⟨0, 0, .light, [2, 4]⟩, ⟨1, 0, .light, [4]⟩, ⟨2, 2, .light, [4]⟩, ⟨4, 0, .light, [2]⟩, ⟨3, 7, .whole, [4]⟩, ⟨5, 31, .whole, []⟩, ⟨6, 63, .whole, []⟩, ⟨7, 127, .light, []⟩] (by kernel_rfl) (by kernel_rfl) ?_
              refine dL rfl rfl (mS rfl ⟨rfl, ?_⟩)
              refine dL rfl rfl (fA of62_1 rfl ⟨rfl, ?_⟩)
              refine dr_load1 rfl rfl sh23 rfl (by exact H.own0) (by exact H.lim0 (by omega)) rfl ?_
              refine dr_loadN rfl rfl sh62 rfl (by exact H.own0) (by exact H.lim0 (by omega)) rfl ?_
              refine dW rfl rfl (oC rfl fc93 rfl ?_)
              obtain ⟨_, s9, hr, D2, so2, rfl, Hc, h2G⟩ := add_ok (x := (may.getD i default).p) hI (Fine.narrow (X := [b12]) H.fine (by intro p hp; rw [List.mem_singleton] at hp; subst hp; exact H.lt0)) (Sl.prot (X := [b12]) (hG.sl H (by intro p hp; (try simp only [List.mem_cons, List.mem_append, List.not_mem_nil, or_false] at hp ⊢); first | exact hp | simp only [hp, true_or, or_true]))) (by omega) (by have hmo := H.most; (try simp only at hmo); show _ + _ ≤ _; (try simp only); omega)
              refine ⟨_, _, hr, ?_⟩
              clear hr
              have H := H.callE (HL.wider H.fine (Nat.le_refl _) (fun _ h => List.mem_append_right _ h) Hc)
              clear Hc
              try simp only [List.cons_append, List.nil_append, List.append_assoc] at H
              obtain ⟨so2a, so2n, so2c⟩ := so2
              have hsn := h2G.slc
              rw [List.length_map] at hsn
              simp only at hsn
              subst hsn
              refine dW rfl rfl (oC rfl fc36 rfl ?_)
              obtain ⟨_, s9, hr, rfl, Hc⟩ := rest_ok (x := (may.getD i default)) hI H.fine (by have := H.most; omega)
              refine ⟨_, _, hr, ?_⟩
              clear hr
              have H := H.call0 (HL.wider H.fine (Nat.le_refl _) (fun _ h => h) Hc)
              clear Hc
              refine dW rfl rfl (oC rfl fc93 rfl ?_)
              obtain ⟨_, s9, hr, D3, so3, rfl, Hc, h3G⟩ := add_ok (x := (andNotI (may.getD i default).w (may.getD i default).p)) hI H.fine (h2G.sl H (by intro p hp; (try simp only [List.mem_cons, List.mem_append, List.not_mem_nil, or_false] at hp ⊢); first | exact hp | simp only [hp, true_or, or_true])) (by omega) (by have hmo := H.most; (try simp only at hmo); show _ + _ ≤ _; (try simp only); omega)
              refine ⟨_, _, hr, ?_⟩
              clear hr
              have H := H.callE (HL.wider H.fine (Nat.le_refl _) (fun _ h => h) Hc)
              clear Hc
              try simp only [List.cons_append, List.nil_append, List.append_assoc] at H
              obtain ⟨so3a, so3n, so3c⟩ := so3
              have hsn := h3G.slc
              rw [List.length_map] at hsn
              simp only at hsn
              subst hsn
              refine dL rfl rfl (aS rfl ⟨rfl, ?_⟩)
              refine draw_nil ?_
              cases c
              · refine cG ?_
                refine oO rfl (mB rfl ?_)
                refine oO rfl (mB rfl ?_)
                refine oO rfl (mS rfl ?_)
                refine oO rfl (op_len un31 rfl rfl rfl ?_)
                refine oO rfl (mI rfl ?_)
                refine oO rfl (op_gtr rfl rfl (fun h => ?_) (fun h => ?_))
                · refine oO rfl (k0B rfl rfl ?_)
                  refine oO rfl (aB rfl ?_)
                  refine ops_nil ?_
                  refine blk_norm ?_
                  refine sN ?_
                  refine cG ?_
                  refine oO rfl (mI rfl ?_)
                  refine oO rfl (op_add rfl rfl (by unfold In64; omega) ?_)
                  refine oO rfl (aI rfl ?_)
                  refine ops_nil ?_
                  refine loop_norm ?_
                  try simp only at h
                  refine ⟨may.length - (i + 1), by omega, _, i + 1, D3, ⟨so3a, (addZ (addZ out (may.getD i default).p) (andNotI (may.getD i default).w (may.getD i default).p)).length, so3c⟩, (addZ (addZ out (may.getD i default).p) (andNotI (may.getD i default).w (may.getD i default).p)), true, slots ⟨rfl, rfl, rfl, rfl, rfl, rfl, rfl, trivial⟩, (H.sub (L' := D3) (.cons _ ((List.sublist_append_right D2 D3).trans (List.sublist_append_right D1 _)))).up (by omega), h3G, addZ_inc (addZ_inc hinc), mem_addZ.mpr (.inl (mem_addZ.mpr (.inl hw))), ?_, by omega, ?_, ?_, by omega, rfl⟩
                  · intro x hx
                    rcases mem_addZ.mp hx with hx | hx
                    · rcases mem_addZ.mp hx with hx | hx
                      · exact hrc x hx
                      · rw [hx]
                        exact Rch.part (hrc _ (of_decide_eq_true hh)) hnd (getD_mem (by omega)) rfl
                    · rw [hx]
                      exact Rch.rest (hrc _ (of_decide_eq_true hh)) hnd (getD_mem (by omega)) rfl
                  · intro _
                    omega
                  · intro hc
                    cases hc
                · refine oO rfl (k0B rfl rfl ?_)
                  refine oO rfl (aB rfl ?_)
                  refine ops_nil ?_
                  refine blk_norm ?_
                  refine sN ?_
                  refine cG ?_
                  refine oO rfl (mI rfl ?_)
                  refine oO rfl (op_add rfl rfl (by unfold In64; omega) ?_)
                  refine oO rfl (aI rfl ?_)
                  refine ops_nil ?_
                  refine loop_norm ?_
                  try simp only at h
                  refine ⟨may.length - (i + 1), by omega, _, i + 1, D3, ⟨so3a, (addZ (addZ out (may.getD i default).p) (andNotI (may.getD i default).w (may.getD i default).p)).length, so3c⟩, (addZ (addZ out (may.getD i default).p) (andNotI (may.getD i default).w (may.getD i default).p)), false, slots ⟨rfl, rfl, rfl, rfl, rfl, rfl, rfl, trivial⟩, (H.sub (L' := D3) (.cons _ ((List.sublist_append_right D2 D3).trans (List.sublist_append_right D1 _)))).up (by omega), h3G, addZ_inc (addZ_inc hinc), mem_addZ.mpr (.inl (mem_addZ.mpr (.inl hw))), ?_, by omega, ?_, ?_, by omega, rfl⟩
                  · intro x hx
                    rcases mem_addZ.mp hx with hx | hx
                    · rcases mem_addZ.mp hx with hx | hx
                      · exact hrc x hx
                      · rw [hx]
                        exact Rch.part (hrc _ (of_decide_eq_true hh)) hnd (getD_mem (by omega)) rfl
                    · rw [hx]
                      exact Rch.rest (hrc _ (of_decide_eq_true hh)) hnd (getD_mem (by omega)) rfl
                  · intro hc
                    cases hc
                  · intro _
                    obtain ⟨hp, hq⟩ := h2a.2.2 (by omega)
                    have he : (addZ (addZ out (may.getD i default).p) (andNotI (may.getD i default).w (may.getD i default).p)) = out := by rw [addZ_old hinc hp, addZ_old hinc hq]
                    rw [he]
                    exact clo_take (by omega) (hcf rfl) (fun _ _ => ⟨hp, hq⟩)
              · refine cG ?_
                refine oO rfl (mB rfl ?_)
                refine oO rfl (mB rfl ?_)
                refine oF rfl ?_
                refine oF rfl ?_
                refine oF rfl ?_
                refine oF rfl ?_
                refine oO rfl (op_pick1C rfl ?_)
                refine oO rfl (aB rfl ?_)
                refine ops_nil ?_
                refine blk_norm ?_
                refine sN ?_
                refine cG ?_
                refine oO rfl (mI rfl ?_)
                refine oO rfl (op_add rfl rfl (by unfold In64; omega) ?_)
                refine oO rfl (aI rfl ?_)
                refine ops_nil ?_
                refine loop_norm ?_
                try simp only at h
                refine ⟨may.length - (i + 1), by omega, _, i + 1, D3, ⟨so3a, (addZ (addZ out (may.getD i default).p) (andNotI (may.getD i default).w (may.getD i default).p)).length, so3c⟩, (addZ (addZ out (may.getD i default).p) (andNotI (may.getD i default).w (may.getD i default).p)), true, slots ⟨rfl, rfl, rfl, rfl, rfl, rfl, rfl, trivial⟩, (H.sub (L' := D3) (.cons _ ((List.sublist_append_right D2 D3).trans (List.sublist_append_right D1 _)))).up (by omega), h3G, addZ_inc (addZ_inc hinc), mem_addZ.mpr (.inl (mem_addZ.mpr (.inl hw))), ?_, by omega, ?_, ?_, by omega, rfl⟩
                · intro x hx
                  rcases mem_addZ.mp hx with hx | hx
                  · rcases mem_addZ.mp hx with hx | hx
                    · exact hrc x hx
                    · rw [hx]
                      exact Rch.part (hrc _ (of_decide_eq_true hh)) hnd (getD_mem (by omega)) rfl
                  · rw [hx]
                    exact Rch.rest (hrc _ (of_decide_eq_true hh)) hnd (getD_mem (by omega)) rfl
                · intro _
                  (have := hct rfl; omega)
                · intro hc
                  cases hc
        · refine ops_nil ?_
          refine cE rfl ?_
          refine cw_exit ?_
          refine seq_exit ?_
          refine loop_exit ?_
          refine blk_here ?_
          refine blk_norm ?_
          refine loop_norm ?_
          refine ⟨2 * (65536 - out.length) + cond c 1 0, ?_, _, r + 1, D1, ⟨soa, out.length, soc⟩, out, c, slots ⟨rfl, rfl, rfl, rfl, rfl, rfl, trivial⟩, H.up (by omega), hG, hinc, hw, hrc, (fun hc => by have := hcf hc; rw [List.take_of_length_le (by omega)] at this; exact this), ?_, rfl⟩
          · cases c
            · simp only [cond_true, cond_false]; omega
            · have := hct rfl; simp only [cond_true]; omega
          · cases c
            · simp only [cond_true, cond_false] at hrk ⊢; omega
            · have := hct rfl; simp only [cond_true] at hrk ⊢; omega
      · refine ⟨_, 0, D1, ⟨soa, out.length, soc⟩, out, false, slots ⟨rfl, rfl, rfl, rfl, rfl, rfl, rfl, trivial⟩, H, hG, hinc, hw, hrc, by omega, (fun h => by cases h), (fun _ m hmm => by simp at hmm), by omega, by omega⟩
  · refine ⟨_, 0, [(b15, .cells [.int .i64 w] 23)], ⟨some ⟨b15, 0, none⟩, 1, 2⟩, [w], true, slots ⟨rfl, rfl, rfl, rfl, rfl, rfl, trivial⟩, H, SlG.block b15 0 2 [.int .i64 w] rfl (by simp) (by simp) (by intro k hk; simp only [List.map_cons, List.map_nil, List.length_singleton] at hk; obtain rfl : k = 0 := (by omega); rfl), by simp, by simp, (by intro x hx; rw [List.mem_singleton] at hx; subst hx; exact .self), (fun h => by cases h), by omega, by simp⟩

end Go.Proofs.YtdejleegamcioaaGreat
