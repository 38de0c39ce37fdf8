/- Which joins splits break: the program and the reference. -/
import Derived.Test.YtdejleegamcioaaGreatM12
namespace Go.Proofs.YtdejleegamcioaaGreat
open Go Go.M

theorem fb24 : funcB Tryz.f24 (Tryz.f24.body.getD .skip) 2 = true := by kernel_rfl
theorem sl24 : sliceF Tryz.prog 24 = some (30, 2, 16, [.int .i64 0, .int .i64 0]) := by kernel_rfl
theorem sz62 : sizeF Tryz.prog 62 = some 10 := by kernel_rfl
theorem zf62 : zeroF Tryz.prog 62 = some [.int .i64 0, .int .i64 0, .bool false, .slice none 0 0, .bool false, .slice none 0 0, .bool false, .slice none 0 0, .bool false, .slice none 0 0] := by kernel_rfl

def brokenB (j : Int × Int) (x : Sp) : Bool := (decide (0 ≤ j.1) && decide (j.1 ≤ 15)) && (decide (0 ≤ j.2) && decide (j.2 ≤ 15)) && (bit x.w j.1.toNat && bit x.w j.2.toNat) && (bit x.p j.1.toNat != bit x.p j.2.toNat)
/-- The joins that splits break, from one on. -/
def brkZ (l : List Sp) : Nat → List (Int × Int) → Int
  | _, [] => 0
  | i, j :: r => (if i < 16 ∧ l.any (brokenB j) = true then 2 ^ i else 0) + brkZ l (i + 1) r
theorem brkZ_high (l : List Sp) : ∀ (r : List (Int × Int)) (i : Nat), 16 ≤ i → brkZ l i r = 0
  | [], _, _ => rfl
  | j :: r, i, h => by simp only [brkZ]; rw [if_neg (by omega), brkZ_high l r (i + 1) (by omega)]; rfl
theorem any_take_succ {l : List Sp} {p : Sp → Bool} {k : Nat} (h : k < l.length) : (l.take (k + 1)).any p = ((l.take k).any p || p (l.getD k default)) := by
  rw [List.take_succ_eq_append_getElem h, List.any_append]
  simp [List.getD_eq_getElem?_getD, List.getElem?_eq_getElem h]
theorem or_pow {o : Int} {i : Nat} (h0 : 0 ≤ o) (h1 : o < 2 ^ i) (hi : i < 16) : orI o (1 * 2 ^ ((i : Int)).toNat) = o + 2 ^ i ∧ orI (o + 2 ^ i) (1 * 2 ^ ((i : Int)).toNat) = o + 2 ^ i := by
  obtain ⟨m, rfl⟩ := Int.eq_ofNat_of_zero_le h0
  have hp : (2 : Nat) ^ i ≤ 2 ^ 15 := Nat.pow_le_pow_right (by decide) (by omega)
  have e : ((2 : Int) ^ i) = (((2 : Nat) ^ i : Nat) : Int) := by simp
  have h15 : (2 : Nat) ^ 15 = 32768 := by decide
  have hm : m < 2 ^ i := by omega
  simp only [Int.toNat_natCast, Int.one_mul]
  rw [e]
  have h2 : m ||| 2 ^ i = m + 2 ^ i := by
    have := Nat.two_pow_add_eq_or_of_lt hm 1
    rw [Nat.mul_one] at this
    rw [Nat.or_comm, ← this]; omega
  constructor
  · rw [orI_nat (by omega) (by omega), h2]; rfl
  · rw [← Int.natCast_add, orI_nat (by omega) (by omega), ← h2, Nat.or_assoc, Nat.or_self]

set_option maxHeartbeats 4000000 in
set_option maxRecDepth 10000 in
theorem brokenP_ok {I : Table} (hI : Plain I) {s : St} (hf : Fine s) {vj vl : Value} {js : List (Int × Int)} {l : List Sp} (hj : Sl s 30 2 vj (js.map jc)) (hl : Sl s 62 10 vl (l.map Sp.cells)) (hne : 0 < js.length) (hlen : l.length ≤ 4096) (hlen2 : js.length ≤ 1000) (hroom : s.next + 200000 ≤ limit) :
    ∃ v' s', Rets Tryz.prog I 24 #[vj, vl] s v' s' ∧ (v' = .int .i64 (brkZ l 0 js) ∧ HL [] s s' [] 200000) := by
  have H := hf.hl
  obtain ⟨a, len, cap, rfl, hn⟩ := hj.isSlice
  rw [List.length_map] at hn
  subst hn
  obtain ⟨a2, len2, cap2, rfl, hn2⟩ := hl.isSlice
  rw [List.length_map] at hn2
  subst hn2
  obtain ⟨bj, offj, cj, ha, hgj, hbj, hcj⟩ := hj.atJ (i := 0) (k := 0) rfl hne
  have hcap := hj.cap
  subst ha
  refine call_of 2 (hI 24 (by decide) (by decide)) Tryz.func24 rfl fb24 rfl ?_
  refine cw_rseq ?_
  refine ops_on rfl (op_assignC ?_)
  refine ops_nil ?_
  refine cw_rseq ?_
  refine ops_on rfl (op_assignC ?_)
  refine ops_nil ?_
  refine cw_seq ?_
  refine cw_rseq ?_
  first | refine ops_on rfl (op_moveS rfl ?_) | refine ops_on rfl (op_move ?_)
  first | refine ops_on rfl (op_moveS rfl ?_) | refine ops_on rfl (op_move ?_)
  refine ops_on rfl (op_len un24 rfl rfl rfl ?_)
  refine ops_on rfl (op_min rfl rfl rfl ?_)
  obtain ⟨m, hm, hmj, hm16⟩ : ∃ m : Nat, min (js.length : Int) 16 = (m : Int) ∧ m ≤ js.length ∧ (m = js.length ∨ m = 16) := ⟨min js.length 16, by omega, by omega, by omega⟩
  refine ops_on rfl (op_sliceHi sl24 rfl rfl hm hgj (by omega) ?_)
  refine ops_on rfl (op_len un24 rfl rfl rfl ?_)
  refine ops_on rfl (op_moveC ?_)
  refine ops_nil ?_
  refine cw_block ?_
  refine cw_loop (fun k F s1 => ∃ (G : FF) (i : Nat) (o : Int), F = lay G [(1, .slice a2 l.length cap2), (5, .int .i64 o), (14, .slice (some ⟨bj, offj, none⟩) m cap), (15, .int .i64 (m : Int)), (16, .int .i64 (i : Int))] ∧ HL [] s s1 [] (8193 * i) ∧ i ≤ m ∧ k = m - i ∧ brkZ l 0 js = o + brkZ l i (js.drop i) ∧ 0 ≤ o ∧ o < 2 ^ i) ?_ m _ _ ?_
  · rintro k F s1 ⟨G, i, o, rfl, H, hi, rfl, hb0, ho0, ho1⟩
    refine cw_rseq ?_
    refine ops_on rfl (op_lss rfl rfl (fun h => ?_) (fun h => ?_))
    · refine ops_nil ?_
      refine cw_seq ?_
      refine cw_then rfl ?_
      refine cw_skip ?_
      refine seq_norm ?_
      refine cw_seq ?_
      refine cw_block ?_
      refine cw_rseq ?_
      first | refine ops_on rfl (op_moveI rfl ?_) | refine ops_on rfl (op_move ?_)
      obtain ⟨b, off, c, hbo, hg, hb, hc⟩ := (hj.kept H).atJ rfl (show i < js.length by omega)
      cases hbo
      refine ops_on rfl (op_indexS el24 rfl rfl (by (unfold limit at *; omega)) (by (unfold limit at *; omega)) ?_)
      refine ops_on rfl (op_loadN sh30 rfl hg hc ?_)
      refine ops_on rfl (op_alloc H zf30 (by (unfold limit at *; omega)) (fun b7 s1 H => ?_))
      first | refine ops_on rfl (op_assignI rfl ?_) | refine ops_on rfl (op_assign ?_)
      first | refine ops_on rfl (op_store0 (vs := [.int _ _, .int _ _]) H sz30 rfl rfl rfl rfl rfl (by (unfold limit at *; omega)) (fun s2 H => ?_)) | refine ops_on rfl (op_store1 (vs := [.int _ _, .int _ _]) H sz30 rfl rfl rfl rfl rfl (by (unfold limit at *; omega)) (fun s2 H => ?_)) | refine ops_on rfl (op_store2 (vs := [.int _ _, .int _ _]) H sz30 rfl rfl rfl rfl rfl (by (unfold limit at *; omega)) (fun s2 H => ?_)) | refine ops_on rfl (op_store3 (vs := [.int _ _, .int _ _]) H sz30 rfl rfl rfl rfl rfl (by (unfold limit at *; omega)) (fun s2 H => ?_)) | refine ops_on rfl (op_store4 (vs := [.int _ _, .int _ _]) H sz30 rfl rfl rfl rfl rfl (by (unfold limit at *; omega)) (fun s2 H => ?_)) | refine ops_on rfl (op_store0 H sz30 rfl rfl rfl rfl rfl (by (unfold limit at *; omega)) (fun s2 H => ?_)) | refine ops_on rfl (op_store1 H sz30 rfl rfl rfl rfl rfl (by (unfold limit at *; omega)) (fun s2 H => ?_)) | refine ops_on rfl (op_store2 H sz30 rfl rfl rfl rfl rfl (by (unfold limit at *; omega)) (fun s2 H => ?_)) | refine ops_on rfl (op_store3 H sz30 rfl rfl rfl rfl rfl (by (unfold limit at *; omega)) (fun s2 H => ?_)) | refine ops_on rfl (op_store4 H sz30 rfl rfl rfl rfl rfl (by (unfold limit at *; omega)) (fun s2 H => ?_))
      refine ops_nil ?_
      refine cw_seq ?_
      refine cw_rseq ?_
      refine ops_on rfl (op_indexA el30 rfl rfl (by (unfold limit at *; omega)) (by (unfold limit at *; omega)) ?_)
      refine ops_on rfl (op_load1 sh3 rfl (by first | exact H.own0 | exact H.own1 | exact H.own2 | exact H.own3 | exact H.own4 | exact H.own5 | exact H.ownA | assumption) rfl ?_)
      refine ops_on rfl (op_lss rfl rfl (fun h => ?_) (fun h => ?_))
      · first | refine ops_on rfl (op_moveB rfl ?_) | refine ops_on rfl (op_move ?_)
        refine ops_off rfl ?_
        refine ops_off rfl ?_
        refine ops_off rfl ?_
        refine ops_on rfl (op_pick1C rfl ?_)
        first | refine ops_on rfl (op_moveB rfl ?_) | refine ops_on rfl (op_move ?_)
        refine ops_off rfl ?_
        refine ops_off rfl ?_
        refine ops_off rfl ?_
        refine ops_on rfl (op_pick1C rfl ?_)
        first | refine ops_on rfl (op_moveB rfl ?_) | refine ops_on rfl (op_move ?_)
        refine ops_off rfl ?_
        refine ops_off rfl ?_
        refine ops_off rfl ?_
        refine ops_on rfl (op_pick1C rfl ?_)
        refine ops_nil ?_
        refine cw_then rfl ?_
        refine cw_exit ?_
        refine seq_exit ?_
        refine blk_here ?_
        refine seq_norm ?_
        refine cw_region ?_
        refine ops_on rfl (op_add rfl rfl (by unfold In64; (unfold limit at *; omega)) ?_)
        first | refine ops_on rfl (op_moveI rfl ?_) | refine ops_on rfl (op_move ?_)
        refine ops_nil ?_
        refine loop_norm ?_
        have hno : ¬ (l.any (brokenB (js.getD i (0, 0))) = true) := by
          rw [List.any_eq_true]
          rintro ⟨x, _, hx⟩
          simp only [brokenB, Bool.and_eq_true, decide_eq_true_eq] at hx
          omega
        have hpw : (2 : Int) ^ (i + 1) = 2 * 2 ^ i := by rw [Int.pow_succ]; omega
        have hpos : (0 : Int) < 2 ^ i := Int.pow_pos (by decide)
        refine ⟨m - (i + 1), by omega, _, i + 1, _, slots ⟨rfl, rfl, rfl, rfl, rfl, trivial⟩, H.drop0.up (by omega), by omega, rfl, ?_⟩
        rw [hb0, drop_getD (0, 0) (show i < js.length by omega), brkZ]
        rw [if_neg (fun h => hno h.2), hpw]
        omega
      · first | refine ops_on rfl (op_moveB rfl ?_) | refine ops_on rfl (op_move ?_)
        refine ops_on rfl (op_indexA el30 rfl rfl (by (unfold limit at *; omega)) (by (unfold limit at *; omega)) ?_)
        refine ops_on rfl (op_load1 sh3 rfl (by first | exact H.own0 | exact H.own1 | exact H.own2 | exact H.own3 | exact H.own4 | exact H.own5 | exact H.ownA | assumption) rfl ?_)
        refine ops_on rfl (op_lss rfl rfl (fun h => ?_) (fun h => ?_))
        · first | refine ops_on rfl (op_pick0B rfl rfl ?_) | refine ops_on rfl (op_pick0 rfl ?_)
          first | refine ops_on rfl (op_moveB rfl ?_) | refine ops_on rfl (op_move ?_)
          refine ops_off rfl ?_
          refine ops_off rfl ?_
          refine ops_off rfl ?_
          refine ops_on rfl (op_pick1C rfl ?_)
          first | refine ops_on rfl (op_moveB rfl ?_) | refine ops_on rfl (op_move ?_)
          refine ops_off rfl ?_
          refine ops_off rfl ?_
          refine ops_off rfl ?_
          refine ops_on rfl (op_pick1C rfl ?_)
          refine ops_nil ?_
          refine cw_then rfl ?_
          refine cw_exit ?_
          refine seq_exit ?_
          refine blk_here ?_
          refine seq_norm ?_
          refine cw_region ?_
          refine ops_on rfl (op_add rfl rfl (by unfold In64; (unfold limit at *; omega)) ?_)
          first | refine ops_on rfl (op_moveI rfl ?_) | refine ops_on rfl (op_move ?_)
          refine ops_nil ?_
          refine loop_norm ?_
          have hno : ¬ (l.any (brokenB (js.getD i (0, 0))) = true) := by
            rw [List.any_eq_true]
            rintro ⟨x, _, hx⟩
            simp only [brokenB, Bool.and_eq_true, decide_eq_true_eq] at hx
            omega
          have hpw : (2 : Int) ^ (i + 1) = 2 * 2 ^ i := by rw [Int.pow_succ]; omega
          have hpos : (0 : Int) < 2 ^ i := Int.pow_pos (by decide)
          refine ⟨m - (i + 1), by omega, _, i + 1, _, slots ⟨rfl, rfl, rfl, rfl, rfl, trivial⟩, H.drop0.up (by omega), by omega, rfl, ?_⟩
          rw [hb0, drop_getD (0, 0) (show i < js.length by omega), brkZ]
          rw [if_neg (fun h => hno h.2), hpw]
          omega
        · first | refine ops_on rfl (op_pick0B rfl rfl ?_) | refine ops_on rfl (op_pick0 rfl ?_)
          first | refine ops_on rfl (op_moveB rfl ?_) | refine ops_on rfl (op_move ?_)
          refine ops_on rfl (op_indexA el30 rfl rfl (by (unfold limit at *; omega)) (by (unfold limit at *; omega)) ?_)
          refine ops_on rfl (op_load1 sh3 rfl (by first | exact H.own0 | exact H.own1 | exact H.own2 | exact H.own3 | exact H.own4 | exact H.own5 | exact H.ownA | assumption) rfl ?_)
          refine ops_on rfl (op_geq rfl rfl (fun h => ?_) (fun h => ?_))
          · first | refine ops_on rfl (op_pick0B rfl rfl ?_) | refine ops_on rfl (op_pick0 rfl ?_)
            first | refine ops_on rfl (op_moveB rfl ?_) | refine ops_on rfl (op_move ?_)
            refine ops_off rfl ?_
            refine ops_off rfl ?_
            refine ops_off rfl ?_
            refine ops_on rfl (op_pick1C rfl ?_)
            refine ops_nil ?_
            refine cw_then rfl ?_
            refine cw_exit ?_
            refine seq_exit ?_
            refine blk_here ?_
            refine seq_norm ?_
            refine cw_region ?_
            refine ops_on rfl (op_add rfl rfl (by unfold In64; (unfold limit at *; omega)) ?_)
            first | refine ops_on rfl (op_moveI rfl ?_) | refine ops_on rfl (op_move ?_)
            refine ops_nil ?_
            refine loop_norm ?_
            have hno : ¬ (l.any (brokenB (js.getD i (0, 0))) = true) := by
              rw [List.any_eq_true]
              rintro ⟨x, _, hx⟩
              simp only [brokenB, Bool.and_eq_true, decide_eq_true_eq] at hx
              omega
            have hpw : (2 : Int) ^ (i + 1) = 2 * 2 ^ i := by rw [Int.pow_succ]; omega
            have hpos : (0 : Int) < 2 ^ i := Int.pow_pos (by decide)
            refine ⟨m - (i + 1), by omega, _, i + 1, _, slots ⟨rfl, rfl, rfl, rfl, rfl, trivial⟩, H.drop0.up (by omega), by omega, rfl, ?_⟩
            rw [hb0, drop_getD (0, 0) (show i < js.length by omega), brkZ]
            rw [if_neg (fun h => hno h.2), hpw]
            omega
          · first | refine ops_on rfl (op_pick0B rfl rfl ?_) | refine ops_on rfl (op_pick0 rfl ?_)
            first | refine ops_on rfl (op_moveB rfl ?_) | refine ops_on rfl (op_move ?_)
            refine ops_on rfl (op_indexA el30 rfl rfl (by (unfold limit at *; omega)) (by (unfold limit at *; omega)) ?_)
            refine ops_on rfl (op_load1 sh3 rfl (by first | exact H.own0 | exact H.own1 | exact H.own2 | exact H.own3 | exact H.own4 | exact H.own5 | exact H.ownA | assumption) rfl ?_)
            refine ops_on rfl (op_geq rfl rfl (fun h => ?_) (fun h => ?_))
            · first | refine ops_on rfl (op_pick0B rfl rfl ?_) | refine ops_on rfl (op_pick0 rfl ?_)
              refine ops_nil ?_
              refine cw_then rfl ?_
              refine cw_exit ?_
              refine seq_exit ?_
              refine blk_here ?_
              refine seq_norm ?_
              refine cw_region ?_
              refine ops_on rfl (op_add rfl rfl (by unfold In64; (unfold limit at *; omega)) ?_)
              first | refine ops_on rfl (op_moveI rfl ?_) | refine ops_on rfl (op_move ?_)
              refine ops_nil ?_
              refine loop_norm ?_
              have hno : ¬ (l.any (brokenB (js.getD i (0, 0))) = true) := by
                rw [List.any_eq_true]
                rintro ⟨x, _, hx⟩
                simp only [brokenB, Bool.and_eq_true, decide_eq_true_eq] at hx
                omega
              have hpw : (2 : Int) ^ (i + 1) = 2 * 2 ^ i := by rw [Int.pow_succ]; omega
              have hpos : (0 : Int) < 2 ^ i := Int.pow_pos (by decide)
              refine ⟨m - (i + 1), by omega, _, i + 1, _, slots ⟨rfl, rfl, rfl, rfl, rfl, trivial⟩, H.drop0.up (by omega), by omega, rfl, ?_⟩
              rw [hb0, drop_getD (0, 0) (show i < js.length by omega), brkZ]
              rw [if_neg (fun h => hno h.2), hpw]
              omega
            · first | refine ops_on rfl (op_pick0B rfl rfl ?_) | refine ops_on rfl (op_pick0 rfl ?_)
              refine ops_nil ?_
              refine cw_else rfl ?_
              refine cw_skip ?_
              refine seq_norm ?_
              have hr1 : 0 ≤ (js.getD i (0, 0)).1 ∧ (js.getD i (0, 0)).1 ≤ 15 := by omega
              have hr2 : 0 ≤ (js.getD i (0, 0)).2 ∧ (js.getD i (0, 0)).2 ≤ 15 := by omega
              refine cw_rseq ?_
              first | refine ops_on rfl (op_moveS rfl ?_) | refine ops_on rfl (op_move ?_)
              refine ops_on rfl (op_len un25 rfl rfl rfl ?_)
              refine ops_on rfl (op_moveC ?_)
              refine ops_nil ?_
              refine cw_block ?_
              refine cw_loop (fun k F s1 => ∃ (G : FF) (q : Nat) (o2 : Int), F = lay G [(1, .slice a2 l.length cap2), (5, .int .i64 o2), (6, .int .i64 (i : Int)), (7, .pointer (some ⟨b7, 0, none⟩)), (14, .slice (some ⟨bj, offj, none⟩) m cap), (15, .int .i64 (m : Int)), (16, .int .i64 (i : Int)), (39, .slice a2 l.length cap2), (40, .int .i64 (l.length : Int)), (41, .int .i64 (q : Int))] ∧ HL [] s s1 [(b7, .cells (jc (js.getD i (0, 0))) 30)] (8193 * i + 1 + 2 * q) ∧ q ≤ l.length ∧ k = l.length - q ∧ o2 = o + (if (l.take q).any (brokenB (js.getD i (0, 0))) then 2 ^ i else 0)) ?_ l.length _ _ ?_
              · rintro k F s1 ⟨G, q, o2, rfl, H, hq, rfl, ho2⟩
                refine cw_rseq ?_
                refine ops_on rfl (op_lss rfl rfl (fun h => ?_) (fun h => ?_))
                · refine ops_nil ?_
                  refine cw_seq ?_
                  refine cw_then rfl ?_
                  refine cw_skip ?_
                  refine seq_norm ?_
                  refine cw_seq ?_
                  refine cw_block ?_
                  refine cw_rseq ?_
                  obtain ⟨bl, ofl, cl, rfl, hgl, hbl, hcl⟩ := (hl.kept H).atS rfl (show q < l.length by omega)
                  refine ops_on rfl (op_indexS el25 rfl rfl (by (unfold limit at *; omega)) (by (unfold limit at *; omega)) ?_)
                  refine ops_on rfl (op_loadN sh62 rfl hgl hcl ?_)
                  refine ops_on rfl (op_alloc H zf62 (by (unfold limit at *; omega)) (fun b9 s3 H => ?_))
                  first | refine ops_on rfl (op_store0 (vs := [.int _ _, .int _ _, .bool _, .slice _ _ _, .bool _, .slice _ _ _, .bool _, .slice _ _ _, .bool _, .slice _ _ _]) H sz62 rfl rfl rfl rfl rfl (by (unfold limit at *; omega)) (fun s4 H => ?_)) | refine ops_on rfl (op_store1 (vs := [.int _ _, .int _ _, .bool _, .slice _ _ _, .bool _, .slice _ _ _, .bool _, .slice _ _ _, .bool _, .slice _ _ _]) H sz62 rfl rfl rfl rfl rfl (by (unfold limit at *; omega)) (fun s4 H => ?_)) | refine ops_on rfl (op_store2 (vs := [.int _ _, .int _ _, .bool _, .slice _ _ _, .bool _, .slice _ _ _, .bool _, .slice _ _ _, .bool _, .slice _ _ _]) H sz62 rfl rfl rfl rfl rfl (by (unfold limit at *; omega)) (fun s4 H => ?_)) | refine ops_on rfl (op_store3 (vs := [.int _ _, .int _ _, .bool _, .slice _ _ _, .bool _, .slice _ _ _, .bool _, .slice _ _ _, .bool _, .slice _ _ _]) H sz62 rfl rfl rfl rfl rfl (by (unfold limit at *; omega)) (fun s4 H => ?_)) | refine ops_on rfl (op_store4 (vs := [.int _ _, .int _ _, .bool _, .slice _ _ _, .bool _, .slice _ _ _, .bool _, .slice _ _ _, .bool _, .slice _ _ _]) H sz62 rfl rfl rfl rfl rfl (by (unfold limit at *; omega)) (fun s4 H => ?_)) | refine ops_on rfl (op_store0 H sz62 rfl rfl rfl rfl rfl (by (unfold limit at *; omega)) (fun s4 H => ?_)) | refine ops_on rfl (op_store1 H sz62 rfl rfl rfl rfl rfl (by (unfold limit at *; omega)) (fun s4 H => ?_)) | refine ops_on rfl (op_store2 H sz62 rfl rfl rfl rfl rfl (by (unfold limit at *; omega)) (fun s4 H => ?_)) | refine ops_on rfl (op_store3 H sz62 rfl rfl rfl rfl rfl (by (unfold limit at *; omega)) (fun s4 H => ?_)) | refine ops_on rfl (op_store4 H sz62 rfl rfl rfl rfl rfl (by (unfold limit at *; omega)) (fun s4 H => ?_))
                  refine ops_nil ?_
                  refine cw_dseq [⟨0, 0, .light, [2]⟩, ⟨1, 1, .light, [2]⟩, ⟨2, 0, .light, [1]⟩, ⟨3, 7, .whole, []⟩, ⟨4, 15, .light, []⟩, ⟨5, 31, .light, [8, 12, 14]⟩, ⟨6, 63, .light, [8, 12, 14]⟩, ⟨7, 31, .light, [6, 12, 14]⟩, ⟨8, 159, .light, [6, 12, 14]⟩, ⟨9, 511, .light, [12, 14]⟩, ⟨10, 1023, .light, [12, 14]⟩, ⟨11, 31, .light, [6, 8, 14]⟩, ⟨12, 2079, .light, [6, 8, 14]⟩, ⟨13, 31, .light, [6, 8, 12]⟩, ⟨14, 8223, .light, [6, 8, 12]⟩, ⟨15, 30751, .light, [6, 8]⟩, ⟨16, 63519, .light, [6, 8]⟩, ⟨17, 131071, .light, []⟩, ⟨18, 262143, .light, []⟩] (by kernel_rfl) (by kernel_rfl) ?_
                  refine draw_light rfl rfl (op_fieldAddr of62_0 rfl ⟨rfl, ?_⟩)
                  refine dr_load1 rfl rfl sh23 rfl (by first | exact H.own0 | exact H.own1 | exact H.own2 | exact H.own3 | exact H.own4 | exact H.own5 | exact H.ownA | assumption) (by first | exact H.lim0 (by (unfold limit at *; omega)) | exact H.lim1 (by (unfold limit at *; omega)) | exact H.lim2 (by (unfold limit at *; omega)) | exact H.lim3 (by (unfold limit at *; omega)) | exact H.lim4 (by (unfold limit at *; omega)) | exact H.lim5 (by (unfold limit at *; omega)) | (have := H.most; (unfold limit at *; omega))) rfl ?_
                  refine dr_loadN rfl rfl sh30 rfl (by first | exact H.own0 | exact H.own1 | exact H.own2 | exact H.own3 | exact H.own4 | exact H.own5 | exact H.ownA | assumption) (by first | exact H.lim0 (by (unfold limit at *; omega)) | exact H.lim1 (by (unfold limit at *; omega)) | exact H.lim2 (by (unfold limit at *; omega)) | exact H.lim3 (by (unfold limit at *; omega)) | exact H.lim4 (by (unfold limit at *; omega)) | exact H.lim5 (by (unfold limit at *; omega)) | (have := H.most; (unfold limit at *; omega))) rfl ?_
                  refine draw_whole rfl rfl (op_call rfl fc59 rfl ?_)
                  obtain ⟨_, s9, hr, rfl, Hc⟩ := both_ok (x := (l.getD q default).w) (j := js.getD i (0, 0)) hI H.fine (by have := H.most; unfold limit at *; omega) ⟨hr1.1, by omega⟩ ⟨hr2.1, by omega⟩
                  refine ⟨_, _, hr, ?_⟩
                  clear hr
                  have H := H.call0 (HL.wider H.fine (Nat.le_refl _) (fun _ h => h) Hc)
                  clear Hc
                  cases hb2 : (bit (l.getD q default).w (js.getD i (0, 0)).1.toNat && bit (l.getD q default).w (js.getD i (0, 0)).2.toNat)
                  · first | refine draw_light rfl rfl (op_moveB rfl ⟨rfl, ?_⟩) | refine draw_light rfl rfl (op_move ⟨rfl, ?_⟩)
                    refine draw_off rfl rfl ?_
                    refine draw_off rfl rfl ?_
                    refine draw_off rfl rfl ?_
                    refine draw_off rfl rfl ?_
                    refine draw_off rfl rfl ?_
                    refine draw_off rfl rfl ?_
                    refine draw_off rfl rfl ?_
                    refine draw_off rfl rfl ?_
                    refine draw_off rfl rfl ?_
                    refine draw_off rfl rfl ?_
                    refine draw_off rfl rfl ?_
                    refine draw_off rfl rfl ?_
                    refine draw_off rfl rfl ?_
                    refine draw_light rfl rfl (op_pick0C rfl ⟨rfl, ?_⟩)
                    refine draw_nil ?_
                    refine cw_else rfl ?_
                    refine cw_skip ?_
                    refine blk_norm ?_
                    refine seq_norm ?_
                    refine cw_region ?_
                    refine ops_on rfl (op_add rfl rfl (by unfold In64; (unfold limit at *; omega)) ?_)
                    first | refine ops_on rfl (op_moveI rfl ?_) | refine ops_on rfl (op_move ?_)
                    refine ops_nil ?_
                    refine loop_norm ?_
                    have hbr : brokenB (js.getD i (0, 0)) (l.getD q default) = false := by
                      simp only [brokenB, hb2, hr1.1, hr1.2, hr2.1, hr2.2, decide_true, Bool.and_self, Bool.true_and, Bool.and_false, Bool.false_and]
                      try simpa using h
                    refine ⟨l.length - (q + 1), by omega, _, q + 1, _, slots ⟨rfl, rfl, rfl, rfl, rfl, rfl, rfl, rfl, rfl, rfl, trivial⟩, H.drop0.up (by omega), by omega, rfl, ?_⟩
                    rw [any_take_succ (show q < l.length by omega)]
                    rw [hbr, Bool.or_false]
                    exact ho2
                  · first | refine draw_light rfl rfl (op_moveB rfl ⟨rfl, ?_⟩) | refine draw_light rfl rfl (op_move ⟨rfl, ?_⟩)
                    refine draw_light rfl rfl (op_fieldAddr of62_1 rfl ⟨rfl, ?_⟩)
                    refine dr_load1 rfl rfl sh23 rfl (by first | exact H.own0 | exact H.own1 | exact H.own2 | exact H.own3 | exact H.own4 | exact H.own5 | exact H.ownA | assumption) (by first | exact H.lim0 (by (unfold limit at *; omega)) | exact H.lim1 (by (unfold limit at *; omega)) | exact H.lim2 (by (unfold limit at *; omega)) | exact H.lim3 (by (unfold limit at *; omega)) | exact H.lim4 (by (unfold limit at *; omega)) | exact H.lim5 (by (unfold limit at *; omega)) | (have := H.most; (unfold limit at *; omega))) rfl ?_
                    refine draw_light rfl rfl (op_indexA el30 rfl rfl (by (unfold limit at *; omega)) (by (unfold limit at *; omega)) ⟨rfl, ?_⟩)
                    refine dr_load1 rfl rfl sh3 rfl (by first | exact H.own0 | exact H.own1 | exact H.own2 | exact H.own3 | exact H.own4 | exact H.own5 | exact H.ownA | assumption) (by first | exact H.lim0 (by (unfold limit at *; omega)) | exact H.lim1 (by (unfold limit at *; omega)) | exact H.lim2 (by (unfold limit at *; omega)) | exact H.lim3 (by (unfold limit at *; omega)) | exact H.lim4 (by (unfold limit at *; omega)) | exact H.lim5 (by (unfold limit at *; omega)) | (have := H.most; (unfold limit at *; omega))) rfl ?_
                    refine draw_light rfl rfl (op_shr rfl rfl hr1.1 ⟨rfl, ?_⟩)
                    refine draw_light rfl rfl (op_and rfl rfl ⟨rfl, ?_⟩)
                    refine draw_light rfl rfl (op_fieldAddr of62_1 rfl ⟨rfl, ?_⟩)
                    refine dr_load1 rfl rfl sh23 rfl (by first | exact H.own0 | exact H.own1 | exact H.own2 | exact H.own3 | exact H.own4 | exact H.own5 | exact H.ownA | assumption) (by first | exact H.lim0 (by (unfold limit at *; omega)) | exact H.lim1 (by (unfold limit at *; omega)) | exact H.lim2 (by (unfold limit at *; omega)) | exact H.lim3 (by (unfold limit at *; omega)) | exact H.lim4 (by (unfold limit at *; omega)) | exact H.lim5 (by (unfold limit at *; omega)) | (have := H.most; (unfold limit at *; omega))) rfl ?_
                    refine draw_light rfl rfl (op_indexA el30 rfl rfl (by (unfold limit at *; omega)) (by (unfold limit at *; omega)) ⟨rfl, ?_⟩)
                    refine dr_load1 rfl rfl sh3 rfl (by first | exact H.own0 | exact H.own1 | exact H.own2 | exact H.own3 | exact H.own4 | exact H.own5 | exact H.ownA | assumption) (by first | exact H.lim0 (by (unfold limit at *; omega)) | exact H.lim1 (by (unfold limit at *; omega)) | exact H.lim2 (by (unfold limit at *; omega)) | exact H.lim3 (by (unfold limit at *; omega)) | exact H.lim4 (by (unfold limit at *; omega)) | exact H.lim5 (by (unfold limit at *; omega)) | (have := H.most; (unfold limit at *; omega))) rfl ?_
                    refine draw_light rfl rfl (op_shr rfl rfl hr2.1 ⟨rfl, ?_⟩)
                    refine draw_light rfl rfl (op_and rfl rfl ⟨rfl, ?_⟩)
                    refine draw_light rfl rfl (op_neqBit rfl rfl hr1.1 (by omega) hr2.1 (by omega) (fun h => ⟨rfl, ?_⟩) (fun h => ⟨rfl, ?_⟩))
                    · first | refine draw_light rfl rfl (op_pick1B rfl rfl ⟨rfl, ?_⟩) | refine draw_light rfl rfl (op_pick1 rfl ⟨rfl, ?_⟩)
                      refine draw_nil ?_
                      refine cw_then rfl ?_
                      refine cw_region ?_
                      first | refine ops_on rfl (op_moveI rfl ?_) | refine ops_on rfl (op_move ?_)
                      first | refine ops_on rfl (op_moveI rfl ?_) | refine ops_on rfl (op_move ?_)
                      refine ops_on rfl (op_shl rfl rfl (by omega) (by omega) (by have := two_pow_le (n := i) (by omega); unfold In64; simp only [Int.toNat_natCast]; omega) ?_)
                      refine ops_on rfl (op_or rfl rfl ?_)
                      first | refine ops_on rfl (op_assignI rfl ?_) | refine ops_on rfl (op_assign ?_)
                      refine ops_nil ?_
                      refine blk_norm ?_
                      refine seq_norm ?_
                      refine cw_region ?_
                      refine ops_on rfl (op_add rfl rfl (by unfold In64; (unfold limit at *; omega)) ?_)
                      first | refine ops_on rfl (op_moveI rfl ?_) | refine ops_on rfl (op_move ?_)
                      refine ops_nil ?_
                      refine loop_norm ?_
                      have hbr : brokenB (js.getD i (0, 0)) (l.getD q default) = true := by
                        simp only [brokenB, hb2, hr1.1, hr1.2, hr2.1, hr2.2, decide_true, Bool.and_self, Bool.true_and]
                        simpa using h
                      have hor := or_pow ho0 ho1 (by omega)
                      refine ⟨l.length - (q + 1), by omega, _, q + 1, _, slots ⟨rfl, rfl, rfl, rfl, rfl, rfl, rfl, rfl, rfl, rfl, trivial⟩, H.drop0.up (by omega), by omega, rfl, ?_⟩
                      rw [any_take_succ (show q < l.length by omega)]
                      rw [hbr, Bool.or_true, if_pos rfl, ho2]
                      split
                      · exact hor.2
                      · simpa using hor.1
                    · first | refine draw_light rfl rfl (op_pick1B rfl rfl ⟨rfl, ?_⟩) | refine draw_light rfl rfl (op_pick1 rfl ⟨rfl, ?_⟩)
                      refine draw_nil ?_
                      refine cw_else rfl ?_
                      refine cw_skip ?_
                      refine blk_norm ?_
                      refine seq_norm ?_
                      refine cw_region ?_
                      refine ops_on rfl (op_add rfl rfl (by unfold In64; (unfold limit at *; omega)) ?_)
                      first | refine ops_on rfl (op_moveI rfl ?_) | refine ops_on rfl (op_move ?_)
                      refine ops_nil ?_
                      refine loop_norm ?_
                      have hbr : brokenB (js.getD i (0, 0)) (l.getD q default) = false := by
                        simp only [brokenB, hb2, hr1.1, hr1.2, hr2.1, hr2.2, decide_true, Bool.and_self, Bool.true_and, Bool.and_false, Bool.false_and]
                        try simpa using h
                      refine ⟨l.length - (q + 1), by omega, _, q + 1, _, slots ⟨rfl, rfl, rfl, rfl, rfl, rfl, rfl, rfl, rfl, rfl, trivial⟩, H.drop0.up (by omega), by omega, rfl, ?_⟩
                      rw [any_take_succ (show q < l.length by omega)]
                      rw [hbr, Bool.or_false]
                      exact ho2
                · refine ops_nil ?_
                  refine cw_seq ?_
                  refine cw_else rfl ?_
                  refine cw_exit ?_
                  refine seq_exit ?_
                  refine loop_exit ?_
                  refine blk_here ?_
                  refine blk_norm ?_
                  refine seq_norm ?_
                  refine cw_region ?_
                  refine ops_on rfl (op_add rfl rfl (by unfold In64; (unfold limit at *; omega)) ?_)
                  first | refine ops_on rfl (op_moveI rfl ?_) | refine ops_on rfl (op_move ?_)
                  refine ops_nil ?_
                  refine loop_norm ?_
                  have hpw : (2 : Int) ^ (i + 1) = 2 * 2 ^ i := by rw [Int.pow_succ]; omega
                  have hpos : (0 : Int) < 2 ^ i := Int.pow_pos (by decide)
                  refine ⟨m - (i + 1), by omega, _, i + 1, _, slots ⟨rfl, rfl, rfl, rfl, rfl, trivial⟩, H.drop0.up (by omega), by omega, rfl, ?_⟩
                  rw [hb0, drop_getD (0, 0) (show i < js.length by omega), brkZ]
                  have hq2 : q = l.length := by omega
                  rw [hq2, List.take_length] at ho2
                  by_cases hany : l.any (brokenB (js.getD i (0, 0))) = true
                  · rw [if_pos ⟨by omega, hany⟩]
                    rw [if_pos hany] at ho2
                    rw [hpw, ho2]
                    omega
                  · rw [if_neg (fun h => hany h.2)]
                    rw [if_neg hany] at ho2
                    rw [hpw, ho2]
                    omega
              · exact ⟨_, 0, o, slots ⟨rfl, rfl, rfl, rfl, rfl, rfl, rfl, rfl, rfl, rfl, trivial⟩, H.up (by omega), by omega, by omega, by simp⟩
    · refine ops_nil ?_
      refine cw_seq ?_
      refine cw_else rfl ?_
      refine cw_exit ?_
      refine seq_exit ?_
      refine loop_exit ?_
      refine blk_here ?_
      refine seq_norm ?_
      refine cw_rseq ?_
      first | refine ops_on rfl (op_moveI rfl ?_) | refine ops_on rfl (op_move ?_)
      first | refine ops_on rfl (op_assignI rfl ?_) | refine ops_on rfl (op_assign ?_)
      refine ops_nil ?_
      refine cw_ret ?_
      refine ret_end ?_
      refine end_t ?_
      refine ⟨congrArg (Value.int .i64) ?_, H.up (by omega)⟩
      have him : i = m := by omega
      have hz : brkZ l i (js.drop i) = 0 := by
        rcases hm16 with h1 | h1
        · rw [List.drop_eq_nil_of_le (by omega)]; rfl
        · exact brkZ_high _ _ _ (by omega)
      show o = _
      omega
  · exact ⟨_, 0, 0, slots ⟨rfl, rfl, rfl, rfl, rfl, trivial⟩, H.up (by omega), by omega, by omega, by simp, by omega, by decide⟩

end Go.Proofs.YtdejleegamcioaaGreat
