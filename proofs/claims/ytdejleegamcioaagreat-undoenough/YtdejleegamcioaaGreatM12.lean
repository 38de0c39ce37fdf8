/- Lists of splits; what arguments are proper. -/
import Derived.Test.YtdejleegamcioaaGreatM11
namespace Go.Proofs.YtdejleegamcioaaGreat
open Go Go.M

theorem el25 : elemF Tryz.prog 25 = some (true, 0, 10) := by kernel_rfl
theorem fb139 : funcB Tryz.f139 (Tryz.f139.body.getD .skip) 2 = true := by kernel_rfl
theorem un25 : Tryz.prog.underlying 25 = some (.slice 62) := by kernel_rfl
theorem fb84 : funcB Tryz.f84 (Tryz.f84.body.getD .skip) 2 = true := by kernel_rfl
theorem fc139 : funcF Tryz.prog 139 = true := by kernel_rfl
theorem fc85 : funcF Tryz.prog 85 = true := by kernel_rfl
theorem fb40 : funcB Tryz.f40 (Tryz.f40.body.getD .skip) 4 = true := by kernel_rfl
theorem fc84 : funcF Tryz.prog 84 = true := by kernel_rfl

def findI (p : Sp → Bool) : Nat → List Sp → Int
  | _, [] => -1
  | i, x :: r => if p x then (i : Int) else findI p (i + 1) r
theorem findI_any (p : Sp → Bool) : ∀ (l : List Sp) (i : Nat), decide (0 ≤ findI p i l) = l.any p
  | [], i => by simp [findI]
  | x :: l, i => by
    simp only [findI, List.any_cons]
    split
    · next h => simp [h]
    · next h => rw [findI_any p l (i + 1)]; simp [h]
/-- undo.valid -/
def joinsB : List (Int × Int) → Bool
  | [] => true
  | j :: r => !(decide (j.1 < 0) || decide (16 ≤ j.1) || decide (j.2 < 0) || decide (16 ≤ j.2) || decide (j.1 = j.2)) && joinsB r
def errZ (w : Int) (js : List (Int × Int)) (bad : Int) (l : List Sp) : Int :=
  if 4096 < l.length ∨ 16 < js.length then 4
  else if w ≤ 0 ∨ 65536 ≤ w ∨ bad < 0 ∨ (2 : Int) ^ js.length ≤ bad then 1
  else if l.any (fun x => !splitB x.w x.p) then 1
  else if joinsB js then 0 else 1
theorem two_pow_le {n : Nat} (h : n ≤ 16) : (1 : Int) ≤ 2 ^ n ∧ (2 : Int) ^ n ≤ 65536 := by
  have h1 : (2 : Nat) ^ n ≤ 2 ^ 16 := Nat.pow_le_pow_right (by decide) h
  have h2 : 1 ≤ (2 : Nat) ^ n := Nat.one_le_two_pow
  have e : ((2 : Int) ^ n) = (((2 : Nat) ^ n : Nat) : Int) := by simp
  rw [e]
  have : (2 : Nat) ^ 16 = 65536 := by decide
  omega

set_option maxHeartbeats 4000000 in
set_option maxRecDepth 10000 in
theorem indexFunc_ok {I : Table} (hI : Plain I) {s : St} (hf : Fine s) {v : Value} {l : List Sp} (hl : Sl s 62 10 v (l.map Sp.cells)) {n K : Nat} {fa fb : Array Value} {p : Sp → Bool} (hfn : funcF Tryz.prog n = true)
    (hp : ∀ s1 m x, x ∈ l → HL [] s s1 [] m → s1.next + K ≤ limit → ∃ v' s2, Rets Tryz.prog I n ⟨fa.toList ++ [.agg ⟨x.cells⟩] ++ fb.toList⟩ s1 v' s2 ∧ (v' = .bool (p x) ∧ HL [] s1 s2 [] K)) (hlen : l.length ≤ 4096) (hroom : s.next + K * l.length ≤ limit) :
    ∃ v' s', Rets Tryz.prog I 139 #[v, .func (.func n) fa fb] s v' s' ∧ (v' = .int .i64 (findI p 0 l) ∧ HL [] s s' [] (K * l.length)) := by
  have H := hf.hl
  obtain ⟨a, len, cap, rfl, hn⟩ := hl.isSlice
  rw [List.length_map] at hn
  subst hn
  refine call_of 2 (hI 139 (by decide) (by decide)) Tryz.func139 rfl fb139 rfl ?_
  refine cw_rseq ?_
  refine ops_on rfl (op_assignC ?_)
  refine ops_nil ?_
  refine cw_seq ?_
  refine cw_rseq ?_
  first | refine ops_on rfl (op_moveS rfl ?_) | refine ops_on rfl (op_move ?_)
  refine ops_on rfl (op_len un25 rfl rfl rfl ?_)
  refine ops_on rfl (op_moveC ?_)
  refine ops_nil ?_
  refine cw_block ?_
  refine cw_loop (fun k F s1 => ∃ (G : FF) (i : Nat), F = lay G [(0, .slice a l.length cap), (1, .func (.func n) fa fb), (7, .int .i64 (l.length : Int)), (8, .int .i64 (i : Int))] ∧ HL [] s s1 [] (K * i) ∧ i ≤ l.length ∧ k = l.length - i ∧ findI p 0 l = findI p i (l.drop i)) ?_ l.length _ _ ?_
  · rintro k F s1 ⟨G, i, rfl, H, hi, rfl, hn⟩
    refine cw_rseq ?_
    refine ops_on rfl (op_lss rfl rfl (fun h => ?_) (fun h => ?_))
    · refine ops_nil ?_
      refine cw_seq ?_
      refine cw_then rfl ?_
      refine cw_skip ?_
      refine seq_norm ?_
      refine cw_seq ?_
      refine cw_block ?_
      refine cw_rseq ?_
      first | refine ops_on rfl (op_moveI rfl ?_) | refine ops_on rfl (op_move ?_)
      first | refine ops_on rfl (op_assignI rfl ?_) | refine ops_on rfl (op_assign ?_)
      refine ops_nil ?_
      refine cw_rseq ?_
      first | refine ops_on rfl (op_moveF rfl ?_) | refine ops_on rfl (op_move ?_)
      first | refine ops_on rfl (op_moveS rfl ?_) | refine ops_on rfl (op_move ?_)
      first | refine ops_on rfl (op_moveI rfl ?_) | refine ops_on rfl (op_move ?_)
      obtain ⟨b, off, c, rfl, hg, hb, hc⟩ := (hl.kept H).atS rfl (show i < l.length by omega)
      refine ops_on rfl (op_indexS el25 rfl rfl (by (unfold limit at *; omega)) (by (unfold limit at *; omega)) ?_)
      refine ops_on rfl (op_loadN sh62 rfl hg hc ?_)
      refine ops_on rfl (op_call rfl hfn rfl ?_)
      have hKi : K * i + K ≤ K * l.length := by rw [← Nat.mul_succ]; exact Nat.mul_le_mul_left _ (by omega)
      obtain ⟨_, s9, hr, rfl, Hc⟩ := hp _ _ (l.getD i default) (getD_mem (by omega)) H (by have := H.most; omega)
      refine ⟨_, _, hr, ?_⟩
      clear hr
      have H := H.call0 Hc
      clear Hc
      cases hb2 : p (l.getD i default)
      · refine ops_nil ?_
        refine cw_else rfl ?_
        refine cw_skip ?_
        refine blk_norm ?_
        refine seq_norm ?_
        refine cw_region ?_
        refine ops_on rfl (op_add rfl rfl (by unfold In64; (unfold limit at *; omega)) ?_)
        first | refine ops_on rfl (op_moveI rfl ?_) | refine ops_on rfl (op_move ?_)
        refine ops_nil ?_
        refine loop_norm ?_
        refine ⟨l.length - (i + 1), by omega, _, i + 1, slots ⟨rfl, rfl, rfl, rfl, trivial⟩, H.up (by rw [Nat.mul_add]; omega), by omega, rfl, ?_⟩
        rw [hn, drop_getD default (show i < l.length by omega), findI]
        simp_all
      · refine ops_nil ?_
        refine cw_then rfl ?_
        refine cw_rseq ?_
        first | refine ops_on rfl (op_moveI rfl ?_) | refine ops_on rfl (op_move ?_)
        first | refine ops_on rfl (op_assignI rfl ?_) | refine ops_on rfl (op_assign ?_)
        refine ops_nil ?_
        refine cw_ret ?_
        refine blk_ret ?_
        refine seq_ret ?_
        refine loop_ret ?_
        refine blk_ret ?_
        refine seq_ret ?_
        refine ret_end ?_
        refine end_t ?_
        first
          | (refine ⟨congrArg (Value.int .i64) ?_, H.up hKi⟩; rw [hn, drop_getD default (show i < l.length by omega), findI, if_pos hb2]; done)
          | (refine ⟨congrArg (Value.int .i64) ?_, H.up (Nat.mul_le_mul_left _ hi)⟩; rw [hn, List.drop_eq_nil_of_le (by omega)]; rfl)
    · refine ops_nil ?_
      refine cw_seq ?_
      refine cw_else rfl ?_
      refine cw_exit ?_
      refine seq_exit ?_
      refine loop_exit ?_
      refine blk_here ?_
      refine seq_norm ?_
      refine cw_rseq ?_
      refine ops_on rfl (op_assignC ?_)
      refine ops_nil ?_
      refine cw_ret ?_
      refine ret_end ?_
      refine end_t ?_
      first
        | (refine ⟨congrArg (Value.int .i64) ?_, H.up hKi⟩; rw [hn, drop_getD default (show i < l.length by omega), findI, if_pos hb2]; done)
        | (refine ⟨congrArg (Value.int .i64) ?_, H.up (Nat.mul_le_mul_left _ hi)⟩; rw [hn, List.drop_eq_nil_of_le (by omega)]; rfl)
  · exact ⟨_, 0, slots ⟨rfl, rfl, rfl, rfl, trivial⟩, H, by omega, by omega, rfl⟩

set_option maxHeartbeats 4000000 in
set_option maxRecDepth 10000 in
theorem containsFunc_ok {I : Table} (hI : Plain I) {s : St} (hf : Fine s) {v : Value} {l : List Sp} (hl : Sl s 62 10 v (l.map Sp.cells)) {n K : Nat} {fa fb : Array Value} {p : Sp → Bool} (hfn : funcF Tryz.prog n = true)
    (hp : ∀ s1 m x, x ∈ l → HL [] s s1 [] m → s1.next + K ≤ limit → ∃ v' s2, Rets Tryz.prog I n ⟨fa.toList ++ [.agg ⟨x.cells⟩] ++ fb.toList⟩ s1 v' s2 ∧ (v' = .bool (p x) ∧ HL [] s1 s2 [] K)) (hlen : l.length ≤ 4096) (hroom : s.next + K * l.length ≤ limit) :
    ∃ v' s', Rets Tryz.prog I 84 #[v, .func (.func n) fa fb] s v' s' ∧ (v' = .bool (l.any p) ∧ HL [] s s' [] (K * l.length)) := by
  have H := hf.hl
  refine call_of 2 (hI 84 (by decide) (by decide)) Tryz.func84 rfl fb84 rfl ?_
  refine cw_rseq ?_
  refine ops_on rfl (op_assignC ?_)
  refine ops_nil ?_
  refine cw_rseq ?_
  first | refine ops_on rfl (op_moveS rfl ?_) | refine ops_on rfl (op_move ?_)
  first | refine ops_on rfl (op_moveF rfl ?_) | refine ops_on rfl (op_move ?_)
  refine ops_on rfl (op_call rfl fc139 rfl ?_)
  obtain ⟨_, s9, hr, rfl, Hc⟩ := indexFunc_ok (p := p) hI H.fine hl hfn hp hlen (by have := H.most; omega)
  refine ⟨_, _, hr, ?_⟩
  clear hr
  have H := H.call0 Hc
  clear Hc
  refine ops_on rfl (op_geq' rfl rfl ?_)
  first | refine ops_on rfl (op_assignB rfl ?_) | refine ops_on rfl (op_assign ?_)
  refine ops_nil ?_
  refine cw_ret ?_
  refine ret_end ?_
  refine end_t ?_
  exact ⟨congrArg Value.bool (findI_any p l 0), H.up (by omega)⟩

theorem noSplit_all {I : Table} (hI : Plain I) {s : St} {l : List Sp} : ∀ s1 m x, x ∈ l → HL [] s s1 [] m → s1.next + 2 ≤ limit →
    ∃ v' s2, Rets Tryz.prog I 85 ⟨(#[] : Array Value).toList ++ [.agg ⟨x.cells⟩] ++ (#[] : Array Value).toList⟩ s1 v' s2 ∧ (v' = .bool ((fun x => !splitB x.w x.p) x) ∧ HL [] s1 s2 [] 2) :=
  fun s1 m x _ H1 hr => noSplit_ok (x := x) hI H1.fine hr
theorem anyBad_ok {I : Table} (hI : Plain I) {s : St} (hf : Fine s) {v : Value} {l : List Sp} (hl : Sl s 62 10 v (l.map Sp.cells)) (hlen : l.length ≤ 4096) (hroom : s.next + 8192 ≤ limit) :
    ∃ v' s', Rets Tryz.prog I 84 #[v, .func (.func 85) #[] #[]] s v' s' ∧ (v' = .bool (l.any fun x => !splitB x.w x.p) ∧ HL [] s s' [] 8192) := by
  obtain ⟨v', s', h1, h2, h3⟩ := containsFunc_ok (fa := #[]) (fb := #[]) hI hf hl fc85 (noSplit_all hI) hlen (by omega)
  exact ⟨v', s', h1, h2, h3.up (by omega)⟩

set_option maxHeartbeats 4000000 in
set_option maxRecDepth 10000 in
theorem valid_args_ok {I : Table} (hI : Plain I) {s : St} (hf : Fine s) {w bad : Int} {vj vm : Value} {js : List (Int × Int)} {l : List Sp} (hj : Sl s 30 2 vj (js.map jc)) (hl : Sl s 62 10 vm (l.map Sp.cells)) (hroom : s.next + 10000 ≤ limit) :
    ∃ v' s', Rets Tryz.prog I 40 #[.int .i64 w, vj, .int .i64 bad, vm] s v' s' ∧ (v' = .int .i64 (errZ w js bad l) ∧ HL [] s s' [] 10000) := by
  have H := hf.hl
  obtain ⟨a, len, cap, rfl, hn⟩ := hj.isSlice
  rw [List.length_map] at hn
  subst hn
  obtain ⟨a2, len2, cap2, rfl, hn2⟩ := hl.isSlice
  rw [List.length_map] at hn2
  subst hn2
  refine call_of 4 (hI 40 (by decide) (by decide)) Tryz.func40 rfl fb40 rfl ?_
  refine cw_rseq ?_
  refine ops_on rfl (op_assignC ?_)
  refine ops_nil ?_
  refine cw_seq ?_
  refine cw_block ?_
  refine cw_rseq ?_
  first | refine ops_on rfl (op_moveS rfl ?_) | refine ops_on rfl (op_move ?_)
  refine ops_on rfl (op_len un25 rfl rfl rfl ?_)
  refine ops_on rfl (op_gtr rfl rfl (fun h => ?_) (fun h => ?_))
  · first | refine ops_on rfl (op_moveB rfl ?_) | refine ops_on rfl (op_move ?_)
    refine ops_off rfl ?_
    refine ops_off rfl ?_
    refine ops_off rfl ?_
    refine ops_on rfl (op_pick1C rfl ?_)
    first | refine ops_on rfl (op_assignB rfl ?_) | refine ops_on rfl (op_assign ?_)
    refine ops_nil ?_
    refine cw_then rfl ?_
    refine cw_rseq ?_
    refine ops_on rfl (op_assignC ?_)
    refine ops_nil ?_
    refine cw_ret ?_
    refine blk_ret ?_
    refine seq_ret ?_
    refine ret_end ?_
    refine end_t ?_
    refine ⟨congrArg (Value.int .i64) ?_, H.up (by omega)⟩
    unfold errZ
    rw [if_pos (by omega)]
  · first | refine ops_on rfl (op_moveB rfl ?_) | refine ops_on rfl (op_move ?_)
    first | refine ops_on rfl (op_moveS rfl ?_) | refine ops_on rfl (op_move ?_)
    refine ops_on rfl (op_len un24 rfl rfl rfl ?_)
    refine ops_on rfl (op_gtr rfl rfl (fun h => ?_) (fun h => ?_))
    · first | refine ops_on rfl (op_pick0B rfl rfl ?_) | refine ops_on rfl (op_pick0 rfl ?_)
      first | refine ops_on rfl (op_assignB rfl ?_) | refine ops_on rfl (op_assign ?_)
      refine ops_nil ?_
      refine cw_then rfl ?_
      refine cw_rseq ?_
      refine ops_on rfl (op_assignC ?_)
      refine ops_nil ?_
      refine cw_ret ?_
      refine blk_ret ?_
      refine seq_ret ?_
      refine ret_end ?_
      refine end_t ?_
      refine ⟨congrArg (Value.int .i64) ?_, H.up (by omega)⟩
      unfold errZ
      rw [if_pos (by omega)]
    · first | refine ops_on rfl (op_pick0B rfl rfl ?_) | refine ops_on rfl (op_pick0 rfl ?_)
      first | refine ops_on rfl (op_assignB rfl ?_) | refine ops_on rfl (op_assign ?_)
      refine ops_nil ?_
      refine cw_else rfl ?_
      refine cw_rseq ?_
      first | refine ops_on rfl (op_moveI rfl ?_) | refine ops_on rfl (op_move ?_)
      refine ops_on rfl (op_leq rfl rfl (fun h => ?_) (fun h => ?_))
      · first | refine ops_on rfl (op_moveB rfl ?_) | refine ops_on rfl (op_move ?_)
        refine ops_off rfl ?_
        refine ops_off rfl ?_
        refine ops_on rfl (op_pick1C rfl ?_)
        first | refine ops_on rfl (op_moveB rfl ?_) | refine ops_on rfl (op_move ?_)
        refine ops_off rfl ?_
        refine ops_off rfl ?_
        refine ops_on rfl (op_pick1C rfl ?_)
        first | refine ops_on rfl (op_moveB rfl ?_) | refine ops_on rfl (op_move ?_)
        refine ops_off rfl ?_
        refine ops_off rfl ?_
        refine ops_off rfl ?_
        refine ops_off rfl ?_
        refine ops_off rfl ?_
        refine ops_on rfl (op_pick1C rfl ?_)
        first | refine ops_on rfl (op_assignB rfl ?_) | refine ops_on rfl (op_assign ?_)
        refine ops_nil ?_
        refine cw_then rfl ?_
        refine cw_rseq ?_
        refine ops_on rfl (op_assignC ?_)
        refine ops_nil ?_
        refine cw_ret ?_
        refine blk_ret ?_
        refine seq_ret ?_
        refine ret_end ?_
        refine end_t ?_
        refine ⟨congrArg (Value.int .i64) ?_, H.up (by omega)⟩
        try simp only [Int.toNat_natCast, Int.one_mul] at h
        unfold errZ
        rw [if_neg (by omega), if_pos (by omega)]
      · first | refine ops_on rfl (op_moveB rfl ?_) | refine ops_on rfl (op_move ?_)
        first | refine ops_on rfl (op_moveI rfl ?_) | refine ops_on rfl (op_move ?_)
        refine ops_on rfl (op_geq rfl rfl (fun h => ?_) (fun h => ?_))
        · first | refine ops_on rfl (op_pick0B rfl rfl ?_) | refine ops_on rfl (op_pick0 rfl ?_)
          first | refine ops_on rfl (op_moveB rfl ?_) | refine ops_on rfl (op_move ?_)
          refine ops_off rfl ?_
          refine ops_off rfl ?_
          refine ops_on rfl (op_pick1C rfl ?_)
          first | refine ops_on rfl (op_moveB rfl ?_) | refine ops_on rfl (op_move ?_)
          refine ops_off rfl ?_
          refine ops_off rfl ?_
          refine ops_off rfl ?_
          refine ops_off rfl ?_
          refine ops_off rfl ?_
          refine ops_on rfl (op_pick1C rfl ?_)
          first | refine ops_on rfl (op_assignB rfl ?_) | refine ops_on rfl (op_assign ?_)
          refine ops_nil ?_
          refine cw_then rfl ?_
          refine cw_rseq ?_
          refine ops_on rfl (op_assignC ?_)
          refine ops_nil ?_
          refine cw_ret ?_
          refine blk_ret ?_
          refine seq_ret ?_
          refine ret_end ?_
          refine end_t ?_
          refine ⟨congrArg (Value.int .i64) ?_, H.up (by omega)⟩
          try simp only [Int.toNat_natCast, Int.one_mul] at h
          unfold errZ
          rw [if_neg (by omega), if_pos (by omega)]
        · first | refine ops_on rfl (op_pick0B rfl rfl ?_) | refine ops_on rfl (op_pick0 rfl ?_)
          first | refine ops_on rfl (op_moveB rfl ?_) | refine ops_on rfl (op_move ?_)
          first | refine ops_on rfl (op_moveI rfl ?_) | refine ops_on rfl (op_move ?_)
          refine ops_on rfl (op_lss rfl rfl (fun h => ?_) (fun h => ?_))
          · first | refine ops_on rfl (op_pick0B rfl rfl ?_) | refine ops_on rfl (op_pick0 rfl ?_)
            first | refine ops_on rfl (op_moveB rfl ?_) | refine ops_on rfl (op_move ?_)
            refine ops_off rfl ?_
            refine ops_off rfl ?_
            refine ops_off rfl ?_
            refine ops_off rfl ?_
            refine ops_off rfl ?_
            refine ops_on rfl (op_pick1C rfl ?_)
            first | refine ops_on rfl (op_assignB rfl ?_) | refine ops_on rfl (op_assign ?_)
            refine ops_nil ?_
            refine cw_then rfl ?_
            refine cw_rseq ?_
            refine ops_on rfl (op_assignC ?_)
            refine ops_nil ?_
            refine cw_ret ?_
            refine blk_ret ?_
            refine seq_ret ?_
            refine ret_end ?_
            refine end_t ?_
            refine ⟨congrArg (Value.int .i64) ?_, H.up (by omega)⟩
            try simp only [Int.toNat_natCast, Int.one_mul] at h
            unfold errZ
            rw [if_neg (by omega), if_pos (by omega)]
          · first | refine ops_on rfl (op_pick0B rfl rfl ?_) | refine ops_on rfl (op_pick0 rfl ?_)
            first | refine ops_on rfl (op_moveB rfl ?_) | refine ops_on rfl (op_move ?_)
            have hp2 := two_pow_le (n := js.length) (by omega)
            first | refine ops_on rfl (op_moveI rfl ?_) | refine ops_on rfl (op_move ?_)
            first | refine ops_on rfl (op_moveS rfl ?_) | refine ops_on rfl (op_move ?_)
            refine ops_on rfl (op_len un24 rfl rfl rfl ?_)
            refine ops_on rfl (op_shl rfl rfl (by omega) (by omega) (by unfold In64; simp only [Int.toNat_natCast]; omega) ?_)
            refine ops_on rfl (op_geq rfl rfl (fun h => ?_) (fun h => ?_))
            · first | refine ops_on rfl (op_pick0B rfl rfl ?_) | refine ops_on rfl (op_pick0 rfl ?_)
              first | refine ops_on rfl (op_assignB rfl ?_) | refine ops_on rfl (op_assign ?_)
              refine ops_nil ?_
              refine cw_then rfl ?_
              refine cw_rseq ?_
              refine ops_on rfl (op_assignC ?_)
              refine ops_nil ?_
              refine cw_ret ?_
              refine blk_ret ?_
              refine seq_ret ?_
              refine ret_end ?_
              refine end_t ?_
              refine ⟨congrArg (Value.int .i64) ?_, H.up (by omega)⟩
              try simp only [Int.toNat_natCast, Int.one_mul] at h
              unfold errZ
              rw [if_neg (by omega), if_pos (by omega)]
            · first | refine ops_on rfl (op_pick0B rfl rfl ?_) | refine ops_on rfl (op_pick0 rfl ?_)
              first | refine ops_on rfl (op_assignB rfl ?_) | refine ops_on rfl (op_assign ?_)
              refine ops_nil ?_
              refine cw_else rfl ?_
              refine cw_rseq ?_
              first | refine ops_on rfl (op_moveS rfl ?_) | refine ops_on rfl (op_move ?_)
              refine ops_on rfl (op_call rfl fc84 rfl ?_)
              obtain ⟨_, s9, hr, rfl, Hc⟩ := anyBad_ok hI H.fine (hl.kept H) (by omega) (by have := H.most; omega)
              refine ⟨_, _, hr, ?_⟩
              clear hr
              have H := H.call0 Hc
              clear Hc
              have H := H.up (show 0 + 8192 ≤ 8192 by omega)
              cases hb2 : l.any (fun x => !splitB x.w x.p)
              · first | refine ops_on rfl (op_assignB rfl ?_) | refine ops_on rfl (op_assign ?_)
                refine ops_nil ?_
                refine cw_else rfl ?_
                refine cw_skip ?_
                refine blk_norm ?_
                refine seq_norm ?_
                refine cw_seq ?_
                simp only [Int.toNat_natCast, Int.one_mul] at h
                refine cw_rseq ?_
                first | refine ops_on rfl (op_moveS rfl ?_) | refine ops_on rfl (op_move ?_)
                refine ops_on rfl (op_len un24 rfl rfl rfl ?_)
                refine ops_on rfl (op_moveC ?_)
                refine ops_nil ?_
                refine cw_block ?_
                refine cw_loop (fun k F s1 => ∃ (G : FF) (i : Nat), F = lay G [(41, .slice a js.length cap), (42, .int .i64 (js.length : Int)), (43, .int .i64 (i : Int))] ∧ HL [] s s1 [] (8192 + i) ∧ i ≤ js.length ∧ k = js.length - i ∧ joinsB js = joinsB (js.drop i)) ?_ js.length _ _ ?_
                · rintro k F s1 ⟨G, i, rfl, H, hi, rfl, hn⟩
                  refine cw_rseq ?_
                  refine ops_on rfl (op_lss rfl rfl (fun h => ?_) (fun h => ?_))
                  · refine ops_nil ?_
                    refine cw_seq ?_
                    refine cw_then rfl ?_
                    refine cw_skip ?_
                    refine seq_norm ?_
                    refine cw_seq ?_
                    refine cw_block ?_
                    refine cw_rseq ?_
                    obtain ⟨b, off, c, rfl, hg, hb, hc⟩ := (hj.kept H).atJ rfl (show i < js.length by omega)
                    refine ops_on rfl (op_indexS el24 rfl rfl (by (unfold limit at *; omega)) (by (unfold limit at *; omega)) ?_)
                    refine ops_on rfl (op_loadN sh30 rfl hg hc ?_)
                    refine ops_on rfl (op_alloc H zf30 (by (unfold limit at *; omega)) (fun b10 s1 H => ?_))
                    first | refine ops_on rfl (op_store0 (vs := [.int _ _, .int _ _]) H sz30 rfl rfl rfl rfl rfl (by (unfold limit at *; omega)) (fun s2 H => ?_)) | refine ops_on rfl (op_store1 (vs := [.int _ _, .int _ _]) H sz30 rfl rfl rfl rfl rfl (by (unfold limit at *; omega)) (fun s2 H => ?_)) | refine ops_on rfl (op_store2 (vs := [.int _ _, .int _ _]) H sz30 rfl rfl rfl rfl rfl (by (unfold limit at *; omega)) (fun s2 H => ?_)) | refine ops_on rfl (op_store3 (vs := [.int _ _, .int _ _]) H sz30 rfl rfl rfl rfl rfl (by (unfold limit at *; omega)) (fun s2 H => ?_)) | refine ops_on rfl (op_store4 (vs := [.int _ _, .int _ _]) H sz30 rfl rfl rfl rfl rfl (by (unfold limit at *; omega)) (fun s2 H => ?_)) | refine ops_on rfl (op_store0 H sz30 rfl rfl rfl rfl rfl (by (unfold limit at *; omega)) (fun s2 H => ?_)) | refine ops_on rfl (op_store1 H sz30 rfl rfl rfl rfl rfl (by (unfold limit at *; omega)) (fun s2 H => ?_)) | refine ops_on rfl (op_store2 H sz30 rfl rfl rfl rfl rfl (by (unfold limit at *; omega)) (fun s2 H => ?_)) | refine ops_on rfl (op_store3 H sz30 rfl rfl rfl rfl rfl (by (unfold limit at *; omega)) (fun s2 H => ?_)) | refine ops_on rfl (op_store4 H sz30 rfl rfl rfl rfl rfl (by (unfold limit at *; omega)) (fun s2 H => ?_))
                    refine ops_nil ?_
                    refine cw_rseq ?_
                    refine ops_on rfl (op_indexA el30 rfl rfl (by (unfold limit at *; omega)) (by (unfold limit at *; omega)) ?_)
                    refine ops_on rfl (op_load1 sh3 rfl (by first | exact H.own0 | exact H.own1 | exact H.own2 | exact H.own3 | exact H.own4 | exact H.own5 | exact H.ownA | assumption) rfl ?_)
                    refine ops_on rfl (op_lss rfl rfl (fun h => ?_) (fun h => ?_))
                    · first | refine ops_on rfl (op_moveB rfl ?_) | refine ops_on rfl (op_move ?_)
                      refine ops_off rfl ?_
                      refine ops_off rfl ?_
                      refine ops_off rfl ?_
                      refine ops_on rfl (op_pick1C rfl ?_)
                      first | refine ops_on rfl (op_moveB rfl ?_) | refine ops_on rfl (op_move ?_)
                      refine ops_off rfl ?_
                      refine ops_off rfl ?_
                      refine ops_off rfl ?_
                      refine ops_on rfl (op_pick1C rfl ?_)
                      first | refine ops_on rfl (op_moveB rfl ?_) | refine ops_on rfl (op_move ?_)
                      refine ops_off rfl ?_
                      refine ops_off rfl ?_
                      refine ops_off rfl ?_
                      refine ops_on rfl (op_pick1C rfl ?_)
                      first | refine ops_on rfl (op_moveB rfl ?_) | refine ops_on rfl (op_move ?_)
                      refine ops_off rfl ?_
                      refine ops_off rfl ?_
                      refine ops_off rfl ?_
                      refine ops_off rfl ?_
                      refine ops_off rfl ?_
                      refine ops_on rfl (op_pick1C rfl ?_)
                      refine ops_nil ?_
                      refine cw_then rfl ?_
                      refine cw_rseq ?_
                      refine ops_on rfl (op_assignC ?_)
                      refine ops_nil ?_
                      refine cw_ret ?_
                      refine blk_ret ?_
                      refine seq_ret ?_
                      refine loop_ret ?_
                      refine blk_ret ?_
                      refine seq_ret ?_
                      refine ret_end ?_
                      refine end_t ?_
                      refine ⟨congrArg (Value.int .i64) ?_, H.drop0.up (by omega)⟩
                      unfold errZ
                      rw [if_neg (by omega), if_neg (by omega), if_neg (by simp [hb2]), if_neg]
                      rw [hn, drop_getD (0, 0) (show i < js.length by omega), joinsB]
                      simp only [Bool.and_eq_true, Bool.not_eq_true', Bool.or_eq_false_iff, decide_eq_false_iff_not]
                      omega
                    · first | refine ops_on rfl (op_moveB rfl ?_) | refine ops_on rfl (op_move ?_)
                      refine ops_on rfl (op_indexA el30 rfl rfl (by (unfold limit at *; omega)) (by (unfold limit at *; omega)) ?_)
                      refine ops_on rfl (op_load1 sh3 rfl (by first | exact H.own0 | exact H.own1 | exact H.own2 | exact H.own3 | exact H.own4 | exact H.own5 | exact H.ownA | assumption) rfl ?_)
                      refine ops_on rfl (op_geq rfl rfl (fun h => ?_) (fun h => ?_))
                      · first | refine ops_on rfl (op_pick0B rfl rfl ?_) | refine ops_on rfl (op_pick0 rfl ?_)
                        first | refine ops_on rfl (op_moveB rfl ?_) | refine ops_on rfl (op_move ?_)
                        refine ops_off rfl ?_
                        refine ops_off rfl ?_
                        refine ops_off rfl ?_
                        refine ops_on rfl (op_pick1C rfl ?_)
                        first | refine ops_on rfl (op_moveB rfl ?_) | refine ops_on rfl (op_move ?_)
                        refine ops_off rfl ?_
                        refine ops_off rfl ?_
                        refine ops_off rfl ?_
                        refine ops_on rfl (op_pick1C rfl ?_)
                        first | refine ops_on rfl (op_moveB rfl ?_) | refine ops_on rfl (op_move ?_)
                        refine ops_off rfl ?_
                        refine ops_off rfl ?_
                        refine ops_off rfl ?_
                        refine ops_off rfl ?_
                        refine ops_off rfl ?_
                        refine ops_on rfl (op_pick1C rfl ?_)
                        refine ops_nil ?_
                        refine cw_then rfl ?_
                        refine cw_rseq ?_
                        refine ops_on rfl (op_assignC ?_)
                        refine ops_nil ?_
                        refine cw_ret ?_
                        refine blk_ret ?_
                        refine seq_ret ?_
                        refine loop_ret ?_
                        refine blk_ret ?_
                        refine seq_ret ?_
                        refine ret_end ?_
                        refine end_t ?_
                        refine ⟨congrArg (Value.int .i64) ?_, H.drop0.up (by omega)⟩
                        unfold errZ
                        rw [if_neg (by omega), if_neg (by omega), if_neg (by simp [hb2]), if_neg]
                        rw [hn, drop_getD (0, 0) (show i < js.length by omega), joinsB]
                        simp only [Bool.and_eq_true, Bool.not_eq_true', Bool.or_eq_false_iff, decide_eq_false_iff_not]
                        omega
                      · first | refine ops_on rfl (op_pick0B rfl rfl ?_) | refine ops_on rfl (op_pick0 rfl ?_)
                        first | refine ops_on rfl (op_moveB rfl ?_) | refine ops_on rfl (op_move ?_)
                        refine ops_on rfl (op_indexA el30 rfl rfl (by (unfold limit at *; omega)) (by (unfold limit at *; omega)) ?_)
                        refine ops_on rfl (op_load1 sh3 rfl (by first | exact H.own0 | exact H.own1 | exact H.own2 | exact H.own3 | exact H.own4 | exact H.own5 | exact H.ownA | assumption) rfl ?_)
                        refine ops_on rfl (op_lss rfl rfl (fun h => ?_) (fun h => ?_))
                        · first | refine ops_on rfl (op_pick0B rfl rfl ?_) | refine ops_on rfl (op_pick0 rfl ?_)
                          first | refine ops_on rfl (op_moveB rfl ?_) | refine ops_on rfl (op_move ?_)
                          refine ops_off rfl ?_
                          refine ops_off rfl ?_
                          refine ops_off rfl ?_
                          refine ops_on rfl (op_pick1C rfl ?_)
                          first | refine ops_on rfl (op_moveB rfl ?_) | refine ops_on rfl (op_move ?_)
                          refine ops_off rfl ?_
                          refine ops_off rfl ?_
                          refine ops_off rfl ?_
                          refine ops_off rfl ?_
                          refine ops_off rfl ?_
                          refine ops_on rfl (op_pick1C rfl ?_)
                          refine ops_nil ?_
                          refine cw_then rfl ?_
                          refine cw_rseq ?_
                          refine ops_on rfl (op_assignC ?_)
                          refine ops_nil ?_
                          refine cw_ret ?_
                          refine blk_ret ?_
                          refine seq_ret ?_
                          refine loop_ret ?_
                          refine blk_ret ?_
                          refine seq_ret ?_
                          refine ret_end ?_
                          refine end_t ?_
                          refine ⟨congrArg (Value.int .i64) ?_, H.drop0.up (by omega)⟩
                          unfold errZ
                          rw [if_neg (by omega), if_neg (by omega), if_neg (by simp [hb2]), if_neg]
                          rw [hn, drop_getD (0, 0) (show i < js.length by omega), joinsB]
                          simp only [Bool.and_eq_true, Bool.not_eq_true', Bool.or_eq_false_iff, decide_eq_false_iff_not]
                          omega
                        · first | refine ops_on rfl (op_pick0B rfl rfl ?_) | refine ops_on rfl (op_pick0 rfl ?_)
                          first | refine ops_on rfl (op_moveB rfl ?_) | refine ops_on rfl (op_move ?_)
                          refine ops_on rfl (op_indexA el30 rfl rfl (by (unfold limit at *; omega)) (by (unfold limit at *; omega)) ?_)
                          refine ops_on rfl (op_load1 sh3 rfl (by first | exact H.own0 | exact H.own1 | exact H.own2 | exact H.own3 | exact H.own4 | exact H.own5 | exact H.ownA | assumption) rfl ?_)
                          refine ops_on rfl (op_geq rfl rfl (fun h => ?_) (fun h => ?_))
                          · first | refine ops_on rfl (op_pick0B rfl rfl ?_) | refine ops_on rfl (op_pick0 rfl ?_)
                            first | refine ops_on rfl (op_moveB rfl ?_) | refine ops_on rfl (op_move ?_)
                            refine ops_off rfl ?_
                            refine ops_off rfl ?_
                            refine ops_off rfl ?_
                            refine ops_off rfl ?_
                            refine ops_off rfl ?_
                            refine ops_on rfl (op_pick1C rfl ?_)
                            refine ops_nil ?_
                            refine cw_then rfl ?_
                            refine cw_rseq ?_
                            refine ops_on rfl (op_assignC ?_)
                            refine ops_nil ?_
                            refine cw_ret ?_
                            refine blk_ret ?_
                            refine seq_ret ?_
                            refine loop_ret ?_
                            refine blk_ret ?_
                            refine seq_ret ?_
                            refine ret_end ?_
                            refine end_t ?_
                            refine ⟨congrArg (Value.int .i64) ?_, H.drop0.up (by omega)⟩
                            unfold errZ
                            rw [if_neg (by omega), if_neg (by omega), if_neg (by simp [hb2]), if_neg]
                            rw [hn, drop_getD (0, 0) (show i < js.length by omega), joinsB]
                            simp only [Bool.and_eq_true, Bool.not_eq_true', Bool.or_eq_false_iff, decide_eq_false_iff_not]
                            omega
                          · first | refine ops_on rfl (op_pick0B rfl rfl ?_) | refine ops_on rfl (op_pick0 rfl ?_)
                            first | refine ops_on rfl (op_moveB rfl ?_) | refine ops_on rfl (op_move ?_)
                            refine ops_on rfl (op_indexA el30 rfl rfl (by (unfold limit at *; omega)) (by (unfold limit at *; omega)) ?_)
                            refine ops_on rfl (op_load1 sh3 rfl (by first | exact H.own0 | exact H.own1 | exact H.own2 | exact H.own3 | exact H.own4 | exact H.own5 | exact H.ownA | assumption) rfl ?_)
                            refine ops_on rfl (op_indexA el30 rfl rfl (by (unfold limit at *; omega)) (by (unfold limit at *; omega)) ?_)
                            refine ops_on rfl (op_load1 sh3 rfl (by first | exact H.own0 | exact H.own1 | exact H.own2 | exact H.own3 | exact H.own4 | exact H.own5 | exact H.ownA | assumption) rfl ?_)
                            refine ops_on rfl (op_eql rfl rfl (fun h => ?_) (fun h => ?_))
                            · first | refine ops_on rfl (op_pick0B rfl rfl ?_) | refine ops_on rfl (op_pick0 rfl ?_)
                              refine ops_nil ?_
                              refine cw_then rfl ?_
                              refine cw_rseq ?_
                              refine ops_on rfl (op_assignC ?_)
                              refine ops_nil ?_
                              refine cw_ret ?_
                              refine blk_ret ?_
                              refine seq_ret ?_
                              refine loop_ret ?_
                              refine blk_ret ?_
                              refine seq_ret ?_
                              refine ret_end ?_
                              refine end_t ?_
                              refine ⟨congrArg (Value.int .i64) ?_, H.drop0.up (by omega)⟩
                              unfold errZ
                              rw [if_neg (by omega), if_neg (by omega), if_neg (by simp [hb2]), if_neg]
                              rw [hn, drop_getD (0, 0) (show i < js.length by omega), joinsB]
                              simp only [Bool.and_eq_true, Bool.not_eq_true', Bool.or_eq_false_iff, decide_eq_false_iff_not]
                              omega
                            · first | refine ops_on rfl (op_pick0B rfl rfl ?_) | refine ops_on rfl (op_pick0 rfl ?_)
                              refine ops_nil ?_
                              refine cw_else rfl ?_
                              refine cw_skip ?_
                              refine blk_norm ?_
                              refine seq_norm ?_
                              refine cw_region ?_
                              refine ops_on rfl (op_add rfl rfl (by unfold In64; (unfold limit at *; omega)) ?_)
                              first | refine ops_on rfl (op_moveI rfl ?_) | refine ops_on rfl (op_move ?_)
                              refine ops_nil ?_
                              refine loop_norm ?_
                              refine ⟨js.length - (i + 1), by omega, _, i + 1, slots ⟨rfl, rfl, rfl, trivial⟩, H.drop0.up (by omega), by omega, rfl, ?_⟩
                              rw [hn, drop_getD (0, 0) (show i < js.length by omega), joinsB]
                              simp only [Bool.and_eq_right_iff_imp, Bool.not_eq_true', Bool.or_eq_false_iff, decide_eq_false_iff_not]
                              intro _
                              omega
                  · refine ops_nil ?_
                    refine cw_seq ?_
                    refine cw_else rfl ?_
                    refine cw_exit ?_
                    refine seq_exit ?_
                    refine loop_exit ?_
                    refine blk_here ?_
                    refine seq_norm ?_
                    refine cw_rseq ?_
                    refine ops_on rfl (op_assignC ?_)
                    refine ops_nil ?_
                    refine cw_ret ?_
                    refine ret_end ?_
                    refine end_t ?_
                    refine ⟨congrArg (Value.int .i64) ?_, H.up (by omega)⟩
                    unfold errZ
                    rw [if_neg (by omega), if_neg (by omega), if_neg (by simp [hb2]), hn, List.drop_eq_nil_of_le (by omega)]
                    rfl
                · exact ⟨_, 0, slots ⟨rfl, rfl, rfl, trivial⟩, H, by omega, by omega, rfl⟩
              · first | refine ops_on rfl (op_assignB rfl ?_) | refine ops_on rfl (op_assign ?_)
                refine ops_nil ?_
                refine cw_then rfl ?_
                refine cw_rseq ?_
                refine ops_on rfl (op_assignC ?_)
                refine ops_nil ?_
                refine cw_ret ?_
                refine blk_ret ?_
                refine seq_ret ?_
                refine ret_end ?_
                refine end_t ?_
                refine ⟨congrArg (Value.int .i64) ?_, H.up (by omega)⟩
                simp only [Int.toNat_natCast, Int.one_mul] at h
                unfold errZ
                rw [if_neg (by omega), if_neg (by omega), if_pos hb2]

end Go.Proofs.YtdejleegamcioaaGreat
