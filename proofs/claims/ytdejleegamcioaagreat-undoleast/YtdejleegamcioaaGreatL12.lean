/- Lists of splits; what arguments are proper. -/
/- Which joins splits break: the program and the reference. -/
/- Which joins splits break: the reference. -/
/- Digits: the reference of integers, as far as numbers of 64 bits reach. -/
import Derived.Test.YtdejleegamcioaaGreatL11
namespace Go.Proofs.YtdejleegamcioaaGreat
open Go Go.M

theorem el25 : elemF Tryz.prog 25 = some (true, 0, 10) := by kernel_rfl
theorem fb139 : funcB Tryz.f139 (Tryz.f139.body.getD .skip) 2 = true := by kernel_rfl
theorem un25 : Tryz.prog.underlying 25 = some (.slice 62) := by kernel_rfl
theorem fb84 : funcB Tryz.f84 (Tryz.f84.body.getD .skip) 2 = true := by kernel_rfl
theorem fc139 : funcF Tryz.prog 139 = true := by kernel_rfl
theorem fc85 : funcF Tryz.prog 85 = true := by kernel_rfl
theorem fb40 : funcB Tryz.f40 (Tryz.f40.body.getD .skip) 4 = true := by kernel_rfl
theorem fc84 : funcF Tryz.prog 84 = true := by kernel_rfl

def findI (p : Sp → Bool) : Nat → List Sp → Int
  | _, [] => -1
  | i, x :: r => if p x then (i : Int) else findI p (i + 1) r
theorem findI_any (p : Sp → Bool) : ∀ (l : List Sp) (i : Nat), decide (0 ≤ findI p i l) = l.any p
  | [], i => by simp [findI]
  | x :: l, i => by
    simp only [findI, List.any_cons]
    split
    · next h => simp [h]
    · next h => rw [findI_any p l (i + 1)]; simp [h]
/-- undo.valid -/
def joinsB : List (Int × Int) → Bool
  | [] => true
  | j :: r => !(decide (j.1 < 0) || decide (16 ≤ j.1) || decide (j.2 < 0) || decide (16 ≤ j.2) || decide (j.1 = j.2)) && joinsB r
def errZ (w : Int) (js : List (Int × Int)) (bad : Int) (l : List Sp) : Int :=
  if 4096 < l.length ∨ 16 < js.length then 4
  else if w ≤ 0 ∨ 65536 ≤ w ∨ bad < 0 ∨ (2 : Int) ^ js.length ≤ bad then 1
  else if l.any (fun x => !splitB x.w x.p) then 1
  else if joinsB js then 0 else 1
theorem two_pow_le {n : Nat} (h : n ≤ 16) : (1 : Int) ≤ 2 ^ n ∧ (2 : Int) ^ n ≤ 65536 := by
  have h1 : (2 : Nat) ^ n ≤ 2 ^ 16 := Nat.pow_le_pow_right (by decide) h
  have h2 : 1 ≤ (2 : Nat) ^ n := Nat.one_le_two_pow
  have e : ((2 : Int) ^ n) = (((2 : Nat) ^ n : Nat) : Int) := by simp
  rw [e]
  have : (2 : Nat) ^ 16 = 65536 := by decide
  omega

set_option maxHeartbeats 4000000 in
set_option maxRecDepth 10000 in
theorem indexFunc_ok {I : Table} (hI : Plain I) {s : St} (hf : Fine s) {v : Value} {l : List Sp} (hl : Sl s 62 10 v (l.map Sp.cells)) {n K : Nat} {fa fb : Array Value} {p : Sp → Bool} (hfn : funcF Tryz.prog n = true)
    (hp : ∀ s1 m x, x ∈ l → HL [] s s1 [] m → s1.next + K ≤ limit → ∃ v' s2, Rets Tryz.prog I n ⟨fa.toList ++ [.agg ⟨x.cells⟩] ++ fb.toList⟩ s1 v' s2 ∧ (v' = .bool (p x) ∧ HL [] s1 s2 [] K)) (hlen : l.length ≤ 4096) (hroom : s.next + K * l.length ≤ limit) :
    ∃ v' s', Rets Tryz.prog I 139 #[v, .func (.func n) fa fb] s v' s' ∧ (v' = .int .i64 (findI p 0 l) ∧ HL [] s s' [] (K * l.length)) := by
  have H := hf.hl
  obtain ⟨a, len, cap, rfl, hn⟩ := hl.isSlice
  rw [List.length_map] at hn
  subst hn
  refine call_of 2 (hI 139 (by decide) (by decide)) Tryz.func139 rfl fb139 rfl ?_
  refine cR ?_
  refine oO rfl (aC ?_)
  refine ops_nil ?_
  refine cw_seq ?_
  refine cR ?_
  refine oO rfl (mS rfl ?_)
  refine oO rfl (op_len un25 rfl rfl rfl ?_)
  refine oO rfl (op_moveC ?_)
  refine ops_nil ?_
  refine cw_block ?_
  refine cw_loop (fun k F s1 => ∃ (G : FF) (i : Nat), F = lay G [(0, .slice a l.length cap), (1, .func (.func n) fa fb), (7, .int .i64 (l.length : Int)), (8, .int .i64 (i : Int))] ∧ HL [] s s1 [] (K * i) ∧ i ≤ l.length ∧ k = l.length - i ∧ findI p 0 l = findI p i (l.drop i)) ?_ l.length _ _ ?_
  · rintro k F s1 ⟨G, i, rfl, H, hi, rfl, hn⟩
    refine cR ?_
    refine oO rfl (op_lss rfl rfl (fun h => ?_) (fun h => ?_))
    · refine ops_nil ?_
      refine cw_seq ?_
      refine cT rfl ?_
      refine cw_skip ?_
      refine sN ?_
      refine cw_seq ?_
      refine cw_block ?_
      refine cR ?_
      refine oO rfl (mI rfl ?_)
      refine oO rfl (aI rfl ?_)
      refine ops_nil ?_
      refine cR ?_
      refine oO rfl (op_moveF rfl ?_)
      refine oO rfl (mS rfl ?_)
      refine oO rfl (mI rfl ?_)
      obtain ⟨b, off, c, rfl, hg, hb, hc⟩ := (hl.kept H).atS rfl (show i < l.length by omega)
      refine oO rfl (op_indexS el25 rfl rfl (by (unfold limit at *; omega)) (by (unfold limit at *; omega)) ?_)
      refine oO rfl (lN sh62 rfl hg hc ?_)
      refine oO rfl (oC rfl hfn rfl ?_)
      have hKi : K * i + K ≤ K * l.length := by rw [← Nat.mul_succ]; exact Nat.mul_le_mul_left _ (by omega)
      obtain ⟨_, s9, hr, rfl, Hc⟩ := hp _ _ (l.getD i default) (getD_mem (by omega)) H (by have := H.most; omega)
      refine ⟨_, _, hr, ?_⟩
      clear hr
      have H := H.call0 Hc
      clear Hc
      cases hb2 : p (l.getD i default)
      · refine ops_nil ?_
        refine cE rfl ?_
        refine cw_skip ?_
        refine blk_norm ?_
        refine sN ?_
        refine cG ?_
        refine oO rfl (op_add rfl rfl (by unfold In64; (unfold limit at *; omega)) ?_)
        refine oO rfl (mI rfl ?_)
        refine ops_nil ?_
        refine loop_norm ?_
        refine ⟨l.length - (i + 1), by omega, _, i + 1, slots ⟨rfl, rfl, rfl, rfl, trivial⟩, H.up (by rw [Nat.mul_add]; omega), by omega, rfl, ?_⟩
        rw [hn, drop_getD default (show i < l.length by omega), findI]
        simp_all
      · refine ops_nil ?_
        refine cT rfl ?_
        refine cR ?_
        refine oO rfl (mI rfl ?_)
        refine oO rfl (aI rfl ?_)
        refine ops_nil ?_
        refine cw_ret ?_
        refine blk_ret ?_
        refine seq_ret ?_
        refine loop_ret ?_
        refine blk_ret ?_
        refine seq_ret ?_
        refine ret_end ?_
        refine end_t ?_
        first
          | (refine ⟨congrArg (Value.int .i64) ?_, H.up hKi⟩; rw [hn, drop_getD default (show i < l.length by omega), findI, if_pos hb2]; done)
          | (refine ⟨congrArg (Value.int .i64) ?_, H.up (Nat.mul_le_mul_left _ hi)⟩; rw [hn, List.drop_eq_nil_of_le (by omega)]; rfl)
    · refine ops_nil ?_
      refine cw_seq ?_
      refine cE rfl ?_
      refine cw_exit ?_
      refine seq_exit ?_
      refine loop_exit ?_
      refine blk_here ?_
      refine sN ?_
      refine cR ?_
      refine oO rfl (aC ?_)
      refine ops_nil ?_
      refine cw_ret ?_
      refine ret_end ?_
      refine end_t ?_
      first
        | (refine ⟨congrArg (Value.int .i64) ?_, H.up hKi⟩; rw [hn, drop_getD default (show i < l.length by omega), findI, if_pos hb2]; done)
        | (refine ⟨congrArg (Value.int .i64) ?_, H.up (Nat.mul_le_mul_left _ hi)⟩; rw [hn, List.drop_eq_nil_of_le (by omega)]; rfl)
  · exact ⟨_, 0, slots ⟨rfl, rfl, rfl, rfl, trivial⟩, H, by omega, by omega, rfl⟩

set_option maxHeartbeats 4000000 in
set_option maxRecDepth 10000 in
theorem containsFunc_ok {I : Table} (hI : Plain I) {s : St} (hf : Fine s) {v : Value} {l : List Sp} (hl : Sl s 62 10 v (l.map Sp.cells)) {n K : Nat} {fa fb : Array Value} {p : Sp → Bool} (hfn : funcF Tryz.prog n = true)
    (hp : ∀ s1 m x, x ∈ l → HL [] s s1 [] m → s1.next + K ≤ limit → ∃ v' s2, Rets Tryz.prog I n ⟨fa.toList ++ [.agg ⟨x.cells⟩] ++ fb.toList⟩ s1 v' s2 ∧ (v' = .bool (p x) ∧ HL [] s1 s2 [] K)) (hlen : l.length ≤ 4096) (hroom : s.next + K * l.length ≤ limit) :
    ∃ v' s', Rets Tryz.prog I 84 #[v, .func (.func n) fa fb] s v' s' ∧ (v' = .bool (l.any p) ∧ HL [] s s' [] (K * l.length)) := by
  have H := hf.hl
  refine call_of 2 (hI 84 (by decide) (by decide)) Tryz.func84 rfl fb84 rfl ?_
  refine cR ?_
  refine oO rfl (aC ?_)
  refine ops_nil ?_
  refine cR ?_
  refine oO rfl (op_move ?_)
  refine oO rfl (op_moveF rfl ?_)
  refine oO rfl (oC rfl fc139 rfl ?_)
  obtain ⟨_, s9, hr, rfl, Hc⟩ := indexFunc_ok (p := p) hI H.fine hl hfn hp hlen (by have := H.most; omega)
  refine ⟨_, _, hr, ?_⟩
  clear hr
  have H := H.call0 Hc
  clear Hc
  refine oO rfl (op_geq' rfl rfl ?_)
  refine oO rfl (aB rfl ?_)
  refine ops_nil ?_
  refine cw_ret ?_
  refine ret_end ?_
  refine end_t ?_
  exact ⟨congrArg Value.bool (findI_any p l 0), H.up (by omega)⟩

theorem noSplit_all {I : Table} (hI : Plain I) {s : St} {l : List Sp} : ∀ s1 m x, x ∈ l → HL [] s s1 [] m → s1.next + 2 ≤ limit →
    ∃ v' s2, Rets Tryz.prog I 85 ⟨(#[] : Array Value).toList ++ [.agg ⟨x.cells⟩] ++ (#[] : Array Value).toList⟩ s1 v' s2 ∧ (v' = .bool ((fun x => !splitB x.w x.p) x) ∧ HL [] s1 s2 [] 2) :=
  fun s1 m x _ H1 hr => noSplit_ok (x := x) hI H1.fine hr
theorem anyBad_ok {I : Table} (hI : Plain I) {s : St} (hf : Fine s) {v : Value} {l : List Sp} (hl : Sl s 62 10 v (l.map Sp.cells)) (hlen : l.length ≤ 4096) (hroom : s.next + 8192 ≤ limit) :
    ∃ v' s', Rets Tryz.prog I 84 #[v, .func (.func 85) #[] #[]] s v' s' ∧ (v' = .bool (l.any fun x => !splitB x.w x.p) ∧ HL [] s s' [] 8192) := by
  obtain ⟨v', s', h1, h2, h3⟩ := containsFunc_ok (fa := #[]) (fb := #[]) hI hf hl fc85 (noSplit_all hI) hlen (by omega)
  exact ⟨v', s', h1, h2, h3.up (by omega)⟩

set_option maxHeartbeats 4000000 in
set_option maxRecDepth 10000 in
theorem valid_args_ok {I : Table} (hI : Plain I) {s : St} (hf : Fine s) {w bad : Int} {vj vm : Value} {js : List (Int × Int)} {l : List Sp} (hj : Sl s 30 2 vj (js.map jc)) (hl : Sl s 62 10 vm (l.map Sp.cells)) (hroom : s.next + 10000 ≤ limit) :
    ∃ v' s', Rets Tryz.prog I 40 #[.int .i64 w, vj, .int .i64 bad, vm] s v' s' ∧ (v' = .int .i64 (errZ w js bad l) ∧ HL [] s s' [] 10000) := by
  have H := hf.hl
  obtain ⟨a, len, cap, rfl, hn⟩ := hj.isSlice
  rw [List.length_map] at hn
  subst hn
  obtain ⟨a2, len2, cap2, rfl, hn2⟩ := hl.isSlice
  rw [List.length_map] at hn2
  subst hn2
  refine call_of 4 (hI 40 (by decide) (by decide)) Tryz.func40 rfl fb40 rfl ?_
  refine cR ?_
  refine oO rfl (aC ?_)
  refine ops_nil ?_
  refine cw_seq ?_
  refine cw_block ?_
  refine cR ?_
  refine oO rfl (mS rfl ?_)
  refine oO rfl (op_len un25 rfl rfl rfl ?_)
  refine oO rfl (op_gtr rfl rfl (fun h => ?_) (fun h => ?_))
  · refine oO rfl (mB rfl ?_)
    refine oF rfl ?_
    refine oF rfl ?_
    refine oF rfl ?_
    refine oO rfl (op_pick1C rfl ?_)
    refine oO rfl (aB rfl ?_)
    refine ops_nil ?_
    refine cT rfl ?_
    refine cR ?_
    refine oO rfl (aC ?_)
    refine ops_nil ?_
    refine cw_ret ?_
    refine blk_ret ?_
    refine seq_ret ?_
    refine ret_end ?_
    refine end_t ?_
    refine ⟨congrArg (Value.int .i64) ?_, H.up (by omega)⟩
    unfold errZ
    rw [if_pos (by omega)]
  · refine oO rfl (mB rfl ?_)
    refine oO rfl (mS rfl ?_)
    refine oO rfl (op_len un24 rfl rfl rfl ?_)
    refine oO rfl (op_gtr rfl rfl (fun h => ?_) (fun h => ?_))
    · refine oO rfl (k0B rfl rfl ?_)
      refine oO rfl (aB rfl ?_)
      refine ops_nil ?_
      refine cT rfl ?_
      refine cR ?_
      refine oO rfl (aC ?_)
      refine ops_nil ?_
      refine cw_ret ?_
      refine blk_ret ?_
      refine seq_ret ?_
      refine ret_end ?_
      refine end_t ?_
      refine ⟨congrArg (Value.int .i64) ?_, H.up (by omega)⟩
      unfold errZ
      rw [if_pos (by omega)]
    · refine oO rfl (k0B rfl rfl ?_)
      refine oO rfl (aB rfl ?_)
      refine ops_nil ?_
      refine cE rfl ?_
      refine cR ?_
      refine oO rfl (mI rfl ?_)
      refine oO rfl (op_leq rfl rfl (fun h => ?_) (fun h => ?_))
      · refine oO rfl (mB rfl ?_)
        refine oF rfl ?_
        refine oF rfl ?_
        refine oO rfl (op_pick1C rfl ?_)
        refine oO rfl (mB rfl ?_)
        refine oF rfl ?_
        refine oF rfl ?_
        refine oO rfl (op_pick1C rfl ?_)
        refine oO rfl (mB rfl ?_)
        refine oF rfl ?_
        refine oF rfl ?_
        refine oF rfl ?_
        refine oF rfl ?_
        refine oF rfl ?_
        refine oO rfl (op_pick1C rfl ?_)
        refine oO rfl (aB rfl ?_)
        refine ops_nil ?_
        refine cT rfl ?_
        refine cR ?_
        refine oO rfl (aC ?_)
        refine ops_nil ?_
        refine cw_ret ?_
        refine blk_ret ?_
        refine seq_ret ?_
        refine ret_end ?_
        refine end_t ?_
        refine ⟨congrArg (Value.int .i64) ?_, H.up (by omega)⟩
        try simp only [Int.toNat_natCast, Int.one_mul] at h
        unfold errZ
        rw [if_neg (by omega), if_pos (by omega)]
      · refine oO rfl (mB rfl ?_)
        refine oO rfl (mI rfl ?_)
        refine oO rfl (op_geq rfl rfl (fun h => ?_) (fun h => ?_))
        · refine oO rfl (k0B rfl rfl ?_)
          refine oO rfl (mB rfl ?_)
          refine oF rfl ?_
          refine oF rfl ?_
          refine oO rfl (op_pick1C rfl ?_)
          refine oO rfl (mB rfl ?_)
          refine oF rfl ?_
          refine oF rfl ?_
          refine oF rfl ?_
          refine oF rfl ?_
          refine oF rfl ?_
          refine oO rfl (op_pick1C rfl ?_)
          refine oO rfl (aB rfl ?_)
          refine ops_nil ?_
          refine cT rfl ?_
          refine cR ?_
          refine oO rfl (aC ?_)
          refine ops_nil ?_
          refine cw_ret ?_
          refine blk_ret ?_
          refine seq_ret ?_
          refine ret_end ?_
          refine end_t ?_
          refine ⟨congrArg (Value.int .i64) ?_, H.up (by omega)⟩
          try simp only [Int.toNat_natCast, Int.one_mul] at h
          unfold errZ
          rw [if_neg (by omega), if_pos (by omega)]
        · refine oO rfl (k0B rfl rfl ?_)
          refine oO rfl (mB rfl ?_)
          refine oO rfl (mI rfl ?_)
          refine oO rfl (op_lss rfl rfl (fun h => ?_) (fun h => ?_))
          · refine oO rfl (k0B rfl rfl ?_)
            refine oO rfl (mB rfl ?_)
            refine oF rfl ?_
            refine oF rfl ?_
            refine oF rfl ?_
            refine oF rfl ?_
            refine oF rfl ?_
            refine oO rfl (op_pick1C rfl ?_)
            refine oO rfl (aB rfl ?_)
            refine ops_nil ?_
            refine cT rfl ?_
            refine cR ?_
            refine oO rfl (aC ?_)
            refine ops_nil ?_
            refine cw_ret ?_
            refine blk_ret ?_
            refine seq_ret ?_
            refine ret_end ?_
            refine end_t ?_
            refine ⟨congrArg (Value.int .i64) ?_, H.up (by omega)⟩
            try simp only [Int.toNat_natCast, Int.one_mul] at h
            unfold errZ
            rw [if_neg (by omega), if_pos (by omega)]
          · refine oO rfl (k0B rfl rfl ?_)
            refine oO rfl (mB rfl ?_)
            have hp2 := two_pow_le (n := js.length) (by omega)
            refine oO rfl (mI rfl ?_)
            refine oO rfl (mS rfl ?_)
            refine oO rfl (op_len un24 rfl rfl rfl ?_)
            refine oO rfl (op_shl rfl rfl (by omega) (by omega) (by unfold In64; simp only [Int.toNat_natCast]; omega) ?_)
            refine oO rfl (op_geq rfl rfl (fun h => ?_) (fun h => ?_))
            · refine oO rfl (k0B rfl rfl ?_)
              refine oO rfl (aB rfl ?_)
              refine ops_nil ?_
              refine cT rfl ?_
              refine cR ?_
              refine oO rfl (aC ?_)
              refine ops_nil ?_
              refine cw_ret ?_
              refine blk_ret ?_
              refine seq_ret ?_
              refine ret_end ?_
              refine end_t ?_
              refine ⟨congrArg (Value.int .i64) ?_, H.up (by omega)⟩
              try simp only [Int.toNat_natCast, Int.one_mul] at h
              unfold errZ
              rw [if_neg (by omega), if_pos (by omega)]
            · refine oO rfl (k0B rfl rfl ?_)
              refine oO rfl (aB rfl ?_)
              refine ops_nil ?_
              refine cE rfl ?_
              refine cR ?_
              refine oO rfl (mS rfl ?_)
              refine oO rfl (oC rfl fc84 rfl ?_)
              obtain ⟨_, s9, hr, rfl, Hc⟩ := anyBad_ok hI H.fine (hl.kept H) (by omega) (by have := H.most; omega)
              refine ⟨_, _, hr, ?_⟩
              clear hr
              have H := H.call0 Hc
              clear Hc
              have H := H.up (show 0 + 8192 ≤ 8192 by omega)
              cases hb2 : l.any (fun x => !splitB x.w x.p)
              · refine oO rfl (aB rfl ?_)
                refine ops_nil ?_
                refine cE rfl ?_
                refine cw_skip ?_
                refine blk_norm ?_
                refine sN ?_
                refine cw_seq ?_
                simp only [Int.toNat_natCast, Int.one_mul] at h
                refine cR ?_
                refine oO rfl (mS rfl ?_)
                refine oO rfl (op_len un24 rfl rfl rfl ?_)
                refine oO rfl (op_moveC ?_)
                refine ops_nil ?_
                refine cw_block ?_
                refine cw_loop (fun k F s1 => ∃ (G : FF) (i : Nat), F = lay G [(41, .slice a js.length cap), (42, .int .i64 (js.length : Int)), (43, .int .i64 (i : Int))] ∧ HL [] s s1 [] (8192 + i) ∧ i ≤ js.length ∧ k = js.length - i ∧ joinsB js = joinsB (js.drop i)) ?_ js.length _ _ ?_
                · rintro k F s1 ⟨G, i, rfl, H, hi, rfl, hn⟩
                  refine cR ?_
                  refine oO rfl (op_lss rfl rfl (fun h => ?_) (fun h => ?_))
                  · refine ops_nil ?_
                    refine cw_seq ?_
                    refine cT rfl ?_
                    refine cw_skip ?_
                    refine sN ?_
                    refine cw_seq ?_
                    refine cw_block ?_
                    refine cR ?_
                    obtain ⟨b, off, c, rfl, hg, hb, hc⟩ := (hj.kept H).atJ rfl (show i < js.length by omega)
                    refine oO rfl (op_indexS el24 rfl rfl (by (unfold limit at *; omega)) (by (unfold limit at *; omega)) ?_)
                    refine oO rfl (lN sh30 rfl hg hc ?_)
                    refine oO rfl (op_alloc H zf30 (by (unfold limit at *; omega)) (fun b10 s1 H => ?_))
                    refine oO rfl (op_store0 (vs := [.int _ _, .int _ _]) H sz30 rfl rfl rfl rfl rfl (by (unfold limit at *; omega)) (fun s2 H => ?_))
                    refine ops_nil ?_
                    refine cR ?_
                    refine oO rfl (op_indexA el30 rfl rfl (by (unfold limit at *; omega)) (by (unfold limit at *; omega)) ?_)
                    refine oO rfl (lO sh3 rfl (by exact H.own0) rfl ?_)
                    refine oO rfl (op_lss rfl rfl (fun h => ?_) (fun h => ?_))
                    · refine oO rfl (mB rfl ?_)
                      refine oF rfl ?_
                      refine oF rfl ?_
                      refine oF rfl ?_
                      refine oO rfl (op_pick1C rfl ?_)
                      refine oO rfl (mB rfl ?_)
                      refine oF rfl ?_
                      refine oF rfl ?_
                      refine oF rfl ?_
                      refine oO rfl (op_pick1C rfl ?_)
                      refine oO rfl (mB rfl ?_)
                      refine oF rfl ?_
                      refine oF rfl ?_
                      refine oF rfl ?_
                      refine oO rfl (op_pick1C rfl ?_)
                      refine oO rfl (mB rfl ?_)
                      refine oF rfl ?_
                      refine oF rfl ?_
                      refine oF rfl ?_
                      refine oF rfl ?_
                      refine oF rfl ?_
                      refine oO rfl (op_pick1C rfl ?_)
                      refine ops_nil ?_
                      refine cT rfl ?_
                      refine cR ?_
                      refine oO rfl (aC ?_)
                      refine ops_nil ?_
                      refine cw_ret ?_
                      refine blk_ret ?_
                      refine seq_ret ?_
                      refine loop_ret ?_
                      refine blk_ret ?_
                      refine seq_ret ?_
                      refine ret_end ?_
                      refine end_t ?_
                      refine ⟨congrArg (Value.int .i64) ?_, H.drop0.up (by omega)⟩
                      unfold errZ
                      rw [if_neg (by omega), if_neg (by omega), if_neg (by simp [hb2]), if_neg]
                      rw [hn, drop_getD (0, 0) (show i < js.length by omega), joinsB]
                      simp only [Bool.and_eq_true, Bool.not_eq_true', Bool.or_eq_false_iff, decide_eq_false_iff_not]
                      omega
                    · refine oO rfl (mB rfl ?_)
                      refine oO rfl (op_indexA el30 rfl rfl (by (unfold limit at *; omega)) (by (unfold limit at *; omega)) ?_)
                      refine oO rfl (lO sh3 rfl (by exact H.own0) rfl ?_)
                      refine oO rfl (op_geq rfl rfl (fun h => ?_) (fun h => ?_))
                      · refine oO rfl (k0B rfl rfl ?_)
                        refine oO rfl (mB rfl ?_)
                        refine oF rfl ?_
                        refine oF rfl ?_
                        refine oF rfl ?_
                        refine oO rfl (op_pick1C rfl ?_)
                        refine oO rfl (mB rfl ?_)
                        refine oF rfl ?_
                        refine oF rfl ?_
                        refine oF rfl ?_
                        refine oO rfl (op_pick1C rfl ?_)
                        refine oO rfl (mB rfl ?_)
                        refine oF rfl ?_
                        refine oF rfl ?_
                        refine oF rfl ?_
                        refine oF rfl ?_
                        refine oF rfl ?_
                        refine oO rfl (op_pick1C rfl ?_)
                        refine ops_nil ?_
                        refine cT rfl ?_
                        refine cR ?_
                        refine oO rfl (aC ?_)
                        refine ops_nil ?_
                        refine cw_ret ?_
                        refine blk_ret ?_
                        refine seq_ret ?_
                        refine loop_ret ?_
                        refine blk_ret ?_
                        refine seq_ret ?_
                        refine ret_end ?_
                        refine end_t ?_
                        refine ⟨congrArg (Value.int .i64) ?_, H.drop0.up (by omega)⟩
                        unfold errZ
                        rw [if_neg (by omega), if_neg (by omega), if_neg (by simp [hb2]), if_neg]
                        rw [hn, drop_getD (0, 0) (show i < js.length by omega), joinsB]
                        simp only [Bool.and_eq_true, Bool.not_eq_true', Bool.or_eq_false_iff, decide_eq_false_iff_not]
                        omega
                      · refine oO rfl (k0B rfl rfl ?_)
                        refine oO rfl (mB rfl ?_)
                        refine oO rfl (op_indexA el30 rfl rfl (by (unfold limit at *; omega)) (by (unfold limit at *; omega)) ?_)
                        refine oO rfl (lO sh3 rfl (by exact H.own0) rfl ?_)
                        refine oO rfl (op_lss rfl rfl (fun h => ?_) (fun h => ?_))
                        · refine oO rfl (k0B rfl rfl ?_)
                          refine oO rfl (mB rfl ?_)
                          refine oF rfl ?_
                          refine oF rfl ?_
                          refine oF rfl ?_
                          refine oO rfl (op_pick1C rfl ?_)
                          refine oO rfl (mB rfl ?_)
                          refine oF rfl ?_
                          refine oF rfl ?_
                          refine oF rfl ?_
                          refine oF rfl ?_
                          refine oF rfl ?_
                          refine oO rfl (op_pick1C rfl ?_)
                          refine ops_nil ?_
                          refine cT rfl ?_
                          refine cR ?_
                          refine oO rfl (aC ?_)
                          refine ops_nil ?_
                          refine cw_ret ?_
                          refine blk_ret ?_
                          refine seq_ret ?_
                          refine loop_ret ?_
                          refine blk_ret ?_
                          refine seq_ret ?_
                          refine ret_end ?_
                          refine end_t ?_
                          refine ⟨congrArg (Value.int .i64) ?_, H.drop0.up (by omega)⟩
                          unfold errZ
                          rw [if_neg (by omega), if_neg (by omega), if_neg (by simp [hb2]), if_neg]
                          rw [hn, drop_getD (0, 0) (show i < js.length by omega), joinsB]
                          simp only [Bool.and_eq_true, Bool.not_eq_true', Bool.or_eq_false_iff, decide_eq_false_iff_not]
                          omega
                        · refine oO rfl (k0B rfl rfl ?_)
                          refine oO rfl (mB rfl ?_)
                          refine oO rfl (op_indexA el30 rfl rfl (by (unfold limit at *; omega)) (by (unfold limit at *; omega)) ?_)
                          refine oO rfl (lO sh3 rfl (by exact H.own0) rfl ?_)
                          refine oO rfl (op_geq rfl rfl (fun h => ?_) (fun h => ?_))
                          · refine oO rfl (k0B rfl rfl ?_)
                            refine oO rfl (mB rfl ?_)
                            refine oF rfl ?_
                            refine oF rfl ?_
                            refine oF rfl ?_
                            refine oF rfl ?_
                            refine oF rfl ?_
                            refine oO rfl (op_pick1C rfl ?_)
                            refine ops_nil ?_
                            refine cT rfl ?_
                            refine cR ?_
                            refine oO rfl (aC ?_)
                            refine ops_nil ?_
                            refine cw_ret ?_
                            refine blk_ret ?_
                            refine seq_ret ?_
                            refine loop_ret ?_
                            refine blk_ret ?_
                            refine seq_ret ?_
                            refine ret_end ?_
                            refine end_t ?_
                            refine ⟨congrArg (Value.int .i64) ?_, H.drop0.up (by omega)⟩
                            unfold errZ
                            rw [if_neg (by omega), if_neg (by omega), if_neg (by simp [hb2]), if_neg]
                            rw [hn, drop_getD (0, 0) (show i < js.length by omega), joinsB]
                            simp only [Bool.and_eq_true, Bool.not_eq_true', Bool.or_eq_false_iff, decide_eq_false_iff_not]
                            omega
                          · refine oO rfl (k0B rfl rfl ?_)
                            refine oO rfl (mB rfl ?_)
                            refine oO rfl (op_indexA el30 rfl rfl (by (unfold limit at *; omega)) (by (unfold limit at *; omega)) ?_)
                            refine oO rfl (lO sh3 rfl (by exact H.own0) rfl ?_)
                            refine oO rfl (op_indexA el30 rfl rfl (by (unfold limit at *; omega)) (by (unfold limit at *; omega)) ?_)
                            refine oO rfl (lO sh3 rfl (by exact H.own0) rfl ?_)
                            refine oO rfl (op_eql rfl rfl (fun h => ?_) (fun h => ?_))
                            · refine oO rfl (k0B rfl rfl ?_)
                              refine ops_nil ?_
                              refine cT rfl ?_
                              refine cR ?_
                              refine oO rfl (aC ?_)
                              refine ops_nil ?_
                              refine cw_ret ?_
                              refine blk_ret ?_
                              refine seq_ret ?_
                              refine loop_ret ?_
                              refine blk_ret ?_
                              refine seq_ret ?_
                              refine ret_end ?_
                              refine end_t ?_
                              refine ⟨congrArg (Value.int .i64) ?_, H.drop0.up (by omega)⟩
                              unfold errZ
                              rw [if_neg (by omega), if_neg (by omega), if_neg (by simp [hb2]), if_neg]
                              rw [hn, drop_getD (0, 0) (show i < js.length by omega), joinsB]
                              simp only [Bool.and_eq_true, Bool.not_eq_true', Bool.or_eq_false_iff, decide_eq_false_iff_not]
                              omega
                            · refine oO rfl (k0B rfl rfl ?_)
                              refine ops_nil ?_
                              refine cE rfl ?_
                              refine cw_skip ?_
                              refine blk_norm ?_
                              refine sN ?_
                              refine cG ?_
                              refine oO rfl (op_add rfl rfl (by unfold In64; (unfold limit at *; omega)) ?_)
                              refine oO rfl (mI rfl ?_)
                              refine ops_nil ?_
                              refine loop_norm ?_
                              refine ⟨js.length - (i + 1), by omega, _, i + 1, slots ⟨rfl, rfl, rfl, trivial⟩, H.drop0.up (by omega), by omega, rfl, ?_⟩
                              rw [hn, drop_getD (0, 0) (show i < js.length by omega), joinsB]
                              simp only [Bool.and_eq_right_iff_imp, Bool.not_eq_true', Bool.or_eq_false_iff, decide_eq_false_iff_not]
                              intro _
                              omega
                  · refine ops_nil ?_
                    refine cw_seq ?_
                    refine cE rfl ?_
                    refine cw_exit ?_
                    refine seq_exit ?_
                    refine loop_exit ?_
                    refine blk_here ?_
                    refine sN ?_
                    refine cR ?_
                    refine oO rfl (aC ?_)
                    refine ops_nil ?_
                    refine cw_ret ?_
                    refine ret_end ?_
                    refine end_t ?_
                    refine ⟨congrArg (Value.int .i64) ?_, H.up (by omega)⟩
                    unfold errZ
                    rw [if_neg (by omega), if_neg (by omega), if_neg (by simp [hb2]), hn, List.drop_eq_nil_of_le (by omega)]
                    rfl
                · exact ⟨_, 0, slots ⟨rfl, rfl, rfl, trivial⟩, H, by omega, by omega, rfl⟩
              · refine oO rfl (aB rfl ?_)
                refine ops_nil ?_
                refine cT rfl ?_
                refine cR ?_
                refine oO rfl (aC ?_)
                refine ops_nil ?_
                refine cw_ret ?_
                refine blk_ret ?_
                refine seq_ret ?_
                refine ret_end ?_
                refine end_t ?_
                refine ⟨congrArg (Value.int .i64) ?_, H.up (by omega)⟩
                simp only [Int.toNat_natCast, Int.one_mul] at h
                unfold errZ
                rw [if_neg (by omega), if_neg (by omega), if_pos hb2]

end Go.Proofs.YtdejleegamcioaaGreat
namespace Go.Proofs.YtdejleegamcioaaGreat
open Go Go.M

theorem fb24 : funcB Tryz.f24 (Tryz.f24.body.getD .skip) 2 = true := by kernel_rfl
theorem sl24 : sliceF Tryz.prog 24 = some (30, 2, 16, [.int .i64 0, .int .i64 0]) := by kernel_rfl
theorem sz62 : sizeF Tryz.prog 62 = some 10 := by kernel_rfl
theorem zf62 : zeroF Tryz.prog 62 = some [.int .i64 0, .int .i64 0, .bool false, .slice none 0 0, .bool false, .slice none 0 0, .bool false, .slice none 0 0, .bool false, .slice none 0 0] := by kernel_rfl


end Go.Proofs.YtdejleegamcioaaGreat
namespace Go.Proofs.YtdejleegamcioaaGreat
open Go Go.M

theorem fb25 : funcB Tryz.f25 (Tryz.f25.body.getD .skip) 2 = true := by kernel_rfl
theorem fc26 : funcF Tryz.prog 26 = true := by kernel_rfl
theorem un4 : Tryz.prog.underlying 4 = some (.bool) := by kernel_rfl


end Go.Proofs.YtdejleegamcioaaGreat
namespace Go.Proofs.YtdejleegamcioaaGreat
open Go Go.M

theorem fb211 : funcB Tryz.f211 (Tryz.f211.body.getD .skip) 2 = true := by kernel_rfl
theorem bf56 : buildF Tryz.prog 56 = some ([.bool false, .slice none 0 0], [(0, 1), (1, 1)]) := by kernel_rfl
theorem fb167 : funcB Tryz.f167 (Tryz.f167.body.getD .skip) 2 = true := by kernel_rfl
theorem sh56 : shapeOf Tryz.prog 56 = some (some 2) := by kernel_rfl
theorem sl22 : sliceF Tryz.prog 22 = some (3, 1, 8, [.int .i64 0]) := by kernel_rfl
theorem sz56 : sizeF Tryz.prog 56 = some 2 := by kernel_rfl
theorem zf56 : zeroF Tryz.prog 56 = some [.bool false, .slice none 0 0] := by kernel_rfl
theorem fb169 : funcB Tryz.f169 (Tryz.f169.body.getD .skip) 2 = true := by kernel_rfl

def dc (x : Int) : List Value := [.int .i64 x]
abbrev SlD (s : St) (v : Value) (l : List Int) : Prop := Sl s 3 1 v (l.map dc)
theorem Sl.atD {s : St} {e : TypeId} {a : Option Addr} {len cap : Nat} {l : List Int} (h : Sl s e 1 (.slice a len cap) (l.map dc)) {i : Int} {k : Nat} (hi : i = (k : Int)) (hk : k < l.length) : ∃ b off c, a = some ⟨b, off, none⟩ ∧ s.get b = some (.cells c e) ∧ b < s.next ∧ lget c (off + i.toNat * 1) = some (.int .i64 (l.getD k 0)) := by
  obtain ⟨b, off, c, h1, h2, h3, h4⟩ := h.at hi (k := k) (by simpa using hk)
  refine ⟨b, off, c, h1, h2, h3, ?_⟩
  rw [getD_map (y := (0 : Int)) hk, ltake_eq, ldrop_eq] at h4
  split at h4
  · next hle =>
    rw [Option.some.injEq] at h4
    rw [List.length_drop] at hle
    have : ((c.drop (off + i.toNat * 1)).take 1)[0]? = (dc (l.getD k 0))[0]? := by rw [h4]
    rw [List.getElem?_take, if_pos (by omega), List.getElem?_drop] at this
    rw [lget_eq]
    simpa [dc] using this
  · cases h4
theorem Sl.take {s : St} {e : TypeId} {sz : Nat} {a : Option Addr} {len cap : Nat} {es : List (List Value)} (h : Sl s e sz (.slice a len cap) es) {m : Nat} (hm : m ≤ es.length) : Sl s e sz (.slice a m cap) (es.take m) := by
  cases h with
  | nil c hv hl =>
    subst hl
    cases hv
    simp only [List.length_nil, Nat.le_zero] at hm
    subst hm
    exact .nil _ rfl (by simp)
  | block b off cap c hv hg hb hcap hc =>
    cases hv
    have hlen : (es.take m).length = m := by simp; omega
    refine .block b off cap c (by rw [hlen]) hg hb (by omega) fun k hk => ?_
    rw [hlen] at hk
    rw [hc k (by omega)]
    simp [List.getD_eq_getElem?_getD, List.getElem?_take, hk]
theorem Sl.prot {s : St} {e : TypeId} {sz : Nat} {v : Value} {es : List (List Value)} (h : Sl s e sz v es) {X : List Nat} : Sl { s with prot := X ++ s.prot } e sz v es := by
  cases h with
  | nil c hv hl => exact .nil c hv hl
  | block b off cap c hv hg hb hcap hc => exact .block b off cap c hv hg hb hcap hc
/-- How many digits are left without the zeros at the end. -/
def nlen (l : List Int) : Nat → Nat
  | 0 => 0
  | n + 1 => if l.getD n 0 = 0 then nlen l n else n + 1
theorem nlen_le (l : List Int) : ∀ n, nlen l n ≤ n
  | 0 => Nat.le_refl _
  | n + 1 => by simp only [nlen]; split; { have := nlen_le l n; omega }; { omega }
def nv (a : Option Addr) (n cap : Nat) : Value := if n = 0 then .slice none 0 0 else .slice a n cap

set_option maxHeartbeats 4000000 in
set_option maxRecDepth 10000 in
theorem digit_ok {I : Table} (hI : Plain I) {s : St} {v : Value} {l : List Int} {i : Int} (hl : SlD s v l) (hi : 0 ≤ i) : ∃ v' s', Rets Tryz.prog I 211 #[v, .int .i64 i] s v' s' ∧ (v' = .int .i64 (l.getD i.toNat 0) ∧ s' = s) := by
  obtain ⟨a, len, cap, rfl, hn⟩ := hl.isSlice
  rw [List.length_map] at hn
  subst hn
  refine call_of 2 (hI 211 (by decide) (by decide)) Tryz.func211 rfl fb211 rfl ?_
  refine cR ?_
  refine oO rfl (aC ?_)
  refine ops_nil ?_
  refine cw_seq ?_
  refine cR ?_
  refine oO rfl (mI rfl ?_)
  refine oO rfl (mS rfl ?_)
  refine oO rfl (op_len un22 rfl rfl rfl ?_)
  refine oO rfl (op_lss rfl rfl (fun h => ?_) (fun h => ?_))
  · refine ops_nil ?_
    refine cT rfl ?_
    refine cR ?_
    refine oO rfl (mS rfl ?_)
    refine oO rfl (mI rfl ?_)
    obtain ⟨b, off, c, rfl, hg, hb, hc⟩ := hl.atD (i := i) (k := i.toNat) (by omega) (by omega)
    refine oO rfl (op_indexS el22 rfl rfl (by omega) (by omega) ?_)
    refine oO rfl (lO sh3 rfl hg hc ?_)
    refine oO rfl (aI rfl ?_)
    refine ops_nil ?_
    refine cw_ret ?_
    refine seq_ret ?_
    refine ret_end ?_
    refine end_t ?_
    exact ⟨rfl, rfl⟩
  · refine ops_nil ?_
    refine cE rfl ?_
    refine cw_skip ?_
    refine sN ?_
    refine cR ?_
    refine oO rfl (aC ?_)
    refine ops_nil ?_
    refine cw_ret ?_
    refine ret_end ?_
    refine end_t ?_
    refine ⟨congrArg (Value.int .i64) ?_, rfl⟩
    rw [List.getD_eq_getElem?_getD, List.getElem?_eq_none (by omega)]
    rfl

set_option maxHeartbeats 4000000 in
set_option maxRecDepth 10000 in
theorem normal_ok {I : Table} (hI : Plain I) {s : St} (hf : Fine s) {a : Option Addr} {cap : Nat} {neg : Bool} {l : List Int} (hl : SlD s (.slice a l.length cap) l) (hlen : l.length ≤ 1000) (hroom : s.next + 1 ≤ limit) :
    ∃ v' s', Rets Tryz.prog I 167 #[.bool neg, .slice a l.length cap] s v' s' ∧ (v' = .agg ⟨[.bool (if nlen l l.length = 0 then false else neg), nv a (nlen l l.length) cap]⟩ ∧ HL [] s s' [] 1) := by
  have H := hf.hl
  have hcap := hl.cap
  have hle := nlen_le l l.length
  refine call_of 2 (hI 167 (by decide) (by decide)) Tryz.func167 rfl fb167 rfl ?_
  refine cR ?_
  refine oO rfl (op_alloc H zf56 (by (unfold limit at *; omega)) (fun b4 s1 H => ?_))
  refine ops_nil ?_
  refine cR ?_
  refine oO rfl (mS rfl ?_)
  refine oO rfl (op_len un22 rfl rfl rfl ?_)
  refine oO rfl (aI rfl ?_)
  refine ops_nil ?_
  refine cw_seq ?_
  refine cw_block ?_
  refine cw_loop (fun k F s1 => ∃ (G : FF) (m : Nat), F = lay G [(0, .bool neg), (1, .slice a l.length cap), (4, .pointer (some ⟨b4, 0, none⟩)), (5, .int .i64 (m : Int))] ∧ HL [] s s1 [(b4, .cells [.bool false, .slice none 0 0] 56)] 1 ∧ m ≤ l.length ∧ k = m ∧ nlen l l.length = nlen l m) ?_ l.length _ _ ?_
  · rintro k F s1 ⟨G, m, rfl, H, hm, rfl, hn⟩
    refine cw_seq ?_
    refine cR ?_
    refine oO rfl (mI rfl ?_)
    refine oO rfl (op_gtr rfl rfl (fun h => ?_) (fun h => ?_))
    · refine oO rfl (mB rfl ?_)
      refine oO rfl (mS rfl ?_)
      refine oO rfl (mI rfl ?_)
      refine oO rfl (op_sub rfl rfl (by unfold In64; (unfold limit at *; omega)) ?_)
      refine oO rfl (op_max rfl rfl rfl ?_)
      obtain ⟨b, off, c, rfl, hg, hb, hc⟩ := (hl.kept H).atD (i := max ((k : Int) - 1) 0) (k := k - 1) (by omega) (by omega)
      refine oO rfl (op_indexS el22 rfl rfl (by (unfold limit at *; omega)) (by (unfold limit at *; omega)) ?_)
      refine oO rfl (lO sh3 rfl hg hc ?_)
      refine oO rfl (op_eql rfl rfl (fun h => ?_) (fun h => ?_))
      · refine oO rfl (k1B rfl rfl ?_)
        refine ops_nil ?_
        refine cT rfl ?_
        refine cw_skip ?_
        refine sN ?_
        refine cw_block ?_
        refine cG ?_
        refine oO rfl (mI rfl ?_)
        refine oO rfl (op_sub rfl rfl (by unfold In64; (unfold limit at *; omega)) ?_)
        refine oO rfl (aI rfl ?_)
        refine ops_nil ?_
        refine blk_norm ?_
        refine loop_norm ?_
        obtain ⟨m, rfl⟩ : ∃ j, k = j + 1 := ⟨k - 1, by omega⟩
        simp only [Nat.add_sub_cancel] at h
        refine ⟨m, by omega, _, m, slots ⟨rfl, rfl, rfl, by show Value.int .i64 (((m + 1 : Nat) : Int) - 1) = _; congr 1; omega, trivial⟩, H, by omega, rfl, ?_⟩
        rw [hn, nlen, if_pos h]
      · refine oO rfl (k1B rfl rfl ?_)
        refine ops_nil ?_
        refine cE rfl ?_
        refine cw_exit ?_
        refine seq_exit ?_
        refine loop_exit ?_
        refine blk_here ?_
        refine sN ?_
        refine cw_seq ?_
        refine cR ?_
        refine oO rfl (mI rfl ?_)
        refine oO rfl (op_eql rfl rfl (fun h => ?_) (fun h => ?_))
        · refine ops_nil ?_
          refine cT rfl ?_
          exfalso
          omega
        · refine ops_nil ?_
          refine cE rfl ?_
          refine cw_skip ?_
          refine sN ?_
          refine cR ?_
          refine oO rfl (mB rfl ?_)
          refine oO rfl (mS rfl ?_)
          refine oO rfl (mI rfl ?_)
          refine oO rfl (op_sliceHi sl22 rfl rfl rfl hg (by omega) ?_)
          refine oO rfl (op_build (c := [.bool _, .slice _ _ _]) bf56 rfl ?_)
          refine oO rfl (op_store0 (vs := [.bool _, .slice _ _ _]) H sz56 rfl rfl rfl rfl rfl (by (unfold limit at *; omega)) (fun s2 H => ?_))
          refine ops_nil ?_
          refine cw_ret ?_
          refine ret_end ?_
          refine end_cell sh56 rfl (by exact H.own0) rfl ?_
          refine ⟨?_, H.drop0⟩
          have hk : nlen l k = k := by
            obtain ⟨m, rfl⟩ : ∃ j, k = j + 1 := ⟨k - 1, by omega⟩
            rw [nlen, if_neg (by assumption)]
          rw [hn, hk, if_neg (by omega), nv, if_neg (by omega)]
    · refine oO rfl (mB rfl ?_)
      refine oF rfl ?_
      refine oF rfl ?_
      refine oF rfl ?_
      refine oF rfl ?_
      refine oF rfl ?_
      refine oF rfl ?_
      refine oF rfl ?_
      refine oO rfl (op_pick0C rfl ?_)
      refine ops_nil ?_
      refine cE rfl ?_
      refine cw_exit ?_
      refine seq_exit ?_
      refine loop_exit ?_
      refine blk_here ?_
      refine sN ?_
      refine cw_seq ?_
      refine cR ?_
      refine oO rfl (mI rfl ?_)
      refine oO rfl (op_eql rfl rfl (fun h => ?_) (fun h => ?_))
      · refine ops_nil ?_
        refine cT rfl ?_
        refine cR ?_
        refine oO rfl (op_build (c := [.bool _, .slice _ _ _]) bf56 rfl ?_)
        refine oO rfl (op_store0 (vs := [.bool _, .slice _ _ _]) H sz56 rfl rfl rfl rfl rfl (by (unfold limit at *; omega)) (fun s3 H => ?_))
        refine ops_nil ?_
        refine cw_ret ?_
        refine seq_ret ?_
        refine ret_end ?_
        refine end_cell sh56 rfl (by exact H.own0) rfl ?_
        refine ⟨?_, H.drop0⟩
        have hz : k = 0 := by omega
        rw [hn, hz]
        rfl
      · refine ops_nil ?_
        refine cE rfl ?_
        refine cw_skip ?_
        refine sN ?_
        exfalso
        omega
  · exact ⟨_, l.length, slots ⟨rfl, rfl, rfl, rfl, trivial⟩, H, by omega, rfl, rfl⟩

def cmpD (la lb : List Int) : Nat → Int
  | 0 => 0
  | n + 1 => if la.getD n 0 < lb.getD n 0 then -1 else if lb.getD n 0 < la.getD n 0 then 1 else cmpD la lb n
/-- sherdref03.compared -/
def cmpZ (la lb : List Int) : Int := if la.length < lb.length then -1 else if lb.length < la.length then 1 else cmpD la lb la.length

set_option maxHeartbeats 4000000 in
set_option maxRecDepth 10000 in
theorem compared_ok {I : Table} (hI : Plain I) {s : St} {va vb : Value} {la lb : List Int} (ha : SlD s va la) (hb : SlD s vb lb) (hlen : la.length ≤ 1000) (hroom : s.next ≤ limit) : ∃ v' s', Rets Tryz.prog I 169 #[va, vb] s v' s' ∧ (v' = .int .i64 (cmpZ la lb) ∧ s' = s) := by
  obtain ⟨a, len, cap, rfl, hn⟩ := ha.isSlice
  rw [List.length_map] at hn
  subst hn
  obtain ⟨a2, len2, cap2, rfl, hn2⟩ := hb.isSlice
  rw [List.length_map] at hn2
  subst hn2
  refine call_of 2 (hI 169 (by decide) (by decide)) Tryz.func169 rfl fb169 rfl ?_
  refine cR ?_
  refine oO rfl (aC ?_)
  refine ops_nil ?_
  refine cw_seq ?_
  refine cR ?_
  refine oO rfl (mS rfl ?_)
  refine oO rfl (op_len un22 rfl rfl rfl ?_)
  refine oO rfl (mS rfl ?_)
  refine oO rfl (op_len un22 rfl rfl rfl ?_)
  refine oO rfl (op_lss rfl rfl (fun h => ?_) (fun h => ?_))
  · refine ops_nil ?_
    refine cT rfl ?_
    refine cR ?_
    refine oO rfl (aC ?_)
    refine ops_nil ?_
    refine cw_ret ?_
    refine seq_ret ?_
    refine ret_end ?_
    refine end_t ?_
    refine ⟨congrArg (Value.int .i64) ?_, rfl⟩
    unfold cmpZ
    rw [if_pos (by omega)]
  · refine ops_nil ?_
    refine cE rfl ?_
    refine cw_skip ?_
    refine sN ?_
    refine cw_seq ?_
    refine cR ?_
    refine oO rfl (mS rfl ?_)
    refine oO rfl (op_len un22 rfl rfl rfl ?_)
    refine oO rfl (mS rfl ?_)
    refine oO rfl (op_len un22 rfl rfl rfl ?_)
    refine oO rfl (op_gtr rfl rfl (fun h => ?_) (fun h => ?_))
    · refine ops_nil ?_
      refine cT rfl ?_
      refine cR ?_
      refine oO rfl (aC ?_)
      refine ops_nil ?_
      refine cw_ret ?_
      refine seq_ret ?_
      refine ret_end ?_
      refine end_t ?_
      refine ⟨congrArg (Value.int .i64) ?_, rfl⟩
      unfold cmpZ
      rw [if_neg (by omega), if_pos (by omega)]
    · refine ops_nil ?_
      refine cE rfl ?_
      refine cw_skip ?_
      refine sN ?_
      refine cw_seq ?_
      refine cR ?_
      refine oO rfl (mS rfl ?_)
      refine oO rfl (op_len un22 rfl rfl rfl ?_)
      refine oO rfl (op_sub rfl rfl (by unfold In64; (unfold limit at *; omega)) ?_)
      refine oO rfl (aI rfl ?_)
      refine ops_nil ?_
      refine cw_block ?_
      refine cw_loop (fun k F s1 => ∃ (G : FF) (m : Nat), F = lay G [(0, .slice a la.length cap), (1, .slice a2 lb.length cap2), (5, .int .i64 ((m : Int) - 1))] ∧ s1 = s ∧ m ≤ la.length ∧ k = m ∧ cmpD la lb la.length = cmpD la lb m) ?_ la.length _ _ ?_
      · rintro k F s1 ⟨G, m, rfl, rfl, hm, rfl, hn⟩
        refine cw_seq ?_
        refine cR ?_
        refine oO rfl (mI rfl ?_)
        refine oO rfl (op_geq rfl rfl (fun h => ?_) (fun h => ?_))
        · refine ops_nil ?_
          refine cT rfl ?_
          refine cw_skip ?_
          refine sN ?_
          refine cw_seq ?_
          refine cw_block ?_
          refine cw_seq ?_
          obtain ⟨m, rfl⟩ : ∃ j, k = j + 1 := ⟨k - 1, by omega⟩
          obtain ⟨b1, off1, c1, rfl, hg1, hb1, hc1⟩ := ha.atD (i := ((m + 1 : Nat) : Int) - 1) (k := m) (by omega) (by omega)
          obtain ⟨b2, off2, c2, rfl, hg2, hb2, hc2⟩ := hb.atD (i := ((m + 1 : Nat) : Int) - 1) (k := m) (by omega) (by omega)
          have hl1 : b1 < limit := by omega
          have hl2 : b2 < limit := by omega
          refine cw_dseq [⟨0, 0, .light, [7]⟩, ⟨1, 0, .light, [7]⟩, ⟨2, 3, .light, [7]⟩, ⟨3, 7, .light, [7]⟩, ⟨4, 0, .light, [3]⟩, ⟨5, 0, .light, [3]⟩, ⟨6, 48, .light, [3]⟩, ⟨7, 112, .light, [3]⟩, ⟨8, 255, .light, []⟩] (by kernel_rfl) (by kernel_rfl) ?_
          refine dL rfl rfl (mS rfl ⟨rfl, ?_⟩)
          refine dL rfl rfl (mI rfl ⟨rfl, ?_⟩)
          refine dL rfl rfl (op_indexS el22 rfl rfl (by (unfold limit at *; omega)) (by (unfold limit at *; omega)) ⟨rfl, ?_⟩)
          refine dr_load1 rfl rfl sh3 rfl hg1 hl1 hc1 ?_
          refine dL rfl rfl (mS rfl ⟨rfl, ?_⟩)
          refine dL rfl rfl (mI rfl ⟨rfl, ?_⟩)
          refine dL rfl rfl (op_indexS el22 rfl rfl (by (unfold limit at *; omega)) (by (unfold limit at *; omega)) ⟨rfl, ?_⟩)
          refine dr_load1 rfl rfl sh3 rfl hg2 hl2 hc2 ?_
          refine dL rfl rfl (op_lss rfl rfl (fun h => ⟨rfl, ?_⟩) (fun h => ⟨rfl, ?_⟩))
          · refine draw_nil ?_
            refine cT rfl ?_
            refine cR ?_
            refine oO rfl (aC ?_)
            refine ops_nil ?_
            refine cw_ret ?_
            refine seq_ret ?_
            refine blk_ret ?_
            refine seq_ret ?_
            refine loop_ret ?_
            refine blk_ret ?_
            refine seq_ret ?_
            refine ret_end ?_
            refine end_t ?_
            refine ⟨congrArg (Value.int .i64) ?_, rfl⟩
            unfold cmpZ
            rw [if_neg (by omega), if_neg (by omega), hn, cmpD, if_pos (by assumption)]
          · refine draw_nil ?_
            refine cE rfl ?_
            refine cw_skip ?_
            refine sN ?_
            refine cw_dseq [⟨0, 0, .light, [7]⟩, ⟨1, 0, .light, [7]⟩, ⟨2, 3, .light, [7]⟩, ⟨3, 7, .light, [7]⟩, ⟨4, 0, .light, [3]⟩, ⟨5, 0, .light, [3]⟩, ⟨6, 48, .light, [3]⟩, ⟨7, 112, .light, [3]⟩, ⟨8, 255, .light, []⟩] (by kernel_rfl) (by kernel_rfl) ?_
            refine dL rfl rfl (mS rfl ⟨rfl, ?_⟩)
            refine dL rfl rfl (mI rfl ⟨rfl, ?_⟩)
            refine dL rfl rfl (op_indexS el22 rfl rfl (by (unfold limit at *; omega)) (by (unfold limit at *; omega)) ⟨rfl, ?_⟩)
            refine dr_load1 rfl rfl sh3 rfl hg1 hl1 hc1 ?_
            refine dL rfl rfl (mS rfl ⟨rfl, ?_⟩)
            refine dL rfl rfl (mI rfl ⟨rfl, ?_⟩)
            refine dL rfl rfl (op_indexS el22 rfl rfl (by (unfold limit at *; omega)) (by (unfold limit at *; omega)) ⟨rfl, ?_⟩)
            refine dr_load1 rfl rfl sh3 rfl hg2 hl2 hc2 ?_
            refine dL rfl rfl (op_gtr rfl rfl (fun h => ⟨rfl, ?_⟩) (fun h => ⟨rfl, ?_⟩))
            · refine draw_nil ?_
              refine cT rfl ?_
              refine cR ?_
              refine oO rfl (aC ?_)
              refine ops_nil ?_
              refine cw_ret ?_
              refine blk_ret ?_
              refine seq_ret ?_
              refine loop_ret ?_
              refine blk_ret ?_
              refine seq_ret ?_
              refine ret_end ?_
              refine end_t ?_
              refine ⟨congrArg (Value.int .i64) ?_, rfl⟩
              unfold cmpZ
              rw [if_neg (by omega), if_neg (by omega), hn, cmpD, if_neg (by assumption), if_pos (by assumption)]
            · refine draw_nil ?_
              refine cE rfl ?_
              refine cw_skip ?_
              refine blk_norm ?_
              refine sN ?_
              refine cG ?_
              refine oO rfl (mI rfl ?_)
              refine oO rfl (op_sub rfl rfl (by unfold In64; (unfold limit at *; omega)) ?_)
              refine oO rfl (aI rfl ?_)
              refine ops_nil ?_
              refine loop_norm ?_
              refine ⟨m, by omega, _, m, slots ⟨rfl, rfl, by show Value.int .i64 (((m + 1 : Nat) : Int) - 1 - 1) = _; congr 1; omega, trivial⟩, rfl, by omega, rfl, ?_⟩
              rw [hn, cmpD, if_neg (by assumption), if_neg (by assumption)]
        · refine ops_nil ?_
          refine cE rfl ?_
          refine cw_exit ?_
          refine seq_exit ?_
          refine loop_exit ?_
          refine blk_here ?_
          refine sN ?_
          refine cR ?_
          refine oO rfl (aC ?_)
          refine ops_nil ?_
          refine cw_ret ?_
          refine ret_end ?_
          refine end_t ?_
          refine ⟨congrArg (Value.int .i64) ?_, rfl⟩
          unfold cmpZ
          rw [if_neg (by omega), if_neg (by omega), hn, show k = 0 by omega]
          rfl
      · exact ⟨_, la.length, slots ⟨rfl, rfl, rfl, trivial⟩, rfl, by omega, rfl, rfl⟩

/-- A slice in these blocks. -/
inductive SlIn (D : Hp') (v : Value) (l : List Int) : Prop
  | nil (c : Nat) (hv : v = .slice none 0 c) (hl : l = []) : SlIn D v l
  | block (b off cap : Nat) (c : List Value) (hv : v = .slice (some ⟨b, off, none⟩) l.length cap) (hg : (b, .cells c 3) ∈ D) (hcap : l.length ≤ cap / 2) (hc : ∀ k, k < l.length → ltake 1 (ldrop (off + k * 1) c) = some (dc (l.getD k 0))) : SlIn D v l
theorem SlIn.sl {D : Hp'} {v : Value} {l : List Int} (h : SlIn D v l) {W : List Nat} {s0 s : St} {L : Hp'} {n : Nat} (H : HL W s0 s L n) (hs : D ⊆ L) : SlD s v l := by
  cases h with
  | nil c hv hl => exact .nil c hv (by simp [hl])
  | block b off cap c hv hg hcap hc =>
    have ho := H.own _ (hs hg)
    exact .block b off cap c (by simpa using hv) ho.1 ho.2.1 (by simpa using hcap) fun k hk => by
      rw [List.length_map] at hk
      rw [hc k hk, getD_map hk]
theorem SlIn.mono {D D' : Hp'} {v : Value} {l : List Int} (h : SlIn D v l) (hs : D ⊆ D') : SlIn D' v l := by
  cases h with
  | nil c hv hl => exact .nil c hv hl
  | block b off cap c hv hg hcap hc => exact .block b off cap c hv (hs hg) hcap hc
theorem SlIn.take {D : Hp'} {a : Option Addr} {len cap : Nat} {l : List Int} (h : SlIn D (.slice a len cap) l) {m : Nat} (hm : m ≤ l.length) : SlIn D (nv a m cap) (l.take m) := by
  unfold nv
  by_cases hz : m = 0
  · rw [if_pos hz]; subst hz; exact .nil 0 rfl (by simp)
  · rw [if_neg hz]
    cases h with
    | nil c hv hl => rw [hl] at hm; simp at hm; omega
    | block b off cap c hv hg hcap hc =>
      cases hv
      have hlen : (l.take m).length = m := by simp; omega
      refine .block b off cap c (by rw [hlen]) hg (by omega) fun k hk => ?_
      rw [hlen] at hk
      rw [hc k (by omega)]
      simp [List.getD_eq_getElem?_getD, List.getElem?_take, hk]
theorem dc_flat {l : List Int} {k : Nat} (h : k < l.length) : ltake 1 (ldrop (0 + k * 1) (ints l)) = some (dc (l.getD k 0)) := by
  rw [ltake_eq, ldrop_eq, Nat.zero_add, Nat.mul_one]
  have hl : (ints l).length = l.length := by simp [ints]
  rw [if_pos (by rw [List.length_drop]; omega)]
  rw [List.drop_eq_getElem_cons (by omega), List.take_succ_cons, List.take_zero]
  simp [ints, dc, List.getD_eq_getElem?_getD, List.getElem?_eq_getElem h]
theorem Own.slIn {D : Hp'} {v : Value} {l : List Int} {len : Nat} (h : Own 3 1 D v (ints l) len) : len = l.length ∧ SlIn D v l := by
  have hi : (ints l).length = l.length := by simp [ints]
  generalize hc : ints l = c at h
  cases h with
  | nil =>
    have : l = [] := by simpa [ints] using hc
    subst this
    exact ⟨rfl, .nil 0 rfl rfl⟩
  | block b cap c len hl hcap =>
    subst hc
    have e : len = l.length := by omega
    subst e
    exact ⟨rfl, .block b 0 cap _ rfl (by simp) (by omega) fun k hk => dc_flat hk⟩

end Go.Proofs.YtdejleegamcioaaGreat
