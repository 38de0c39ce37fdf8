/- The reference of integers: a number of 64 bits as digits. -/
/- The reference of integers: products with one, differences of equal numbers. -/
/- The reference of integers: products with one. -/
/- The reference of integers: division by one. -/
import Derived.Test.YtdejleegamcioaaGreatL12
namespace Go.Proofs.YtdejleegamcioaaGreat
open Go Go.M

theorem fb113 : funcB Tryz.f113 (Tryz.f113.body.getD .skip) 1 = true := by kernel_rfl
theorem fc167 : funcF Tryz.prog 167 = true := by kernel_rfl

/-- The digits of a number. -/
def dgs : Nat → Nat → List Int
  | 0, _ => []
  | f + 1, n => if n = 0 then [] else ((n % 1000000000 : Nat) : Int) :: dgs f (n / 1000000000)
def Dig (l : List Int) : Prop := ∀ x ∈ l, 0 ≤ x ∧ x < 1000000000
theorem Dig.at {l : List Int} (h : Dig l) (k : Nat) : 0 ≤ l.getD k 0 ∧ l.getD k 0 < 1000000000 := by
  by_cases hk : k < l.length
  · exact h _ (getD_mem hk)
  · rw [List.getD_eq_getElem?_getD, List.getElem?_eq_none (by omega)]; simp
theorem dgs_dig : ∀ f n, Dig (dgs f n)
  | 0, n => by intro x hx; cases hx
  | f + 1, n => by
    intro x hx
    simp only [dgs] at hx
    split at hx
    · cases hx
    · rcases List.mem_cons.mp hx with rfl | hx
      · omega
      · exact dgs_dig f _ x hx
theorem dgs_len : ∀ f n, (dgs f n).length ≤ f
  | 0, n => Nat.le_refl _
  | f + 1, n => by
    simp only [dgs]
    split
    · simp
    · have := dgs_len f (n / 1000000000); simp; omega
theorem dgs_small {n f : Nat} (h : n < 1000000000) : dgs (f + 1) n = if n = 0 then [] else [(n : Int)] := by
  simp only [dgs]
  split
  · rfl
  · have e1 : n % 1000000000 = n := Nat.mod_eq_of_lt h
    have e2 : n / 1000000000 = 0 := Nat.div_eq_of_lt h
    rw [e1, e2]
    cases f <;> simp [dgs]
theorem dgs_last : ∀ f n, n < 1000000000 ^ f → dgs f n = [] ∨ (dgs f n).getD ((dgs f n).length - 1) 0 ≠ 0
  | 0, n, _ => .inl rfl
  | f + 1, n, h => by
    simp only [dgs]
    by_cases hn : n = 0
    · rw [if_pos hn]; exact .inl rfl
    · rw [if_neg hn]
      right
      have h2 : n / 1000000000 < 1000000000 ^ f := by
        rw [Nat.pow_succ] at h
        exact Nat.div_lt_of_lt_mul (by rw [Nat.mul_comm]; exact h)
      rcases dgs_last f (n / 1000000000) h2 with h3 | h3
      · rw [h3]
        have h4 : n / 1000000000 = 0 := by
          cases f with
          | zero => simpa using h2
          | succ f =>
            simp only [dgs] at h3
            split at h3
            · assumption
            · cases h3
        simp
        omega
      · have h5 : 0 < (dgs f (n / 1000000000)).length := by
          cases hq : dgs f (n / 1000000000) with
          | nil => rw [hq] at h3; simp at h3
          | cons a b => simp
        obtain ⟨m, hm⟩ : ∃ m, (dgs f (n / 1000000000)).length = m + 1 := ⟨(dgs f (n / 1000000000)).length - 1, by omega⟩
        rw [hm, Nat.add_sub_cancel] at h3
        simp only [List.length_cons, hm, Nat.add_sub_cancel, List.getD_cons_succ]
        exact h3
theorem dgs_nil {f n : Nat} (h : n < 1000000000 ^ f) (he : dgs f n = []) : n = 0 := by
  cases f with
  | zero => simpa using h
  | succ f =>
    simp only [dgs] at he
    split at he
    · assumption
    · cases he
theorem ints_append (l r : List Int) : ints (l ++ r) = ints l ++ ints r := by simp [ints]
theorem nlen_last {l : List Int} (h : l = [] ∨ l.getD (l.length - 1) 0 ≠ 0) : nlen l l.length = l.length := by
  cases hn : l.length with
  | zero => rfl
  | succ m =>
    rcases h with h | h
    · rw [h] at hn; simp at hn
    · rw [hn, Nat.add_sub_cancel] at h
      rw [nlen, if_neg h]
theorem nv_plain (a : Option Addr) (n c : Nat) : Go.M.plainCell (nv a n c) = true := by unfold nv; split <;> rfl
theorem tmod_abs {x : Int} (h : In64 x) : (0 ≤ x.tmod 1000000000 → x.tmod 1000000000 = ((x.natAbs % 1000000000 : Nat) : Int)) ∧ (x.tmod 1000000000 < 0 → IntKind.i64.wrap (0 - x.tmod 1000000000) = ((x.natAbs % 1000000000 : Nat) : Int)) := by
  have h1 : (x.tmod 1000000000).natAbs = x.natAbs % 1000000000 := by rw [Int.natAbs_tmod]; rfl
  constructor
  · intro h0; omega
  · intro h0; rw [wrap_in ⟨by omega, by omega⟩]; omega
theorem tdiv_abs (x : Int) : (x.tdiv 1000000000).natAbs = x.natAbs / 1000000000 := by rw [Int.natAbs_tdiv]; rfl

set_option maxHeartbeats 4000000 in
set_option maxRecDepth 10000 in
theorem of03_ok {I : Table} (hI : Plain I) {s : St} (hf : Fine s) {n : Int} (hn : In64 n) (hroom : s.next + 10 ≤ limit) :
    ∃ v' s', Rets Tryz.prog I 113 #[.int .i64 n] s v' s' ∧ (∃ D sl, v' = .agg ⟨[.bool (decide (n < 0)), sl]⟩ ∧ HL [] s s' D 10 ∧ SlIn D sl (dgs 3 n.natAbs)) := by
  have H := hf.hl
  have hn0 := hn
  obtain ⟨hn1, hn2⟩ := hn
  refine call_of 1 (hI 113 (by decide) (by decide)) Tryz.func113 rfl fb113 rfl ?_
  refine cR ?_
  refine oO rfl (op_alloc H zf56 (by (unfold limit at *; omega)) (fun b2 s1 H => ?_))
  refine ops_nil ?_
  refine cR ?_
  refine oO rfl (aC ?_)
  refine ops_nil ?_
  refine cR ?_
  refine oO rfl (mI rfl ?_)
  refine oO rfl (op_lss' rfl rfl ?_)
  refine oO rfl (aB rfl ?_)
  refine ops_nil ?_
  refine cw_seq ?_
  refine cw_block ?_
  refine cw_loop (fun k F s1 => ∃ (G : FF) (x : Int) (D : Hp') (v : Value) (l : List Int) (f : Nat), F = lay G [(0, .int .i64 x), (2, .pointer (some ⟨b2, 0, none⟩)), (3, v), (4, .bool (decide (n < 0)))] ∧ HL [] s s1 (D ++ [(b2, .cells [.bool false, .slice none 0 0] 56)]) (1 + 2 * l.length) ∧ Own 3 1 D v (ints l) l.length ∧ k = x.natAbs ∧ In64 x ∧ f + l.length = 3 ∧ dgs 3 n.natAbs = l ++ dgs f x.natAbs ∧ x.natAbs < 1000000000 ^ f) ?_ n.natAbs _ _ ?_
  · rintro k F s1 ⟨G, x, D, v, l, f, rfl, H, ho, rfl, hx, hfl, hdg, hlt⟩
    refine cw_seq ?_
    refine cR ?_
    refine oO rfl (mI rfl ?_)
    refine oO rfl (op_neq rfl rfl (fun h => ?_) (fun h => ?_))
    · refine ops_nil ?_
      refine cT rfl ?_
      refine cw_skip ?_
      refine sN ?_
      refine cw_block ?_
      refine cR ?_
      refine oO rfl (mI rfl ?_)
      refine oO rfl (op_rem rfl rfl (by (unfold limit at *; omega)) ?_)
      refine oO rfl (aI rfl ?_)
      refine ops_nil ?_
      refine cw_seq ?_
      refine cR ?_
      refine oO rfl (mI rfl ?_)
      refine oO rfl (op_lss rfl rfl (fun h => ?_) (fun h => ?_))
      · refine ops_nil ?_
        refine cT rfl ?_
        refine cG ?_
        refine oO rfl (mI rfl ?_)
        refine oO rfl (op_neg rfl ?_)
        refine oO rfl (aI rfl ?_)
        refine ops_nil ?_
        refine sN ?_
        refine cR ?_
        refine oO rfl (op_move ?_)
        refine oO rfl (mI rfl ?_)
        refine oO rfl (op_buildSlice (c := [.int _ _]) H sl22 rfl rfl (by (unfold limit at *; omega)) (fun b18 s2 H => ?_))
        have hgt := H.own0
        have H := H.drop0
        refine oO rfl (op_appendOwn H ho sl22 un22 rfl rfl rfl (elems_all hgt rfl) (by decide) rfl rfl (by omega) (by (unfold limit at *; omega)) (fun b19 s19 H ho => ?_))
        refine oO rfl (aS rfl ?_)
        refine ops_nil ?_
        refine cG ?_
        refine oO rfl (mI rfl ?_)
        refine oO rfl (op_quo rfl rfl (by decide) (by have := tdiv_abs x; obtain ⟨hx1, hx2⟩ := hx; unfold In64; omega) ?_)
        refine oO rfl (aI rfl ?_)
        refine ops_nil ?_
        refine blk_norm ?_
        refine loop_norm ?_
        have hd := tmod_abs hx
        have hdv : IntKind.i64.wrap (0 - x.tmod 1000000000) = ((x.natAbs % 1000000000 : Nat) : Int) := hd.2 (by omega)
        have hq := tdiv_abs x
        obtain ⟨f, rfl⟩ : ∃ j, f = j + 1 := ⟨f - 1, by cases f with | zero => simp at hlt; omega | succ f => omega⟩
        have hne : x.natAbs ≠ 0 := by omega
        refine ⟨(x.tdiv 1000000000).natAbs, by omega, _, x.tdiv 1000000000, [(b19, .cells (ints l ++ [.int .i64 (IntKind.i64.wrap (0 - x.tmod 1000000000))]) 3)], .slice (some ⟨b19, 0, none⟩) (l.length + 1) (2 * (l.length + 1) + 1), l ++ [((x.natAbs % 1000000000 : Nat) : Int)], f, slots ⟨rfl, rfl, rfl, rfl, trivial⟩, ?_, ?_, rfl, ?_, by simp; omega, ?_, ?_⟩
        · rw [List.length_append, List.length_singleton]
          exact H.up (by omega)
        · rw [ints_append, List.length_append, ← hdv]
          exact ho
        · obtain ⟨hx1, hx2⟩ := hx
          unfold In64
          omega
        · rw [hdg, dgs, if_neg hne, hq]
          simp
        · rw [hq]
          rw [Nat.pow_succ] at hlt
          exact Nat.div_lt_of_lt_mul (by rw [Nat.mul_comm]; exact hlt)
      · refine ops_nil ?_
        refine cE rfl ?_
        refine cw_skip ?_
        refine sN ?_
        refine cR ?_
        refine oO rfl (op_move ?_)
        refine oO rfl (mI rfl ?_)
        refine oO rfl (op_buildSlice (c := [.int _ _]) H sl22 rfl rfl (by (unfold limit at *; omega)) (fun b18 s3 H => ?_))
        have hgt := H.own0
        have H := H.drop0
        refine oO rfl (op_appendOwn H ho sl22 un22 rfl rfl rfl (elems_all hgt rfl) (by decide) rfl rfl (by omega) (by (unfold limit at *; omega)) (fun b19 s19 H ho => ?_))
        refine oO rfl (aS rfl ?_)
        refine ops_nil ?_
        refine cG ?_
        refine oO rfl (mI rfl ?_)
        refine oO rfl (op_quo rfl rfl (by decide) (by have := tdiv_abs x; obtain ⟨hx1, hx2⟩ := hx; unfold In64; omega) ?_)
        refine oO rfl (aI rfl ?_)
        refine ops_nil ?_
        refine blk_norm ?_
        refine loop_norm ?_
        have hd := tmod_abs hx
        have hdv : x.tmod 1000000000 = ((x.natAbs % 1000000000 : Nat) : Int) := hd.1 (by omega)
        have hq := tdiv_abs x
        obtain ⟨f, rfl⟩ : ∃ j, f = j + 1 := ⟨f - 1, by cases f with | zero => simp at hlt; omega | succ f => omega⟩
        have hne : x.natAbs ≠ 0 := by omega
        refine ⟨(x.tdiv 1000000000).natAbs, by omega, _, x.tdiv 1000000000, [(b19, .cells (ints l ++ [.int .i64 (x.tmod 1000000000)]) 3)], .slice (some ⟨b19, 0, none⟩) (l.length + 1) (2 * (l.length + 1) + 1), l ++ [((x.natAbs % 1000000000 : Nat) : Int)], f, slots ⟨rfl, rfl, rfl, rfl, trivial⟩, ?_, ?_, rfl, ?_, by simp; omega, ?_, ?_⟩
        · rw [List.length_append, List.length_singleton]
          exact H.up (by omega)
        · rw [ints_append, List.length_append, ← hdv]
          exact ho
        · obtain ⟨hx1, hx2⟩ := hx
          unfold In64
          omega
        · rw [hdg, dgs, if_neg hne, hq]
          simp
        · rw [hq]
          rw [Nat.pow_succ] at hlt
          exact Nat.div_lt_of_lt_mul (by rw [Nat.mul_comm]; exact hlt)
    · refine ops_nil ?_
      refine cE rfl ?_
      refine cw_exit ?_
      refine seq_exit ?_
      refine loop_exit ?_
      refine blk_here ?_
      refine sN ?_
      refine cR ?_
      refine oO rfl (mB rfl ?_)
      refine oO rfl (op_move ?_)
      obtain ⟨_, hsl⟩ := Own.slIn ho
      have hx0 : x = 0 := by omega
      subst hx0
      have hlq : l = dgs 3 n.natAbs := by rw [hdg]; cases f <;> simp [dgs]
      have hlast := nlen_last (dgs_last 3 n.natAbs (by omega))
      obtain ⟨a, len, cap, rfl, hle⟩ := (hsl.sl H (by simp)).isSlice
      rw [List.length_map] at hle
      subst hle
      refine oO rfl (oC rfl fc167 rfl ?_)
      obtain ⟨_, s9, hr, rfl, Hc⟩ := normal_ok (neg := decide (n < 0)) hI H.fine (hsl.sl H (by simp)) (by omega) (by have := H.most; unfold limit at *; omega)
      refine ⟨_, _, hr, ?_⟩
      clear hr
      have H := H.call0 Hc
      clear Hc
      rw [← hlq] at hlast
      rw [hlast]
      refine oO rfl (op_storeA (A := D) H sz56 rfl rfl rfl (by show List.all [_, _] Go.M.plainCell = true; simp only [List.all_cons, List.all_nil, nv_plain]; rfl) rfl (by (unfold limit at *; omega)) (fun s20 H => ?_))
      refine ops_nil ?_
      refine cw_ret ?_
      refine ret_end ?_
      refine end_cell sh56 rfl (by exact H.ownA) rfl ?_
      have hneg : (if l.length = 0 then false else decide (n < 0)) = decide (n < 0) := by
        split
        · next h0 =>
          have := dgs_nil (f := 3) (n := n.natAbs) (by omega) (by rw [← hlq]; exact List.length_eq_zero_iff.mp h0)
          have : n = 0 := by omega
          subst this
          rfl
        · rfl
      refine ⟨D, nv a l.length cap, ?_, H.left.up (by omega), ?_⟩
      · rw [hneg]
      · rw [← hlq]
        have := hsl.take (m := l.length) (Nat.le_refl _)
        rwa [List.take_length] at this
  · exact ⟨_, n, [], _, [], 3, slots ⟨rfl, rfl, rfl, rfl, trivial⟩, H, .nil, rfl, hn0, rfl, rfl, by omega⟩

end Go.Proofs.YtdejleegamcioaaGreat
namespace Go.Proofs.YtdejleegamcioaaGreat
open Go Go.M

theorem fb209 : funcB Tryz.f209 (Tryz.f209.body.getD .skip) 1 = true := by kernel_rfl
theorem fc211 : funcF Tryz.prog 211 = true := by kernel_rfl
theorem fb170 : funcB Tryz.f170 (Tryz.f170.body.getD .skip) 2 = true := by kernel_rfl

set_option maxHeartbeats 4000000 in
set_option maxRecDepth 10000 in
theorem tiny_ok {I : Table} (hI : Plain I) {s : St} {v : Value} {l : List Int} (hl : SlD s v l) (hd : Dig l) : ∃ v' s', Rets Tryz.prog I 209 #[v] s v' s' ∧ (v' = .int .i64 (l.getD 1 0 * 1000000000 + l.getD 0 0) ∧ s' = s) := by
  have h0 := hd.at 0
  have h1 := hd.at 1
  refine call_of 1 (hI 209 (by decide) (by decide)) Tryz.func209 rfl fb209 rfl ?_
  refine cR ?_
  refine oO rfl (aC ?_)
  refine ops_nil ?_
  refine cR ?_
  refine oO rfl (op_move ?_)
  refine oO rfl (oC rfl fc211 rfl ?_)
  obtain ⟨_, _, hr, rfl, rfl⟩ := digit_ok (i := 1) hI hl (by decide)
  refine ⟨_, _, hr, ?_⟩
  clear hr
  refine oO rfl (op_mul rfl rfl (by show In64 (l.getD 1 0 * 1000000000); unfold In64; omega) ?_)
  refine oO rfl (op_move ?_)
  refine oO rfl (oC rfl fc211 rfl ?_)
  obtain ⟨_, _, hr, rfl, rfl⟩ := digit_ok (i := 0) hI hl (by decide)
  refine ⟨_, _, hr, ?_⟩
  clear hr
  refine oO rfl (op_add rfl rfl (by show In64 (l.getD 1 0 * 1000000000 + l.getD 0 0); unfold In64; omega) ?_)
  refine oO rfl (aI rfl ?_)
  refine ops_nil ?_
  refine cw_ret ?_
  refine ret_end ?_
  refine end_t ?_
  exact ⟨rfl, rfl⟩

theorem ints_rep (n : Nat) : ints (List.replicate (n + 1) 0) = ints (List.replicate n 0) ++ [.int .i64 0] := by
  rw [List.replicate_succ', ints_append]; rfl

set_option maxHeartbeats 4000000 in
set_option maxRecDepth 10000 in
theorem minus_ok {I : Table} (hI : Plain I) {s : St} (hf : Fine s) {va vb : Value} {l : List Int} (ha : SlD s va l) (hb : SlD s vb l) (hd : Dig l) (hlen : l.length ≤ 4) (hroom : s.next + 10 ≤ limit) :
    ∃ v' s', Rets Tryz.prog I 170 #[va, vb] s v' s' ∧ (∃ D, HL [] s s' D 10 ∧ SlIn D v' (List.replicate l.length 0)) := by
  have H := hf.hl
  obtain ⟨a, len, cap, rfl, hn⟩ := ha.isSlice
  rw [List.length_map] at hn
  subst hn
  obtain ⟨a2, len, cap2, rfl, hn⟩ := hb.isSlice
  rw [List.length_map] at hn
  subst hn
  refine call_of 2 (hI 170 (by decide) (by decide)) Tryz.func170 rfl fb170 rfl ?_
  refine cR ?_
  refine oO rfl (aC ?_)
  refine ops_nil ?_
  refine cR ?_
  refine oO rfl (aC ?_)
  refine ops_nil ?_
  refine cR ?_
  refine oO rfl (aC ?_)
  refine ops_nil ?_
  refine cw_seq ?_
  refine cR ?_
  refine oO rfl (aC ?_)
  refine ops_nil ?_
  refine cw_block ?_
  refine cw_loop (fun k F s1 => ∃ (G : FF) (D : Hp') (v : Value) (i : Nat), F = lay G [(0, .slice a l.length cap), (1, .slice a2 l.length cap2), (5, v), (6, .int .i64 0), (7, .int .i64 (i : Int))] ∧ HL [] s s1 D (2 * i) ∧ Own 3 1 D v (ints (List.replicate i 0)) i ∧ i ≤ l.length ∧ k = l.length - i) ?_ l.length _ _ ?_
  · rintro k F s1 ⟨G, D, v, i, rfl, H, ho, hi, rfl⟩
    have hdi := hd.at i
    refine cw_seq ?_
    refine cR ?_
    refine oO rfl (mI rfl ?_)
    refine oO rfl (mS rfl ?_)
    refine oO rfl (op_len un22 rfl rfl rfl ?_)
    refine oO rfl (op_lss rfl rfl (fun h => ?_) (fun h => ?_))
    · refine ops_nil ?_
      refine cT rfl ?_
      refine cw_skip ?_
      refine sN ?_
      refine cw_seq ?_
      refine cw_block ?_
      obtain ⟨b1, off1, c1, rfl, hg1, hb1, hc1⟩ := (ha.kept H).atD (i := (i : Int)) (k := i) rfl (by omega)
      have hl1 : b1 < limit := by have := H.most; unfold limit at *; omega
      refine cw_dseq [⟨0, 0, .light, []⟩, ⟨1, 0, .light, []⟩, ⟨2, 3, .light, []⟩, ⟨3, 7, .light, []⟩, ⟨4, 0, .light, [3]⟩, ⟨5, 0, .light, [3]⟩, ⟨8, 0, .light, [3]⟩, ⟨6, 48, .whole, [3]⟩, ⟨7, 127, .light, []⟩, ⟨9, 511, .light, []⟩, ⟨10, 1023, .light, []⟩] (by kernel_rfl) (by kernel_rfl) ?_
      refine dL rfl rfl (mS rfl ⟨rfl, ?_⟩)
      refine dL rfl rfl (mI rfl ⟨rfl, ?_⟩)
      refine dL rfl rfl (op_indexS el22 rfl rfl (by (unfold limit at *; omega)) (by (unfold limit at *; omega)) ⟨rfl, ?_⟩)
      refine dr_load1 rfl rfl sh3 rfl hg1 hl1 hc1 ?_
      refine dL rfl rfl (mS rfl ⟨rfl, ?_⟩)
      refine dL rfl rfl (mI rfl ⟨rfl, ?_⟩)
      refine dL rfl rfl (mI rfl ⟨rfl, ?_⟩)
      refine dW rfl rfl (oC rfl fc211 rfl ?_)
      obtain ⟨_, _, hr, rfl, rfl⟩ := digit_ok (s := _) (i := (i : Int)) hI ((hb.kept H).prot (X := [b1])) (by omega)
      rw [Int.toNat_natCast] at hr
      refine ⟨_, _, hr, ?_⟩
      clear hr
      refine dL rfl rfl (op_sub rfl rfl (by show In64 (l.getD i 0 - l.getD i 0); unfold In64; omega) ⟨rfl, ?_⟩)
      refine dL rfl rfl (op_sub rfl rfl (by show In64 (l.getD i 0 - l.getD i 0 - 0); unfold In64; omega) ⟨rfl, ?_⟩)
      refine dL rfl rfl (aI rfl ⟨rfl, ?_⟩)
      refine draw_nil ?_
      refine cR ?_
      refine oO rfl (aC ?_)
      refine ops_nil ?_
      refine cw_seq ?_
      refine cR ?_
      refine oO rfl (mI rfl ?_)
      refine oO rfl (op_lss rfl rfl (fun h => False.elim (by have h2 : l.getD i 0 - l.getD i 0 - 0 < 0 := h; omega)) (fun h => ?_))
      refine ops_nil ?_
      refine cE rfl ?_
      refine cw_skip ?_
      refine sN ?_
      refine cG ?_
      refine oO rfl (op_move ?_)
      refine oO rfl (mI rfl ?_)
      refine oO rfl (op_buildSlice (c := [.int _ _]) H sl22 rfl rfl (by (unfold limit at *; omega)) (fun b31 s1 H => ?_))
      have hgt := H.own0
      have H := H.drop0
      refine oO rfl (op_appendOwn (L := []) (D := D) (by rw [List.append_nil]; exact H) ho sl22 un22 rfl rfl rfl (elems_all hgt rfl) (by decide) rfl rfl (by omega) (by (unfold limit at *; omega)) (fun b32 s32 H ho => ?_))
      refine oO rfl (aS rfl ?_)
      refine ops_nil ?_
      refine blk_norm ?_
      refine sN ?_
      refine cG ?_
      refine oO rfl (mI rfl ?_)
      refine oO rfl (op_add rfl rfl (by unfold In64; (unfold limit at *; omega)) ?_)
      refine oO rfl (aI rfl ?_)
      refine ops_nil ?_
      refine loop_norm ?_
      refine ⟨l.length - (i + 1), by omega, _, _, .slice (some ⟨b32, 0, none⟩) (i + 1) (2 * (i + 1) + 1), i + 1, slots ⟨rfl, rfl, rfl, rfl, rfl, trivial⟩, H.up (by omega), ?_, by omega, rfl⟩
      rw [ints_rep]
      have hz : l.getD i 0 - l.getD i 0 - 0 = 0 := by omega
      rw [hz] at ho
      rw [hz]
      exact ho
    · refine ops_nil ?_
      refine cE rfl ?_
      refine cw_exit ?_
      refine seq_exit ?_
      refine loop_exit ?_
      refine blk_here ?_
      refine sN ?_
      refine cR ?_
      refine oO rfl (op_move ?_)
      refine oO rfl (op_assign ?_)
      refine ops_nil ?_
      refine cw_ret ?_
      refine ret_end ?_
      refine end_t ?_
      have hi2 : i = l.length := by omega
      subst hi2
      obtain ⟨_, hsl⟩ := Own.slIn ho
      exact ⟨D, H.up (by omega), hsl⟩
  · exact ⟨_, [], _, 0, slots ⟨rfl, rfl, rfl, rfl, rfl, trivial⟩, H, .nil, by omega, by omega⟩

end Go.Proofs.YtdejleegamcioaaGreat
namespace Go.Proofs.YtdejleegamcioaaGreat
open Go Go.M

theorem fb116 : funcB Tryz.f116 (Tryz.f116.body.getD .skip) 2 = true := by kernel_rfl
theorem of56_0 : offF Tryz.prog 56 0 = some 0 := by kernel_rfl
theorem of56_1 : offF Tryz.prog 56 1 = some 1 := by kernel_rfl
theorem sh22 : shapeOf Tryz.prog 22 = some (none) := by kernel_rfl
theorem sh4 : shapeOf Tryz.prog 4 = some (none) := by kernel_rfl
theorem sz3 : sizeF Tryz.prog 3 = some 1 := by kernel_rfl

theorem repL_ints : ∀ n, repL [.int .i64 0] n = ints (List.replicate n 0)
  | 0 => rfl
  | n + 1 => by rw [repL, repL_ints n, List.replicate_succ]; rfl
theorem lput_ints {x : Int} : ∀ {o : List Int} {k : Nat}, k < o.length → lput k [.int .i64 x] (ints o) = some (ints (o.set k x))
  | [], _, h => by simp at h
  | y :: o, 0, _ => rfl
  | y :: o, k + 1, h => by
    have := lput_ints (x := x) (o := o) (k := k) (by simpa using h)
    simp only [ints, List.map_cons, lput] at this ⊢
    rw [this]
    rfl
theorem lget_ints' {o : List Int} {k m : Nat} (hk : k < o.length) (hm : m = k) : lget (ints o) m = some (.int .i64 (o.getD k 0)) := by
  subst hm
  rw [lget_eq]
  simp [ints, List.getElem?_map, List.getD_eq_getElem?_getD, List.getElem?_eq_getElem hk]
theorem lput_ints' {x : Int} {o : List Int} {k m : Nat} (hk : k < o.length) (hm : m = k) : lput m [.int .i64 x] (ints o) = some (ints (o.set k x)) := by
  subst hm; exact lput_ints hk
theorem nlen_app {l r : List Int} : ∀ n, n ≤ l.length → nlen (l ++ r) n = nlen l n
  | 0, _ => rfl
  | n + 1, h => by
    simp only [nlen]
    have e : (l ++ r).getD n 0 = l.getD n 0 := by
      simp only [List.getD_eq_getElem?_getD]
      rw [List.getElem?_append_left (by omega)]
    rw [e, nlen_app n (by omega)]

set_option maxHeartbeats 4000000 in
set_option maxRecDepth 10000 in
theorem mul1_ok {I : Table} (hI : Plain I) {s : St} (hf : Fine s) {n1 n2 : Bool} {s1 s2 : Value} {lb : List Int} (ha : SlD s s1 [1]) (hb : SlD s s2 lb) (hd : Dig lb) (hnl : nlen lb lb.length = lb.length) (hlen : lb.length ≤ 4) (hroom : s.next + 10 ≤ limit) :
    ∃ v' s', Rets Tryz.prog I 116 #[.agg ⟨[.bool n1, s1]⟩, .agg ⟨[.bool n2, s2]⟩] s v' s' ∧ (∃ D nb sl, v' = .agg ⟨[.bool nb, sl]⟩ ∧ HL [] s s' D 10 ∧ SlIn D sl lb) := by
  have H := hf.hl
  obtain ⟨a1, len, cap1, rfl, hn⟩ := ha.isSlice
  simp only [List.length_map, List.length_cons, List.length_nil, Nat.zero_add] at hn
  subst hn
  obtain ⟨a2, len, cap2, rfl, hn⟩ := hb.isSlice
  rw [List.length_map] at hn
  subst hn
  refine call_of 2 (hI 116 (by decide) (by decide)) Tryz.func116 rfl fb116 rfl ?_
  refine cR ?_
  refine oO rfl (op_boxA H rfl (by (unfold limit at *; omega)) (fun b2 s1 H => ?_))
  refine oO rfl (op_boxA H rfl (by (unfold limit at *; omega)) (fun b3 s2 H => ?_))
  refine oO rfl (op_alloc H zf56 (by (unfold limit at *; omega)) (fun b4 s3 H => ?_))
  refine ops_nil ?_
  refine cR ?_
  refine oO rfl (fA of56_1 rfl ?_)
  refine oO rfl (lO sh22 rfl (by exact H.own2) rfl ?_)
  refine oO rfl (op_len un22 rfl rfl rfl ?_)
  refine oO rfl (fA of56_1 rfl ?_)
  refine oO rfl (lO sh22 rfl (by exact H.own1) rfl ?_)
  refine oO rfl (op_len un22 rfl rfl rfl ?_)
  refine oO rfl (op_add rfl rfl (by unfold In64; (unfold limit at *; omega)) ?_)
  refine oO rfl (op_makeSlice (a := 1 + lb.length) (b := 1 + lb.length) H sl22 rfl rfl (Nat.le_refl _) (by omega) (by (unfold limit at *; omega)) (fun b17 s17 H => ?_))
  refine oO rfl (aS rfl ?_)
  refine ops_nil ?_
  refine cw_seq ?_
  rw [repL_ints] at H
  refine cR ?_
  refine oO rfl (aC ?_)
  refine ops_nil ?_
  refine cw_block ?_
  refine cw_unroll ?_
  refine cw_seq ?_
  refine cR ?_
  refine oO rfl (mI rfl ?_)
  refine oO rfl (fA of56_1 rfl ?_)
  refine oO rfl (lO sh22 rfl (by exact H.own3) rfl ?_)
  refine oO rfl (op_len un22 rfl rfl rfl ?_)
  refine oO rfl (op_lss rfl rfl (fun h => ?_) (fun h => ?_))
  · refine ops_nil ?_
    refine cT rfl ?_
    refine cw_skip ?_
    refine sN ?_
    refine cw_seq ?_
    refine cw_block ?_
    refine cR ?_
    refine oO rfl (aC ?_)
    refine ops_nil ?_
    refine cw_seq ?_
    refine cR ?_
    refine oO rfl (aC ?_)
    refine ops_nil ?_
    refine cw_block ?_
    refine cw_loop (fun k F s1 => ∃ (G : FF) (q : Nat), F = lay G [(2, .pointer (some ⟨b2, 0, none⟩)), (3, .pointer (some ⟨b3, 0, none⟩)), (4, .pointer (some ⟨b4, 0, none⟩)), (5, .slice (some ⟨b17, 0, none⟩) (1 + lb.length) (2 * (1 + lb.length))), (6, .int .i64 0), (7, .int .i64 0), (8, .int .i64 (q : Int))] ∧ HL [] s s1 [(b17, .cells (ints (lb.take q ++ List.replicate (1 + lb.length - q) 0)) 3), (b4, .cells [.bool false, .slice none 0 0] 56), (b3, .cells [.bool n2, .slice a2 lb.length cap2] 56), (b2, .cells [.bool n1, .slice a1 1 cap1] 56)] 4 ∧ q ≤ lb.length ∧ k = lb.length - q) ?_ lb.length _ _ ?_
    · rintro k F s1 ⟨G, q, rfl, H, hq, rfl⟩
      refine cw_seq ?_
      refine cR ?_
      refine oO rfl (mI rfl ?_)
      refine oO rfl (fA of56_1 rfl ?_)
      refine oO rfl (lO sh22 rfl (by exact H.own2) rfl ?_)
      refine oO rfl (op_len un22 rfl rfl rfl ?_)
      refine oO rfl (op_lss rfl rfl (fun h => ?_) (fun h => ?_))
      · refine ops_nil ?_
        refine cT rfl ?_
        refine cw_skip ?_
        refine sN ?_
        refine cw_seq ?_
        refine cw_block ?_
        have hdq := hd.at q
        have hout : lget (ints (lb.take q ++ List.replicate (1 + lb.length - q) 0)) (0 + ((0 : Int) + (q : Int)).toNat * 1) = some (.int .i64 0) := by
          rw [lget_ints' (k := q) (by simp; omega) (by omega)]
          congr 2
          rw [List.getD_eq_getElem?_getD, List.getElem?_append_right (by simp; omega)]
          simp [List.getElem?_replicate]
          split <;> rfl
        obtain ⟨b1, off1, c1, rfl, hg1, hb1, hc1⟩ := (ha.kept H).atD (i := 0) (k := 0) rfl (by simp)
        have hl1 : b1 < limit := by have := H.most; unfold limit at *; omega
        obtain ⟨b22, off2, c2, rfl, hg2, hb2, hc2⟩ := (hb.kept H).atD (i := (q : Int)) (k := q) rfl (by omega)
        have hl2 : b22 < limit := by have := H.most; unfold limit at *; omega
        refine cw_dseq [⟨0, 0, .light, [7, 10, 12, 15]⟩, ⟨1, 0, .light, [7, 10, 12, 15]⟩, ⟨2, 0, .light, [7, 10, 12, 15]⟩, ⟨3, 6, .light, [7, 10, 12, 15]⟩, ⟨4, 15, .light, [7, 10, 12, 15]⟩, ⟨5, 31, .light, [7, 10, 12, 15]⟩, ⟨6, 0, .light, [5, 12, 15]⟩, ⟨7, 64, .light, [5, 12, 15]⟩, ⟨8, 0, .light, [5, 7, 12, 15]⟩, ⟨9, 448, .light, [5, 12, 15]⟩, ⟨10, 960, .light, [5, 12, 15]⟩, ⟨11, 0, .light, [5, 7, 10]⟩, ⟨12, 2048, .light, [5, 7, 10]⟩, ⟨13, 0, .light, [5, 7, 10, 12]⟩, ⟨14, 14336, .light, [5, 7, 10]⟩, ⟨15, 30720, .light, [5, 7, 10]⟩, ⟨16, 65472, .light, [5]⟩, ⟨17, 131071, .light, []⟩, ⟨18, 0, .light, [5, 7, 10, 12, 15]⟩, ⟨19, 524287, .light, []⟩, ⟨20, 1048575, .light, []⟩] (by kernel_rfl) (by kernel_rfl) ?_
        refine dL rfl rfl (mS rfl ⟨rfl, ?_⟩)
        refine dL rfl rfl (mI rfl ⟨rfl, ?_⟩)
        refine dL rfl rfl (mI rfl ⟨rfl, ?_⟩)
        refine dL rfl rfl (op_add rfl rfl (by unfold In64; (unfold limit at *; omega)) ⟨rfl, ?_⟩)
        refine dL rfl rfl (op_indexS el22 rfl rfl (by (unfold limit at *; omega)) (by (unfold limit at *; omega)) ⟨rfl, ?_⟩)
        refine dr_load1 rfl rfl sh3 rfl H.own0 (H.lim0 (by (unfold limit at *; omega))) hout ?_
        refine dL rfl rfl (fA of56_1 rfl ⟨rfl, ?_⟩)
        refine dr_load1 rfl rfl sh22 rfl (by exact H.own3) (by exact H.lim3 (by (unfold limit at *; omega))) rfl ?_
        refine dL rfl rfl (mI rfl ⟨rfl, ?_⟩)
        refine dL rfl rfl (op_indexS el22 rfl rfl (by (unfold limit at *; omega)) (by (unfold limit at *; omega)) ⟨rfl, ?_⟩)
        refine dr_load1 rfl rfl sh3 rfl hg1 hl1 hc1 ?_
        refine dL rfl rfl (fA of56_1 rfl ⟨rfl, ?_⟩)
        refine dr_load1 rfl rfl sh22 rfl (by exact H.own2) (by exact H.lim2 (by (unfold limit at *; omega))) rfl ?_
        refine dL rfl rfl (mI rfl ⟨rfl, ?_⟩)
        refine dL rfl rfl (op_indexS el22 rfl rfl (by (unfold limit at *; omega)) (by (unfold limit at *; omega)) ⟨rfl, ?_⟩)
        refine dr_load1 rfl rfl sh3 rfl hg2 hl2 hc2 ?_
        refine dL rfl rfl (op_mul rfl rfl (by show In64 (1 * lb.getD q 0); unfold In64; omega) ⟨rfl, ?_⟩)
        refine dL rfl rfl (op_add rfl rfl (by show In64 (0 + 1 * lb.getD q 0); unfold In64; omega) ⟨rfl, ?_⟩)
        refine dL rfl rfl (mI rfl ⟨rfl, ?_⟩)
        refine dL rfl rfl (op_add rfl rfl (by show In64 (0 + 1 * lb.getD q 0 + 0); unfold In64; omega) ⟨rfl, ?_⟩)
        refine dL rfl rfl (aI rfl ⟨rfl, ?_⟩)
        refine draw_nil ?_
        refine cR ?_
        refine oO rfl (mS rfl ?_)
        refine oO rfl (mI rfl ?_)
        refine oO rfl (mI rfl ?_)
        refine oO rfl (op_add rfl rfl (by unfold In64; (unfold limit at *; omega)) ?_)
        refine oO rfl (mI rfl ?_)
        refine oO rfl (op_rem rfl rfl (by (unfold limit at *; omega)) ?_)
        refine oO rfl (op_indexS el22 rfl rfl (by (unfold limit at *; omega)) (by (unfold limit at *; omega)) ?_)
        refine oO rfl (op_store0 H sz3 rfl rfl rfl rfl (lput_ints' (o := (lb.take q ++ List.replicate (1 + lb.length - q) 0)) (k := q) (by simp; omega) (by omega)) (by (unfold limit at *; omega)) (fun s58 H => ?_))
        refine ops_nil ?_
        have htd : (0 + 1 * lb.getD q 0 + 0).tdiv 1000000000 = 0 := by rw [Int.tdiv_eq_ediv_of_nonneg (by omega)]; omega
        have htm : (0 + 1 * lb.getD q 0 + 0).tmod 1000000000 = lb.getD q 0 := by rw [Int.tmod_eq_emod_of_nonneg (by omega)]; omega
        refine cG ?_
        refine oO rfl (mI rfl ?_)
        refine oO rfl (op_quo rfl rfl (by decide) (by show In64 ((0 + 1 * lb.getD q 0 + 0).tdiv 1000000000); rw [htd]; unfold In64; omega) ?_)
        refine oO rfl (aI rfl ?_)
        refine ops_nil ?_
        refine blk_norm ?_
        refine sN ?_
        refine cG ?_
        refine oO rfl (mI rfl ?_)
        refine oO rfl (op_add rfl rfl (by unfold In64; (unfold limit at *; omega)) ?_)
        refine oO rfl (aI rfl ?_)
        refine ops_nil ?_
        refine loop_norm ?_
        refine ⟨lb.length - (q + 1), by omega, _, q + 1, slots ⟨rfl, rfl, rfl, rfl, rfl, by show Value.int .i64 ((0 + 1 * lb.getD q 0 + 0).tdiv 1000000000) = _; rw [htd], rfl, trivial⟩, ?_, by omega, rfl⟩
        have hset : (lb.take q ++ List.replicate (1 + lb.length - q) 0).set q ((0 + 1 * lb.getD q 0 + 0).tmod 1000000000) = lb.take (q + 1) ++ List.replicate (1 + lb.length - (q + 1)) 0 := by
          rw [htm]
          obtain ⟨m, hm⟩ : ∃ m, 1 + lb.length - q = m + 1 := ⟨lb.length - q, by omega⟩
          have hm2 : 1 + lb.length - (q + 1) = m := by omega
          have hm3 : q - (lb.take q).length = 0 := by simp; omega
          rw [hm, hm2, List.replicate_succ, List.set_append_right _ _ (by simp; omega), hm3, List.set_cons_zero, List.take_succ_eq_append_getElem (show q < lb.length by omega), List.append_assoc]
          simp only [List.singleton_append, List.getD_eq_getElem?_getD, List.getElem?_eq_getElem (show q < lb.length by omega), Option.getD_some]
        rw [← hset]
        exact H
      · refine ops_nil ?_
        refine cE rfl ?_
        refine cw_exit ?_
        refine seq_exit ?_
        refine loop_exit ?_
        refine blk_here ?_
        refine sN ?_
        refine cG ?_
        have hq2 : q = lb.length := by omega
        subst hq2
        refine oO rfl (mS rfl ?_)
        refine oO rfl (mI rfl ?_)
        refine oO rfl (fA of56_1 rfl ?_)
        refine oO rfl (lO sh22 rfl (by exact H.own2) rfl ?_)
        refine oO rfl (op_len un22 rfl rfl rfl ?_)
        refine oO rfl (op_add rfl rfl (by unfold In64; (unfold limit at *; omega)) ?_)
        refine oO rfl (mI rfl ?_)
        refine oO rfl (op_indexS el22 rfl rfl (by (unfold limit at *; omega)) (by (unfold limit at *; omega)) ?_)
        refine oO rfl (op_store0 H sz3 rfl rfl rfl rfl (lput_ints' (o := (lb.take lb.length ++ List.replicate (1 + lb.length - lb.length) 0)) (k := lb.length) (by simp) (by omega)) (by (unfold limit at *; omega)) (fun s68 H => ?_))
        refine ops_nil ?_
        refine blk_norm ?_
        refine sN ?_
        refine cG ?_
        have hset2 : (lb.take lb.length ++ List.replicate (1 + lb.length - lb.length) 0).set lb.length 0 = lb ++ [0] := by
          rw [List.take_length, show 1 + lb.length - lb.length = 1 by omega]
          simp
        rw [hset2] at H
        refine oO rfl (mI rfl ?_)
        refine oO rfl (op_add rfl rfl (by unfold In64; (unfold limit at *; omega)) ?_)
        refine oO rfl (aI rfl ?_)
        refine ops_nil ?_
        refine sN ?_
        refine cw_unroll ?_
        refine cw_seq ?_
        refine cR ?_
        refine oO rfl (mI rfl ?_)
        refine oO rfl (fA of56_1 rfl ?_)
        refine oO rfl (lO sh22 rfl (by exact H.own3) rfl ?_)
        refine oO rfl (op_len un22 rfl rfl rfl ?_)
        refine oO rfl (op_lss rfl rfl (fun h => ?_) (fun h => ?_))
        · refine ops_nil ?_
          refine cT rfl ?_
          refine cw_skip ?_
          refine sN ?_
          refine cw_seq ?_
          refine cw_block ?_
          exfalso
          omega
        · refine ops_nil ?_
          refine cE rfl ?_
          refine cw_exit ?_
          refine seq_exit ?_
          refine seq_exit ?_
          refine blk_here ?_
          refine sN ?_
          have hll : (lb ++ [(0 : Int)]).length = 1 + lb.length := by simp; omega
          have hsl : SlIn [(b17, .cells (ints (lb ++ [0])) 3)] (.slice (some ⟨b17, 0, none⟩) (1 + lb.length) (2 * (1 + lb.length))) (lb ++ [0]) := by
            have := Own.slIn (l := lb ++ [0]) (len := 1 + lb.length) (.block b17 (2 * (1 + lb.length)) _ _ (by simp [ints]; omega) (by omega))
            exact this.2
          have hnl2 : nlen (lb ++ [0]) (lb ++ [0]).length = lb.length := by
            rw [List.length_append, List.length_singleton, nlen, if_pos (by simp), nlen_app _ (Nat.le_refl _), hnl]
          refine cR ?_
          refine oO rfl (fA of56_0 rfl ?_)
          refine oO rfl (lO sh4 rfl (by exact H.own3) rfl ?_)
          refine oO rfl (fA of56_0 rfl ?_)
          refine oO rfl (lO sh4 rfl (by exact H.own2) rfl ?_)
          refine oO rfl (op_neqb un4 rfl rfl ?_)
          refine oO rfl (mS rfl ?_)
          refine oO rfl (oC rfl fc167 rfl ?_)
          obtain ⟨_, s9, hr, rfl, Hc⟩ := normal_ok (l := lb ++ [0]) (a := some ⟨b17, 0, none⟩) (cap := 2 * (1 + lb.length)) (neg := !(n1 == n2)) hI H.fine (by have := hsl.sl H (by simp); rw [hll]; exact this) (by simp; omega) (by have := H.most; unfold limit at *; omega)
          rw [hll] at hr
          refine ⟨_, _, hr, ?_⟩
          clear hr
          have H := H.call0 Hc
          clear Hc
          rw [hll] at hnl2
          rw [hnl2]
          refine oO rfl (op_store1 H sz56 rfl rfl rfl (by show List.all [_, _] Go.M.plainCell = true; simp only [List.all_cons, List.all_nil, nv_plain]; rfl) rfl (by (unfold limit at *; omega)) (fun s75 H => ?_))
          refine ops_nil ?_
          refine cw_ret ?_
          refine ret_end ?_
          refine end_cell sh56 rfl (by exact H.own1) rfl ?_
          refine ⟨_, _, _, rfl, (H.sub (L' := [(b17, .cells (ints (lb ++ [0])) 3)]) (by simp)).up (by omega), ?_⟩
          have := hsl.take (m := lb.length) (by simp)
          rwa [List.take_left' rfl] at this
    · exact ⟨_, 0, slots ⟨rfl, rfl, rfl, rfl, rfl, rfl, rfl, trivial⟩, H, by omega, by omega⟩
  · refine ops_nil ?_
    refine cE rfl ?_
    refine cw_exit ?_
    refine seq_exit ?_
    refine seq_exit ?_
    refine blk_here ?_
    refine sN ?_
    exfalso
    omega

end Go.Proofs.YtdejleegamcioaaGreat
namespace Go.Proofs.YtdejleegamcioaaGreat
open Go Go.M

theorem fb306 : funcB Tryz.f306 (Tryz.f306.body.getD .skip) 2 = true := by kernel_rfl
theorem fc113 : funcF Tryz.prog 113 = true := by kernel_rfl
theorem fc116 : funcF Tryz.prog 116 = true := by kernel_rfl

theorem SlIn.isSlice {D : Hp'} {v : Value} {l : List Int} (h : SlIn D v l) : ∃ a n c, v = .slice a n c ∧ n = l.length := by
  cases h with
  | nil c hv hl => exact ⟨_, _, _, hv, by rw [hl]; rfl⟩
  | block b off cap c hv => exact ⟨_, _, _, hv, rfl⟩
theorem dgs_int {x : Int} (h0 : 0 ≤ x) (h1 : x < 1000000000) : dgs 3 x.natAbs = if x = 0 then [] else [x] := by
  rw [dgs_small (by omega)]
  by_cases h : x = 0
  · subst h; rfl
  · rw [if_neg (by omega), if_neg h]
    congr 1
    omega
theorem cmp_small {x y : Int} (hx0 : 0 ≤ x) (hx1 : x < 1000000000) (hy0 : 0 ≤ y) (hy1 : y < 1000000000) : cmpZ (dgs 3 x.natAbs) (dgs 3 y.natAbs) = if x < y then -1 else if y < x then 1 else 0 := by
  rw [dgs_int hx0 hx1, dgs_int hy0 hy1]
  by_cases hx : x = 0 <;> by_cases hy : y = 0
  · rw [if_pos hx, if_pos hy]; subst hx; subst hy; decide
  · rw [if_pos hx, if_neg hy]; subst hx; rw [if_pos (by omega)]; rfl
  · rw [if_neg hx, if_pos hy]; subst hy; rw [if_neg (by omega), if_pos (by omega)]; rfl
  · rw [if_neg hx, if_neg hy]; simp [cmpZ, cmpD]
theorem nlen_dgs (n : Nat) (h : n < 1000000000 ^ 3) : nlen (dgs 3 n) (dgs 3 n).length = (dgs 3 n).length := nlen_last (dgs_last 3 n h)
theorem nlen_rep : ∀ n m, nlen (List.replicate m 0) n = 0
  | 0, _ => rfl
  | n + 1, m => by
    rw [nlen, if_pos, nlen_rep n m]
    rw [List.getD_eq_getElem?_getD, List.getElem?_replicate]
    split <;> rfl
theorem nlen_one {x : Int} (h0 : 0 ≤ x) (h1 : x < 1000000000) : [x].take (nlen [x] [x].length) = dgs 3 x.natAbs := by
  rw [dgs_int h0 h1]
  by_cases h : x = 0
  · subst h; rfl
  · rw [if_neg h]; simp [nlen, h]

set_option maxHeartbeats 4000000 in
set_option maxRecDepth 10000 in
theorem times1_ok {I : Table} (hI : Plain I) {s : St} (hf : Fine s) {va : Value} (ha : SlD s va [1]) {k : Int} (hk0 : 0 ≤ k) (hk1 : k < 1000000000) (hroom : s.next + 40 ≤ limit) :
    ∃ v' s', Rets Tryz.prog I 306 #[va, .int .i64 k] s v' s' ∧ (∃ D, HL [] s s' D 40 ∧ SlIn D v' (dgs 3 k.natAbs)) := by
  have H := hf.hl
  obtain ⟨a, len, cap, rfl, hn⟩ := ha.isSlice
  simp only [List.length_map, List.length_cons, List.length_nil, Nat.zero_add] at hn
  subst hn
  refine call_of 2 (hI 306 (by decide) (by decide)) Tryz.func306 rfl fb306 rfl ?_
  refine cR ?_
  refine oO rfl (aC ?_)
  refine ops_nil ?_
  refine cR ?_
  refine oO rfl (mS rfl ?_)
  refine oO rfl (oC rfl fc167 rfl ?_)
  obtain ⟨_, s9, hr, rfl, Hc⟩ := normal_ok (l := [1]) (a := a) (cap := cap) (neg := false) hI H.fine (ha.kept H) (by decide) (by have := H.most; unfold limit at *; omega)
  refine ⟨_, _, hr, ?_⟩
  clear hr
  have H := H.call0 Hc
  clear Hc
  refine oO rfl (mI rfl ?_)
  refine oO rfl (oC rfl fc113 rfl ?_)
  obtain ⟨_, s9, hr, D1, ra, rfl, Hc, hra⟩ := of03_ok (n := k) hI H.fine ⟨by omega, by omega⟩ (by have := H.most; unfold limit at *; omega)
  refine ⟨_, _, hr, ?_⟩
  clear hr
  have H := H.callE Hc
  clear Hc
  try simp only [List.cons_append, List.nil_append, List.append_assoc] at H
  obtain ⟨ara, nra, cra, rfl, hnra⟩ := hra.isSlice
  refine oO rfl (oC rfl fc116 rfl ?_)
  obtain ⟨_, s9, hr, D2, nb, rb, rfl, Hc, hrb⟩ := mul1_ok (n1 := false) (n2 := decide (k < 0)) (s1 := .slice a 1 cap) (s2 := .slice ara nra cra) (lb := dgs 3 k.natAbs) hI H.fine (ha.kept H) (hra.sl H (by intro p hp; (try simp only [List.mem_cons, List.mem_append, List.not_mem_nil, or_false] at hp ⊢); first | exact hp | simp only [hp, true_or, or_true])) (dgs_dig _ _) (nlen_dgs _ (by omega)) (by have := dgs_len 3 k.natAbs; omega) (by have := H.most; unfold limit at *; omega)
  refine ⟨_, _, hr, ?_⟩
  clear hr
  have H := H.callE Hc
  clear Hc
  try simp only [List.cons_append, List.nil_append, List.append_assoc] at H
  obtain ⟨arb, nrb, crb, rfl, hnrb⟩ := hrb.isSlice
  refine oO rfl (op_alloc H zf56 (by (unfold limit at *; omega)) (fun b5 s1 H => ?_))
  refine oO rfl (op_store0 (vs := [.bool _, .slice _ _ _]) H sz56 rfl rfl rfl rfl rfl (by (unfold limit at *; omega)) (fun s2 H => ?_))
  refine ops_nil ?_
  refine cR ?_
  refine oO rfl (fA of56_1 rfl ?_)
  refine oO rfl (lO sh22 rfl (by exact H.own0) rfl ?_)
  refine oO rfl (aS rfl ?_)
  refine ops_nil ?_
  refine cw_ret ?_
  refine ret_end ?_
  refine end_t ?_
  exact ⟨_, H.up (by omega), hrb.mono (by intro p hp; (try simp only [List.mem_cons, List.mem_append, List.not_mem_nil, or_false] at hp ⊢); first | exact hp | simp only [hp, true_or, or_true])⟩

end Go.Proofs.YtdejleegamcioaaGreat
