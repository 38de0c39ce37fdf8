/- What the least cleaning breaks; small facts for the statements. -/
/- UndoEnough: for every input it returns true, if Least and the examples are as they should be. -/
/- How many blocks the recursion makes at most. -/
import Derived.Test.YtdejleegamcioaaGreatM22
namespace Go.Proofs.YtdejleegamcioaaGreat
open Go Go.M

theorem bit_nat (x k : Nat) : bit (x : Int) k = x.testBit k := by
  unfold bit
  rw [Nat.testBit_eq_decide_div_mod_eq]
  congr 1
  have e : ((x : Int) / 2 ^ k) = ((x / 2 ^ k : Nat) : Int) := by simp
  rw [e]
  apply propext
  constructor <;> intro h <;> omega

theorem bit_rest {w p : Int} (h : splitB w p = true) (hp : p < 9223372036854775808) {k : Nat} (hk : k < 64) : bit (andNotI w p) k = (bit w k && !bit p k) := by
  obtain ⟨q1, q2, q3, q4, q5, q6⟩ := split_facts h hp
  simp only [splitB, Bool.and_eq_true, decide_eq_true_eq] at h
  obtain ⟨⟨⟨⟨h1, h2⟩, h3⟩, h4⟩, h5⟩ := h
  obtain ⟨a, rfl⟩ := Int.eq_ofNat_of_zero_le (Int.le_of_lt h1)
  obtain ⟨b, rfl⟩ := Int.eq_ofNat_of_zero_le (Int.le_of_lt h3)
  have ha := ofInt_nat (a := a) (by omega)
  have hb := ofInt_nat (a := b) (by omega)
  have hr : andNotI (a : Int) (b : Int) = (((BitVec.ofInt 64 (a : Int) &&& ~~~ BitVec.ofInt 64 (b : Int)).toNat : Nat) : Int) := by
    unfold andNotI bitsI
    simp only
    rw [wrap_in]
    have hle : (BitVec.ofInt 64 (a : Int) &&& ~~~ BitVec.ofInt 64 (b : Int)).toNat ≤ a := by
      rw [BitVec.toNat_and, ha]; exact Nat.and_le_left
    exact ⟨by omega, by omega⟩
  rw [hr, bit_nat, bit_nat, bit_nat, BitVec.testBit_toNat, BitVec.getLsbD_and, BitVec.getLsbD_not, ← BitVec.testBit_toNat, ← BitVec.testBit_toNat, ha, hb]
  simp [hk]

section
variable {js : List (Int × Int)} {bad : Int} {may : List Sp}
theorem needs_of {x : Int} : ∀ (js : List (Int × Int)) (o i : Nat), i < js.length → bit bad (o + i) = true → bit x (js.getD i (0, 0)).1.toNat = true → bit x (js.getD i (0, 0)).2.toNat = true → needsB x bad o js = true
  | [], o, i, h, _, _, _ => by simp at h
  | j :: r, o, 0, _, h1, h2, h3 => by
    simp only [List.getD_cons_zero] at h2 h3
    rw [Nat.add_zero] at h1
    simp [needsB, h1, h2, h3]
  | j :: r, o, i + 1, h, h1, h2, h3 => by
    simp only [List.getD_cons_succ] at h2 h3
    have := needs_of r (o + 1) i (by simpa using h) (by rw [← h1]; congr 1; omega) h2 h3
    simp [needsB, this]
theorem needs_none {x : Int} : ∀ (js : List (Int × Int)) (o : Nat), needsB x 0 o js = false
  | [], _ => rfl
  | j :: r, o => by
    have : bit 0 o = false := by simp [bit]
    simp [needsB, this, needs_none r (o + 1)]

/-- A cleaning breaks every bad join that the set has. -/
theorem tk_breaks (hm : MayOK may) (hj : ∀ j ∈ js, joinB j) {i : Nat} (hi : i < js.length) (hb : bit bad i = true) : ∀ (f : Nat) (S : Int), 0 < S → S.toNat < f → (bb js bad may S).1 < 65536 →
    bit S (js.getD i (0, 0)).1.toNat = true → bit S (js.getD i (0, 0)).2.toNat = true → ∃ m ∈ tk js bad may f S, brokenB (js.getD i (0, 0)) m = true
  | 0, S, _, h, _, _, _ => by omega
  | f + 1, S, h0, h1, h2, b1, b2 => by
    have hjj := hj _ (getD_mem (y := ((0 : Int), (0 : Int))) hi)
    have hr := bb_range (js := js) (bad := bad) (may := may) S
    have hn : needsB S bad 0 js = true := needs_of js 0 i hi (by rw [Nat.zero_add]; exact hb) b1 b2
    have hp : 0 < (bb js bad may S).1 := by
      have he := bb_eq (js := js) (bad := bad) hm h0
      rw [if_pos hn] at he
      rcases fold_from (v := fun x => (bb js bad may x).1) (S := S) may (65536, default) with h | ⟨m, _, _, _, _, h⟩
      · rw [he, h] at h2; simp at h2
      · rw [he, h]
        have q1 := bb_range (js := js) (bad := bad) (may := may) m.p
        have q2 := bb_range (js := js) (bad := bad) (may := may) (andNotI S m.p)
        simp only
        omega
    obtain ⟨_, hx, hw, ha, hbb, he⟩ := bb_split hm h0 hp h2
    obtain ⟨hs, hpb⟩ := hm _ hx
    obtain ⟨q1, q2, q3, q4, q5, q6⟩ := split_facts hs hpb
    have hbr := fun k (hk : k < 64) => bit_rest hs hpb hk
    rw [hw] at q2 q3 q4 hbr
    rw [tk, if_pos hp]
    have k1 : (js.getD i (0, 0)).1.toNat < 64 := by have := hjj.1.2; omega
    have k2 : (js.getD i (0, 0)).2.toNat < 64 := by have := hjj.2.2; omega
    cases c1 : bit (bb js bad may S).2.p (js.getD i (0, 0)).1.toNat <;> cases c2 : bit (bb js bad may S).2.p (js.getD i (0, 0)).2.toNat
    · obtain ⟨m, hmm, hmb⟩ := tk_breaks hm hj hi hb f (andNotI S (bb js bad may S).2.p) q3 (by omega) hbb (by rw [hbr _ k1, b1, c1]; rfl) (by rw [hbr _ k2, b2, c2]; rfl)
      exact ⟨m, by simp [hmm], hmb⟩
    · refine ⟨_, List.mem_cons_self, ?_⟩
      simp only [brokenB, hw, b1, b2, c1, c2, hjj.1.1, hjj.1.2, hjj.2.1, hjj.2.2]
      decide
    · refine ⟨_, List.mem_cons_self, ?_⟩
      simp only [brokenB, hw, b1, b2, c1, c2, hjj.1.1, hjj.1.2, hjj.2.1, hjj.2.2]
      decide
    · obtain ⟨m, hmm, hmb⟩ := tk_breaks hm hj hi hb f (bb js bad may S).2.p q1 (by omega) ha c1 c2
      exact ⟨m, by simp [hmm], hmb⟩

theorem bb_less (hm : MayOK may) : ∀ (f : Nat) (S : Int), 0 < S → S.toNat < f → (bb js bad may S).1 < 65536 → (bb js bad may S).1 ≤ S - 1
  | 0, S, _, h, _ => by omega
  | f + 1, S, h0, h1, h2 => by
    by_cases hp : 0 < (bb js bad may S).1
    · obtain ⟨_, hx, hw, ha, hbb, he⟩ := bb_split hm h0 hp h2
      obtain ⟨hs, hpb⟩ := hm _ hx
      obtain ⟨q1, q2, q3, q4, q5, q6⟩ := split_facts hs hpb
      rw [hw] at q2 q3 q4 q6
      have i1 := bb_less hm f (bb js bad may S).2.p q1 (by omega) ha
      have i2 := bb_less hm f (andNotI S (bb js bad may S).2.p) q3 (by omega) hbb
      omega
    · omega
theorem bb_nobad (hm : MayOK may) {S : Int} (h0 : 0 < S) : bb js 0 may S = (0, default) := by
  rw [bb_eq hm h0, needs_none]; rfl
end

/-! ### The joins that are broken, as bits -/
def brkN (l : List Sp) : Nat → List (Int × Int) → Int
  | _, [] => 0
  | i, j :: r => (if i < 16 ∧ l.any (brokenB j) = true then 1 else 0) + 2 * brkN l (i + 1) r
theorem brk_N (l : List Sp) : ∀ (r : List (Int × Int)) (i : Nat), brkZ l i r = 2 ^ i * brkN l i r
  | [], i => by simp [brkZ, brkN]
  | j :: r, i => by
    rw [brkZ, brkN, brk_N l r (i + 1), Int.pow_succ, Int.mul_add, Int.mul_assoc]
    split <;> simp
theorem bit_brkN (l : List Sp) : ∀ (r : List (Int × Int)) (i k : Nat), k < r.length → i + k < 16 → bit (brkN l i r) k = l.any (brokenB (r.getD k (0, 0)))
  | [], _, _, h, _ => by simp at h
  | j :: r, i, 0, _, hi => by
    rw [brkN, List.getD_cons_zero]
    unfold bit
    rw [Int.pow_zero, Int.ediv_one]
    cases h : l.any (brokenB j)
    · rw [if_neg (by simp)]
      simp
    · rw [if_pos ⟨by omega, rfl⟩]
      rw [decide_eq_true_eq]
      omega
  | j :: r, i, k + 1, hk, hi => by
    rw [brkN, List.getD_cons_succ, ← bit_brkN l r (i + 1) k (by simpa using hk) (by omega)]
    have e : ∀ x : Int, x / 2 ^ (k + 1) = x / 2 / 2 ^ k := fun x => by
      rw [Int.pow_succ, Int.mul_comm (2 ^ k) 2, Int.ediv_ediv_of_nonneg (by decide)]
    have e2 : ((if i < 16 ∧ l.any (brokenB j) = true then 1 else 0) + 2 * brkN l (i + 1) r) / 2 = brkN l (i + 1) r := by split <;> omega
    unfold bit
    rw [e, e2]
theorem bit_brk {l : List Sp} {js : List (Int × Int)} {k : Nat} (hk : k < js.length) (h16 : k < 16) : bit (brkZ l 0 js) k = l.any (brokenB (js.getD k (0, 0))) := by
  rw [brk_N, Int.pow_zero, Int.one_mul]
  exact bit_brkN l js 0 k hk (by omega)
theorem brk_zeros (l : List Sp) : ∀ (n i : Nat), brkZ l i (List.replicate n (0, 0)) = 0
  | 0, _ => rfl
  | n + 1, i => by
    rw [List.replicate_succ, brkZ, brk_zeros l n (i + 1), if_neg]
    · rfl
    · rintro ⟨_, h⟩
      rw [List.any_eq_true] at h
      obtain ⟨x, _, hx⟩ := h
      simp [brokenB] at hx
theorem valid_split {w p : Int} (h : validB w p = true) : splitB w p = true ∧ p < 9223372036854775808 := by
  simp only [validB, Bool.and_eq_true, decide_eq_true_eq] at h
  obtain ⟨⟨⟨⟨h1, h2⟩, h3, h4⟩, h5⟩, h6⟩ := h
  refine ⟨?_, by omega⟩
  obtain ⟨a, rfl⟩ := Int.eq_ofNat_of_zero_le (show 0 ≤ w by omega)
  obtain ⟨b, rfl⟩ := Int.eq_ofNat_of_zero_le (show 0 ≤ p by omega)
  have ha := ofInt_nat (a := a) (by omega)
  have hb := ofInt_nat (a := b) (by omega)
  have hz : BitVec.ofInt 64 (b : Int) &&& BitVec.ofInt 64 (a : Int) = BitVec.ofInt 64 (b : Int) := by
    apply BitVec.eq_of_toNat_eq
    rw [andI_nat (by omega) (by omega)] at h5
    rw [BitVec.toNat_and, ha, hb]
    omega
  have hz2 : BitVec.ofInt 64 (b : Int) &&& ~~~ BitVec.ofInt 64 (a : Int) = 0#64 := by
    rw [← hz, BitVec.and_assoc]
    simp
  have hr : andNotI (b : Int) (a : Int) = 0 := by
    unfold andNotI bitsI
    simp only
    rw [hz2]
    decide
  simp only [splitB, Bool.and_eq_true, decide_eq_true_eq]
  exact ⟨⟨⟨⟨by omega, by omega⟩, by omega⟩, hr⟩, h6⟩
/-- All pieces are in the whole. -/
theorem bit_whole {n k : Nat} (h : k < n) : bit (2 ^ n - 1) k = true := by
  have h1 : 1 ≤ 2 ^ n := Nat.one_le_two_pow
  have e : ((2 : Int) ^ n - 1) = ((2 ^ n - 1 : Nat) : Int) := by
    rw [Int.natCast_sub h1]; simp
  rw [e, bit_nat, Nat.testBit_two_pow_sub_one]
  simpa using h
end Go.Proofs.YtdejleegamcioaaGreat
namespace Go.Proofs.YtdejleegamcioaaGreat
open Go Go.M

theorem fb6 : funcB Tryz.f6 (Tryz.f6.body.getD .skip) 4 = true := by kernel_rfl
theorem fc11 : funcF Tryz.prog 11 = true := by kernel_rfl
theorem fc12 : funcF Tryz.prog 12 = true := by kernel_rfl
theorem fc17 : funcF Tryz.prog 17 = true := by kernel_rfl
theorem fc24 : funcF Tryz.prog 24 = true := by kernel_rfl
theorem fc25 : funcF Tryz.prog 25 = true := by kernel_rfl
theorem fc9 : funcF Tryz.prog 9 = true := by kernel_rfl
theorem sz36 : sizeF Tryz.prog 36 = some 2 := by kernel_rfl
theorem zf36 : zeroF Tryz.prog 36 = some [.slice none 0 0, .slice none 0 0] := by kernel_rfl

/-- undo.Least, for proper arguments. -/
def LeastC (I : Table) : Prop := ∀ (s : St) (w bad : Int) (vj vm : Value) (js : List (Int × Int)) (may : List Sp), Fine s → Sl s 30 2 vj (js.map jc) → Sl s 62 10 vm (may.map Sp.cells) → (∀ j ∈ js, joinB j ∧ j.1 ≠ j.2) → js.length ≤ 16 → MayOK may → may.length ≤ 15 → 0 < w → w < 65536 → 0 ≤ bad → bad < 2 ^ js.length → s.next + 20000000000 ≤ limit →
  ∃ v' s', Rets Tryz.prog I 12 #[.int .i64 w, vj, .int .i64 bad, vm] s v' s' ∧
    (((bb js bad may w).1 = 65536 ∧ v' = .tuple ⟨[.slice none 0 0, .int .i64 0, .agg ⟨[.slice none 0 0, .slice none 0 0]⟩, .int .i64 6]⟩ ∧ HL [] s s' [] 20000000000) ∨
     ((bb js bad may w).1 < 65536 ∧ ∃ (D : Hp') (sx p1 p2 : Slc), v' = .tuple ⟨[sx.v, .int .i64 (bb js bad may w).1, .agg ⟨[p1.v, p2.v]⟩, .int .i64 0]⟩ ∧ HL [] s s' D 20000000000 ∧ SlG D 62 10 sx.v ((tk js bad may (w.toNat + 1) w).map Sp.cells)))
/-- The examples of the section. -/
def LivesC (I : Table) : Prop := ∀ (s : St), Fine s → s.next + 1000000 ≤ limit → ∃ v' s', Rets Tryz.prog I 17 #[] s v' s' ∧ (v' = .bool true ∧ HL [] s s' [] 1000000)
theorem jcsG {b cap : Nat} {l : List (Int × Int)} (hcap : l.length ≤ cap / 2) : SlG [(b, .cells ((l.map jc).flatten) 30)] 30 2 (.slice (some ⟨b, 0, none⟩) l.length cap) (l.map jc) := by
  refine SlG.block b 0 cap ((l.map jc).flatten) (by simp) (by simp) (by simpa using hcap) fun k hk => ?_
  exact flat_get (by intro x hx; obtain ⟨y, _, rfl⟩ := List.mem_map.mp hx; rfl) hk
theorem SlG.slc {D : Hp'} {e : TypeId} {sz : Nat} {x : Slc} {es : List (List Value)} (h : SlG D e sz x.v es) : x.n = es.length := by
  cases h with
  | nil c hv hl => subst hl; simp only [Slc.v, Value.slice.injEq] at hv; exact hv.2.1
  | block b off cap c hv => simp only [Slc.v, Value.slice.injEq] at hv; exact hv.2.1
theorem zeros20 : repL [.int .i64 0, .int .i64 0] 20 = ((List.replicate 20 ((0 : Int), (0 : Int))).map jc).flatten := rfl

set_option maxHeartbeats 4000000 in
set_option maxRecDepth 10000 in
theorem enough_ok {I : Table} (hI : Plain I) (hL : LeastC I) (hV : LivesC I) {s : St} (hf : Fine s) {v : Value} {l : List Int} {how at_ by_ : Int} (hl : SlI s v l) (hin : ∀ x ∈ l, In64 x) (h1 : In64 how) (h2 : In64 at_) (h3 : In64 by_) (hroom : s.next + 100000000000000 ≤ limit) :
    ∃ v' s', Rets Tryz.prog I 6 #[v, .int .i64 how, .int .i64 at_, .int .i64 by_] s v' s' ∧ (v' = .bool true ∧ HL [] s s' [] 100000000000000) := by
  have H := hf.hl
  refine call_of 4 (hI 6 (by decide) (by decide)) Tryz.func6 rfl fb6 rfl ?_
  refine cw_rseq ?_
  refine ops_on rfl (op_assignC ?_)
  refine ops_nil ?_
  refine cw_rseq ?_
  first | refine ops_on rfl (op_moveS rfl ?_) | refine ops_on rfl (op_move ?_)
  refine ops_on rfl (op_call rfl fc9 rfl ?_)
  obtain ⟨_, s9, hr, D, DD, sj, sm, js, may, n, w, bad, rfl, Hc, hjG, hmG, hn, hjl, hjr, hbad, hml, hmay⟩ := made_ok hI H.fine (hl.kept H) hin (by have := H.most; omega)
  refine ⟨_, _, hr, ?_⟩
  clear hr
  have H := H.callE Hc
  clear Hc
  try simp only [List.cons_append, List.nil_append, List.append_assoc] at H
  have hmay2 : MayOK may := fun x hx => valid_split (hmay x hx).1
  have hjB : ∀ j ∈ js, joinB j ∧ j.1 ≠ j.2 := fun j hj => by have := hjr j hj; unfold joinB; omega
  have hw0 : 3 ≤ w ∧ w ≤ 63 := by
    obtain ⟨q1, q2, q3⟩ := hn
    have : n = 2 ∨ n = 3 ∨ n = 4 ∨ n = 5 ∨ n = 6 := by omega
    rcases this with rfl | rfl | rfl | rfl | rfl <;> (rw [q3]; decide)
  have hjn := hjG.slc
  have hmn := hmG.slc
  rw [List.length_map] at hjn hmn
  obtain ⟨sja, sjn, sjc⟩ := sj
  obtain ⟨sma, smn, smc⟩ := sm
  simp only at hjn hmn
  subst hjn
  subst hmn
  refine ops_on rfl (op_alloc H zf27 (by omega) (fun b9 s1 H => ?_))
  first | refine ops_on rfl (op_store0 (vs := [.int _ _, .slice _ _ _, .int _ _, .slice _ _ _]) H sz27 rfl rfl rfl rfl rfl (by omega) (fun s2 H => ?_)) | refine ops_on rfl (op_store1 (vs := [.int _ _, .slice _ _ _, .int _ _, .slice _ _ _]) H sz27 rfl rfl rfl rfl rfl (by omega) (fun s2 H => ?_)) | refine ops_on rfl (op_store2 (vs := [.int _ _, .slice _ _ _, .int _ _, .slice _ _ _]) H sz27 rfl rfl rfl rfl rfl (by omega) (fun s2 H => ?_)) | refine ops_on rfl (op_store3 (vs := [.int _ _, .slice _ _ _, .int _ _, .slice _ _ _]) H sz27 rfl rfl rfl rfl rfl (by omega) (fun s2 H => ?_)) | refine ops_on rfl (op_store4 (vs := [.int _ _, .slice _ _ _, .int _ _, .slice _ _ _]) H sz27 rfl rfl rfl rfl rfl (by omega) (fun s2 H => ?_)) | refine ops_on rfl (op_store0 H sz27 rfl rfl rfl rfl rfl (by omega) (fun s2 H => ?_)) | refine ops_on rfl (op_store1 H sz27 rfl rfl rfl rfl rfl (by omega) (fun s2 H => ?_)) | refine ops_on rfl (op_store2 H sz27 rfl rfl rfl rfl rfl (by omega) (fun s2 H => ?_)) | refine ops_on rfl (op_store3 H sz27 rfl rfl rfl rfl rfl (by omega) (fun s2 H => ?_)) | refine ops_on rfl (op_store4 H sz27 rfl rfl rfl rfl rfl (by omega) (fun s2 H => ?_))
  refine ops_nil ?_
  refine cw_rseq ?_
  refine ops_on rfl (op_fieldAddr of27_3 rfl ?_)
  refine ops_on rfl (op_load1 sh25 rfl (by first | exact H.own0 | exact H.own1 | exact H.own2 | exact H.own3 | exact H.own4 | exact H.own5 | exact H.ownA | assumption) rfl ?_)
  first | refine ops_on rfl (op_moveI rfl ?_) | refine ops_on rfl (op_move ?_)
  first | refine ops_on rfl (op_moveI rfl ?_) | refine ops_on rfl (op_move ?_)
  first | refine ops_on rfl (op_moveI rfl ?_) | refine ops_on rfl (op_move ?_)
  refine ops_on rfl (op_call rfl fc11 rfl ?_)
  obtain ⟨_, s9, hr, D2, DD2, l2, Hc, h2G, hl2, _⟩ := bent_ok (l := may) hI H.fine (hmG.sl H (by intro p hp; (try simp only [List.mem_cons, List.mem_append, List.not_mem_nil, or_false] at hp ⊢); first | exact hp | simp only [hp, true_or, or_true])) (by omega) h1 h2 h3 (by have := H.most; omega)
  refine ⟨_, _, hr, ?_⟩
  clear hr
  have H := H.callE Hc
  clear Hc
  try simp only [List.cons_append, List.nil_append, List.append_assoc] at H
  first | refine ops_on rfl (op_assignS rfl ?_) | refine ops_on rfl (op_assign ?_)
  refine ops_nil ?_
  refine cw_rseq ?_
  first | refine ops_on rfl (op_buildSlice (c := []) H sl24 rfl rfl (by omega) (fun b30 s3 H => ?_)) | refine ops_on rfl (op_buildSlice H sl24 rfl rfl (by omega) (fun b30 s3 H => ?_))
  refine ops_on rfl (op_fieldAddr of27_1 rfl ?_)
  refine ops_on rfl (op_load1 sh24 rfl (by first | exact H.own0 | exact H.own1 | exact H.own2 | exact H.own3 | exact H.own4 | exact H.own5 | exact H.ownA | assumption) rfl ?_)
  refine ops_on rfl (op_append00 H sl24 un24 rfl rfl rfl (hjG.sl H (by intro p hp; (try simp only [List.mem_cons, List.mem_append, List.not_mem_nil, or_false] at hp ⊢); first | exact hp | simp only [hp, true_or, or_true])).elemsJ (by omega) (jcs_plain js) (jcs_len js) (by omega) (by omega) (fun b33 s33 H => ?_))
  first | refine ops_on rfl (op_moveI rfl ?_) | refine ops_on rfl (op_move ?_)
  first | refine ops_on rfl (op_moveI rfl ?_) | refine ops_on rfl (op_move ?_)
  first | refine ops_on rfl (op_build (c := [.int _ _, .int _ _]) bf30 rfl ?_) | refine ops_on rfl (op_build bf30 rfl ?_)
  first | refine ops_on rfl (op_moveI rfl ?_) | refine ops_on rfl (op_move ?_)
  first | refine ops_on rfl (op_moveI rfl ?_) | refine ops_on rfl (op_move ?_)
  refine ops_on rfl (op_neg rfl ?_)
  first | refine ops_on rfl (op_build (c := [.int _ _, .int _ _]) bf30 rfl ?_) | refine ops_on rfl (op_build bf30 rfl ?_)
  first | refine ops_on rfl (op_buildSlice (c := [.int _ _, .int _ _, .int _ _, .int _ _]) H sl24 rfl rfl (by omega) (fun b41 s4 H => ?_)) | refine ops_on rfl (op_buildSlice H sl24 rfl rfl (by omega) (fun b41 s4 H => ?_))
  have hgt := H.own0
  have H := H.drop0
  refine ops_on rfl (op_append0 H sl24 un24 rfl rfl rfl (elems_all hgt rfl) (by rw [jcs_len]) (by omega) rfl rfl (by omega) (by omega) (fun b42 s42 H => ?_))
  first | refine ops_on rfl (op_assignS rfl ?_) | refine ops_on rfl (op_assign ?_)
  refine ops_nil ?_
  refine cw_seq ?_
  refine cw_rseq ?_
  obtain ⟨J2, hJ2⟩ : ∃ J2, J2 = js ++ [(at_, by_), (by_, IntKind.i64.wrap (0 - how))] := ⟨_, rfl⟩
  have hJl : J2.length = js.length + 2 := by rw [hJ2]; simp
  have hJG : SlG [(b42, .cells ((J2.map jc).flatten) 30)] 30 2 (.slice (some ⟨b42, 0, none⟩) J2.length (2 * (js.length + 2) + 1)) (J2.map jc) := jcsG (by omega)
  have hJc : (J2.map jc).flatten = (js.map jc).flatten ++ [.int .i64 at_, .int .i64 by_, .int .i64 by_, .int .i64 (IntKind.i64.wrap (0 - how))] := by rw [hJ2]; simp [jc]
  rw [← hJc] at H
  rw [hJl] at hJG
  first | refine ops_on rfl (op_moveS rfl ?_) | refine ops_on rfl (op_move ?_)
  first | refine ops_on rfl (op_moveS rfl ?_) | refine ops_on rfl (op_move ?_)
  refine ops_on rfl (op_call rfl fc24 rfl ?_)
  obtain ⟨_, s9, hr, rfl, Hc⟩ := brokenP_ok (js := J2) (l := l2) hI H.fine (hJG.sl H (by intro p hp; (try simp only [List.mem_cons, List.mem_append, List.not_mem_nil, or_false] at hp ⊢); first | exact hp | simp only [hp, true_or, or_true])) (h2G.sl H (by intro p hp; (try simp only [List.mem_cons, List.mem_append, List.not_mem_nil, or_false] at hp ⊢); first | exact hp | simp only [hp, true_or, or_true])) (by omega) (by omega) (by omega) (by have := H.most; omega)
  refine ⟨_, _, hr, ?_⟩
  clear hr
  have H := H.call0 Hc
  clear Hc
  first | refine ops_on rfl (op_moveS rfl ?_) | refine ops_on rfl (op_move ?_)
  first | refine ops_on rfl (op_moveS rfl ?_) | refine ops_on rfl (op_move ?_)
  refine ops_on rfl (op_call rfl fc25 rfl ?_)
  obtain ⟨_, s9, hr, rfl, Hc⟩ := brokenR_ok (js := J2) (l := l2) hI H.fine (hJG.sl H (by intro p hp; (try simp only [List.mem_cons, List.mem_append, List.not_mem_nil, or_false] at hp ⊢); first | exact hp | simp only [hp, true_or, or_true])) (h2G.sl H (by intro p hp; (try simp only [List.mem_cons, List.mem_append, List.not_mem_nil, or_false] at hp ⊢); first | exact hp | simp only [hp, true_or, or_true])) (by omega) (by omega) (by have := H.most; omega)
  refine ⟨_, _, hr, ?_⟩
  clear hr
  have H := H.call0 Hc
  clear Hc
  refine ops_on rfl (op_neq rfl rfl (fun h => False.elim (by exact h rfl)) (fun h => ?_))
  first | refine ops_on rfl (op_moveB rfl ?_) | refine ops_on rfl (op_move ?_)
  refine ops_on rfl (op_makeSlice (a := 20) (b := 20) H sl24 rfl rfl (by decide) (by decide) (by omega) (fun b51 s51 H => ?_))
  rw [zeros20] at H
  have hZG : SlG [(b51, .cells (((List.replicate 20 ((0 : Int), (0 : Int))).map jc).flatten) 30)] 30 2 (.slice (some ⟨b51, 0, none⟩) 20 (2 * 20)) ((List.replicate 20 ((0 : Int), (0 : Int))).map jc) := jcsG (l := List.replicate 20 (0, 0)) (by decide)
  first | refine ops_on rfl (op_moveS rfl ?_) | refine ops_on rfl (op_move ?_)
  refine ops_on rfl (op_call rfl fc24 rfl ?_)
  obtain ⟨_, s9, hr, rfl, Hc⟩ := brokenP_ok (js := List.replicate 20 (0, 0)) (l := l2) hI H.fine (hZG.sl H (by intro p hp; (try simp only [List.mem_cons, List.mem_append, List.not_mem_nil, or_false] at hp ⊢); first | exact hp | simp only [hp, true_or, or_true])) (h2G.sl H (by intro p hp; (try simp only [List.mem_cons, List.mem_append, List.not_mem_nil, or_false] at hp ⊢); first | exact hp | simp only [hp, true_or, or_true])) (by decide) (by omega) (by decide) (by have := H.most; omega)
  refine ⟨_, _, hr, ?_⟩
  clear hr
  have H := H.call0 Hc
  clear Hc
  rw [brk_zeros]
  refine ops_on rfl (op_neq rfl rfl (fun h => False.elim (by exact h rfl)) (fun h => ?_))
  first | refine ops_on rfl (op_pick0B rfl rfl ?_) | refine ops_on rfl (op_pick0 rfl ?_)
  refine ops_nil ?_
  refine cw_else rfl ?_
  refine cw_skip ?_
  refine seq_norm ?_
  refine cw_rseq ?_
  refine ops_on rfl (op_fieldAddr of27_0 rfl ?_)
  refine ops_on rfl (op_load1 sh23 rfl (by first | exact H.own0 | exact H.own1 | exact H.own2 | exact H.own3 | exact H.own4 | exact H.own5 | exact H.ownA | assumption) rfl ?_)
  refine ops_on rfl (op_fieldAddr of27_1 rfl ?_)
  refine ops_on rfl (op_load1 sh24 rfl (by first | exact H.own0 | exact H.own1 | exact H.own2 | exact H.own3 | exact H.own4 | exact H.own5 | exact H.ownA | assumption) rfl ?_)
  refine ops_on rfl (op_fieldAddr of27_2 rfl ?_)
  refine ops_on rfl (op_load1 sh23 rfl (by first | exact H.own0 | exact H.own1 | exact H.own2 | exact H.own3 | exact H.own4 | exact H.own5 | exact H.ownA | assumption) rfl ?_)
  refine ops_on rfl (op_fieldAddr of27_3 rfl ?_)
  refine ops_on rfl (op_load1 sh25 rfl (by first | exact H.own0 | exact H.own1 | exact H.own2 | exact H.own3 | exact H.own4 | exact H.own5 | exact H.ownA | assumption) rfl ?_)
  refine ops_on rfl (op_call rfl fc12 rfl ?_)
  obtain ⟨_, s9, hr, hlx⟩ := hL _ w bad (.slice sja js.length sjc) (.slice sma may.length smc) js may H.fine (hjG.sl H (by intro p hp; (try simp only [List.mem_cons, List.mem_append, List.not_mem_nil, or_false] at hp ⊢); first | exact hp | simp only [hp, true_or, or_true])) (hmG.sl H (by intro p hp; (try simp only [List.mem_cons, List.mem_append, List.not_mem_nil, or_false] at hp ⊢); first | exact hp | simp only [hp, true_or, or_true])) hjB (by omega) hmay2 (by omega) (by omega) (by omega) (by omega) hbad.2 (by have := H.most; omega)
  refine ⟨_, _, hr, ?_⟩
  clear hr
  rcases hlx with ⟨hx1, rfl, Hc⟩ | ⟨hx1, Dx, sx, px1, px2, rfl, Hc, hxG⟩
  · have H := H.call0 Hc
    clear Hc
    first | refine ops_on rfl (op_moveT rfl ?_) | refine ops_on rfl (op_move ?_)
    refine ops_on rfl (op_extract rfl rfl ?_)
    refine ops_on rfl (op_extract rfl rfl ?_)
    refine ops_on rfl (op_extract rfl rfl ?_)
    refine ops_on rfl (op_extract rfl rfl ?_)
    refine ops_on rfl (op_alloc H zf36 (by omega) (fun b14 s5 H => ?_))
    first | refine ops_on rfl (op_assignS rfl ?_) | refine ops_on rfl (op_assign ?_)
    first | refine ops_on rfl (op_assignI rfl ?_) | refine ops_on rfl (op_assign ?_)
    first | refine ops_on rfl (op_store0 (vs := [.slice _ _ _, .slice _ _ _]) H sz36 rfl rfl rfl rfl rfl (by omega) (fun s6 H => ?_)) | refine ops_on rfl (op_store1 (vs := [.slice _ _ _, .slice _ _ _]) H sz36 rfl rfl rfl rfl rfl (by omega) (fun s6 H => ?_)) | refine ops_on rfl (op_store2 (vs := [.slice _ _ _, .slice _ _ _]) H sz36 rfl rfl rfl rfl rfl (by omega) (fun s6 H => ?_)) | refine ops_on rfl (op_store3 (vs := [.slice _ _ _, .slice _ _ _]) H sz36 rfl rfl rfl rfl rfl (by omega) (fun s6 H => ?_)) | refine ops_on rfl (op_store4 (vs := [.slice _ _ _, .slice _ _ _]) H sz36 rfl rfl rfl rfl rfl (by omega) (fun s6 H => ?_)) | refine ops_on rfl (op_store0 H sz36 rfl rfl rfl rfl rfl (by omega) (fun s6 H => ?_)) | refine ops_on rfl (op_store1 H sz36 rfl rfl rfl rfl rfl (by omega) (fun s6 H => ?_)) | refine ops_on rfl (op_store2 H sz36 rfl rfl rfl rfl rfl (by omega) (fun s6 H => ?_)) | refine ops_on rfl (op_store3 H sz36 rfl rfl rfl rfl rfl (by omega) (fun s6 H => ?_)) | refine ops_on rfl (op_store4 H sz36 rfl rfl rfl rfl rfl (by omega) (fun s6 H => ?_))
    first | refine ops_on rfl (op_assignI rfl ?_) | refine ops_on rfl (op_assign ?_)
    refine ops_nil ?_
    refine cw_seq ?_
    refine cw_rseq ?_
    first | refine ops_on rfl (op_moveI rfl ?_) | refine ops_on rfl (op_move ?_)
    refine ops_on rfl (op_eql rfl rfl (fun h => False.elim (by exact absurd h (by decide))) (fun h => ?_))
    refine ops_nil ?_
    refine cw_else rfl ?_
    refine cw_skip ?_
    refine seq_norm ?_
    refine cw_rseq ?_
    refine ops_on rfl (op_fieldAddr of27_0 rfl ?_)
    refine ops_on rfl (op_load1 sh23 rfl (by first | exact H.own0 | exact H.own1 | exact H.own2 | exact H.own3 | exact H.own4 | exact H.own5 | exact H.ownA | assumption) rfl ?_)
    refine ops_on rfl (op_fieldAddr of27_1 rfl ?_)
    refine ops_on rfl (op_load1 sh24 rfl (by first | exact H.own0 | exact H.own1 | exact H.own2 | exact H.own3 | exact H.own4 | exact H.own5 | exact H.ownA | assumption) rfl ?_)
    refine ops_on rfl (op_fieldAddr of27_3 rfl ?_)
    refine ops_on rfl (op_load1 sh25 rfl (by first | exact H.own0 | exact H.own1 | exact H.own2 | exact H.own3 | exact H.own4 | exact H.own5 | exact H.ownA | assumption) rfl ?_)
    refine ops_on rfl (op_call rfl fc12 rfl ?_)
    obtain ⟨_, s9, hr, hly⟩ := hL _ w 0 (.slice sja js.length sjc) (.slice sma may.length smc) js may H.fine (hjG.sl H (by intro p hp; (try simp only [List.mem_cons, List.mem_append, List.not_mem_nil, or_false] at hp ⊢); first | exact hp | simp only [hp, true_or, or_true])) (hmG.sl H (by intro p hp; (try simp only [List.mem_cons, List.mem_append, List.not_mem_nil, or_false] at hp ⊢); first | exact hp | simp only [hp, true_or, or_true])) hjB (by omega) hmay2 (by omega) (by omega) (by omega) (by omega) (by have := hbad.2; have := hbad.1; omega) (by have := H.most; omega)
    refine ⟨_, _, hr, ?_⟩
    clear hr
    rw [bb_nobad hmay2 (by omega)] at hly
    rcases hly with ⟨hy1, _⟩ | ⟨hy1, Dy, sy, py1, py2, rfl, Hc, hyG⟩
    · simp at hy1
    have hytk : tk js 0 may (w.toNat + 1) w = [] := by rw [tk, bb_nobad hmay2 (by omega)]; rfl
    rw [hytk] at hyG
    have hyn := hyG.slc
    have H := H.callE Hc
    clear Hc
    try simp only [List.cons_append, List.nil_append, List.append_assoc] at H
    first | refine ops_on rfl (op_moveT rfl ?_) | refine ops_on rfl (op_move ?_)
    refine ops_on rfl (op_extract rfl rfl ?_)
    refine ops_on rfl (op_extract rfl rfl ?_)
    refine ops_on rfl (op_extract rfl rfl ?_)
    refine ops_on rfl (op_extract rfl rfl ?_)
    refine ops_on rfl (op_alloc H zf36 (by omega) (fun b20 s7 H => ?_))
    first | refine ops_on rfl (op_assignS rfl ?_) | refine ops_on rfl (op_assign ?_)
    first | refine ops_on rfl (op_assignI rfl ?_) | refine ops_on rfl (op_assign ?_)
    first | refine ops_on rfl (op_store0 (vs := [.slice _ _ _, .slice _ _ _]) H sz36 rfl rfl rfl rfl rfl (by omega) (fun s8 H => ?_)) | refine ops_on rfl (op_store1 (vs := [.slice _ _ _, .slice _ _ _]) H sz36 rfl rfl rfl rfl rfl (by omega) (fun s8 H => ?_)) | refine ops_on rfl (op_store2 (vs := [.slice _ _ _, .slice _ _ _]) H sz36 rfl rfl rfl rfl rfl (by omega) (fun s8 H => ?_)) | refine ops_on rfl (op_store3 (vs := [.slice _ _ _, .slice _ _ _]) H sz36 rfl rfl rfl rfl rfl (by omega) (fun s8 H => ?_)) | refine ops_on rfl (op_store4 (vs := [.slice _ _ _, .slice _ _ _]) H sz36 rfl rfl rfl rfl rfl (by omega) (fun s8 H => ?_)) | refine ops_on rfl (op_store0 H sz36 rfl rfl rfl rfl rfl (by omega) (fun s8 H => ?_)) | refine ops_on rfl (op_store1 H sz36 rfl rfl rfl rfl rfl (by omega) (fun s8 H => ?_)) | refine ops_on rfl (op_store2 H sz36 rfl rfl rfl rfl rfl (by omega) (fun s8 H => ?_)) | refine ops_on rfl (op_store3 H sz36 rfl rfl rfl rfl rfl (by omega) (fun s8 H => ?_)) | refine ops_on rfl (op_store4 H sz36 rfl rfl rfl rfl rfl (by omega) (fun s8 H => ?_))
    first | refine ops_on rfl (op_assignI rfl ?_) | refine ops_on rfl (op_assign ?_)
    refine ops_nil ?_
    refine cw_rseq ?_
    refine ops_on rfl (op_fieldAddr of27_2 rfl ?_)
    refine ops_on rfl (op_load1 sh23 rfl (by first | exact H.own0 | exact H.own1 | exact H.own2 | exact H.own3 | exact H.own4 | exact H.own5 | exact H.ownA | assumption) rfl ?_)
    refine ops_on rfl (op_neq rfl rfl (fun h => ?_) (fun h => ?_))
    · first | refine ops_on rfl (op_moveB rfl ?_) | refine ops_on rfl (op_move ?_)
      refine ops_off rfl ?_
      refine ops_off rfl ?_
      refine ops_on rfl (op_pick1C rfl ?_)
      first | refine ops_on rfl (op_moveB rfl ?_) | refine ops_on rfl (op_move ?_)
      first | refine ops_on rfl (op_moveI rfl ?_) | refine ops_on rfl (op_move ?_)
      refine ops_on rfl (op_eql rfl rfl (fun h => ?_) (fun h => False.elim (by exact h rfl)))
      first | refine ops_on rfl (op_pick1B rfl rfl ?_) | refine ops_on rfl (op_pick1 rfl ?_)
      first | refine ops_on rfl (op_moveB rfl ?_) | refine ops_on rfl (op_move ?_)
      first | refine ops_on rfl (op_moveI rfl ?_) | refine ops_on rfl (op_move ?_)
      refine ops_on rfl (op_eql rfl rfl (fun h => ?_) (fun h => False.elim (by exact h rfl)))
      first | refine ops_on rfl (op_pick1B rfl rfl ?_) | refine ops_on rfl (op_pick1 rfl ?_)
      first | refine ops_on rfl (op_moveB rfl ?_) | refine ops_on rfl (op_move ?_)
      first | refine ops_on rfl (op_moveS rfl ?_) | refine ops_on rfl (op_move ?_)
      refine ops_on rfl (op_len un25 rfl rfl rfl ?_)
      refine ops_on rfl (op_eql rfl rfl (fun h => ?_) (fun h => False.elim (by simp at hyn; omega)))
      first | refine ops_on rfl (op_pick1B rfl rfl ?_) | refine ops_on rfl (op_pick1 rfl ?_)
      first | refine ops_on rfl (op_moveB rfl ?_) | refine ops_on rfl (op_move ?_)
      refine ops_on rfl (op_call rfl fc17 rfl ?_)
      obtain ⟨_, s9, hr, rfl, Hc⟩ := hV _ H.fine (by have := H.most; omega)
      refine ⟨_, _, hr, ?_⟩
      clear hr
      have H := H.call0 Hc
      clear Hc
      first | refine ops_on rfl (op_pick1B rfl rfl ?_) | refine ops_on rfl (op_pick1 rfl ?_)
      first | refine ops_on rfl (op_assignB rfl ?_) | refine ops_on rfl (op_assign ?_)
      refine ops_nil ?_
      refine cw_ret ?_
      refine ret_end ?_
      refine end_t ?_
      exact ⟨rfl, (H.sub (List.nil_sublist _)).up (by omega)⟩
    · first | refine ops_on rfl (op_moveB rfl ?_) | refine ops_on rfl (op_move ?_)
      first | refine ops_on rfl (op_moveI rfl ?_) | refine ops_on rfl (op_move ?_)
      refine ops_on rfl (op_eql rfl rfl (fun h => ?_) (fun h => False.elim (by exact h rfl)))
      first | refine ops_on rfl (op_pick0B rfl rfl ?_) | refine ops_on rfl (op_pick0 rfl ?_)
      first | refine ops_on rfl (op_moveB rfl ?_) | refine ops_on rfl (op_move ?_)
      first | refine ops_on rfl (op_moveI rfl ?_) | refine ops_on rfl (op_move ?_)
      refine ops_on rfl (op_eql rfl rfl (fun h => ?_) (fun h => False.elim (by exact h rfl)))
      first | refine ops_on rfl (op_pick1B rfl rfl ?_) | refine ops_on rfl (op_pick1 rfl ?_)
      first | refine ops_on rfl (op_moveB rfl ?_) | refine ops_on rfl (op_move ?_)
      first | refine ops_on rfl (op_moveI rfl ?_) | refine ops_on rfl (op_move ?_)
      refine ops_on rfl (op_eql rfl rfl (fun h => ?_) (fun h => False.elim (by exact h rfl)))
      first | refine ops_on rfl (op_pick1B rfl rfl ?_) | refine ops_on rfl (op_pick1 rfl ?_)
      first | refine ops_on rfl (op_moveB rfl ?_) | refine ops_on rfl (op_move ?_)
      first | refine ops_on rfl (op_moveS rfl ?_) | refine ops_on rfl (op_move ?_)
      refine ops_on rfl (op_len un25 rfl rfl rfl ?_)
      refine ops_on rfl (op_eql rfl rfl (fun h => ?_) (fun h => False.elim (by simp at hyn; omega)))
      first | refine ops_on rfl (op_pick1B rfl rfl ?_) | refine ops_on rfl (op_pick1 rfl ?_)
      first | refine ops_on rfl (op_moveB rfl ?_) | refine ops_on rfl (op_move ?_)
      refine ops_on rfl (op_call rfl fc17 rfl ?_)
      obtain ⟨_, s9, hr, rfl, Hc⟩ := hV _ H.fine (by have := H.most; omega)
      refine ⟨_, _, hr, ?_⟩
      clear hr
      have H := H.call0 Hc
      clear Hc
      first | refine ops_on rfl (op_pick1B rfl rfl ?_) | refine ops_on rfl (op_pick1 rfl ?_)
      first | refine ops_on rfl (op_assignB rfl ?_) | refine ops_on rfl (op_assign ?_)
      refine ops_nil ?_
      refine cw_ret ?_
      refine ret_end ?_
      refine end_t ?_
      exact ⟨rfl, (H.sub (List.nil_sublist _)).up (by omega)⟩
  · have H := H.callE Hc
    clear Hc
    try simp only [List.cons_append, List.nil_append, List.append_assoc] at H
    have hxn := hxG.slc
    have hxlen := tk_len (js := js) (bad := bad) hmay2 (w.toNat + 1) w (by omega) (by omega) hx1
    have hxl := bb_less (js := js) (bad := bad) hmay2 (w.toNat + 1) w (by omega) (by omega) hx1
    rw [List.length_map] at hxn
    obtain ⟨sxa, sxn, sxc⟩ := sx
    simp only at hxn
    subst hxn
    first | refine ops_on rfl (op_moveT rfl ?_) | refine ops_on rfl (op_move ?_)
    refine ops_on rfl (op_extract rfl rfl ?_)
    refine ops_on rfl (op_extract rfl rfl ?_)
    refine ops_on rfl (op_extract rfl rfl ?_)
    refine ops_on rfl (op_extract rfl rfl ?_)
    refine ops_on rfl (op_alloc H zf36 (by omega) (fun b14 s9 H => ?_))
    first | refine ops_on rfl (op_assignS rfl ?_) | refine ops_on rfl (op_assign ?_)
    first | refine ops_on rfl (op_assignI rfl ?_) | refine ops_on rfl (op_assign ?_)
    first | refine ops_on rfl (op_store0 (vs := [.slice _ _ _, .slice _ _ _]) H sz36 rfl rfl rfl rfl rfl (by omega) (fun s10 H => ?_)) | refine ops_on rfl (op_store1 (vs := [.slice _ _ _, .slice _ _ _]) H sz36 rfl rfl rfl rfl rfl (by omega) (fun s10 H => ?_)) | refine ops_on rfl (op_store2 (vs := [.slice _ _ _, .slice _ _ _]) H sz36 rfl rfl rfl rfl rfl (by omega) (fun s10 H => ?_)) | refine ops_on rfl (op_store3 (vs := [.slice _ _ _, .slice _ _ _]) H sz36 rfl rfl rfl rfl rfl (by omega) (fun s10 H => ?_)) | refine ops_on rfl (op_store4 (vs := [.slice _ _ _, .slice _ _ _]) H sz36 rfl rfl rfl rfl rfl (by omega) (fun s10 H => ?_)) | refine ops_on rfl (op_store0 H sz36 rfl rfl rfl rfl rfl (by omega) (fun s10 H => ?_)) | refine ops_on rfl (op_store1 H sz36 rfl rfl rfl rfl rfl (by omega) (fun s10 H => ?_)) | refine ops_on rfl (op_store2 H sz36 rfl rfl rfl rfl rfl (by omega) (fun s10 H => ?_)) | refine ops_on rfl (op_store3 H sz36 rfl rfl rfl rfl rfl (by omega) (fun s10 H => ?_)) | refine ops_on rfl (op_store4 H sz36 rfl rfl rfl rfl rfl (by omega) (fun s10 H => ?_))
    first | refine ops_on rfl (op_assignI rfl ?_) | refine ops_on rfl (op_assign ?_)
    refine ops_nil ?_
    refine cw_seq ?_
    refine cw_rseq ?_
    first | refine ops_on rfl (op_moveI rfl ?_) | refine ops_on rfl (op_move ?_)
    refine ops_on rfl (op_eql rfl rfl (fun h => ?_) (fun h => False.elim (by exact h rfl)))
    refine ops_nil ?_
    refine cw_then rfl ?_
    refine cw_rseq ?_
    refine ops_on rfl (op_fieldAddr of27_1 rfl ?_)
    refine ops_on rfl (op_load1 sh24 rfl (by first | exact H.own0 | exact H.own1 | exact H.own2 | exact H.own3 | exact H.own4 | exact H.own5 | exact H.ownA | assumption) rfl ?_)
    first | refine ops_on rfl (op_moveS rfl ?_) | refine ops_on rfl (op_move ?_)
    refine ops_on rfl (op_call rfl fc24 rfl ?_)
    obtain ⟨_, s9, hr, rfl, Hc⟩ := brokenP_ok (js := js) (l := tk js bad may (w.toNat + 1) w) hI H.fine (hjG.sl H (by intro p hp; (try simp only [List.mem_cons, List.mem_append, List.not_mem_nil, or_false] at hp ⊢); first | exact hp | simp only [hp, true_or, or_true])) (hxG.sl H (by intro p hp; (try simp only [List.mem_cons, List.mem_append, List.not_mem_nil, or_false] at hp ⊢); first | exact hp | simp only [hp, true_or, or_true])) (by omega) (by omega) (by omega) (by have := H.most; omega)
    refine ⟨_, _, hr, ?_⟩
    clear hr
    have H := H.call0 Hc
    clear Hc
    first | refine ops_on rfl (op_assignI rfl ?_) | refine ops_on rfl (op_assign ?_)
    refine ops_nil ?_
    have H := (H.sub (L' := (b9, .cells [.int .i64 w, .slice sja js.length sjc, .int .i64 bad, .slice sma may.length smc] 27) :: D) (.cons _ (.cons _ (.cons _ (.cons_cons _ (List.sublist_append_left D _)))))).up (show _ ≤ 40000000000000 by omega)
    refine cw_rseq ?_
    refine ops_on rfl (op_assignC ?_)
    refine ops_nil ?_
    refine cw_block ?_
    refine cw_loop (fun k F s1 => ∃ (G : FF) (i : Nat), F = lay G [(9, .pointer (some ⟨b9, 0, none⟩)), (13, .int .i64 (bb js bad may w).1), (16, .int .i64 (brkZ (tk js bad may (w.toNat + 1) w) 0 js)), (17, .int .i64 (i : Int))] ∧ HL [] s s1 ((b9, .cells [.int .i64 w, .slice sja js.length sjc, .int .i64 bad, .slice sma may.length smc] 27) :: D) 40000000000000 ∧ i ≤ js.length ∧ k = js.length - i) ?_ js.length _ _ ?_
    · rintro k F s1 ⟨G, i, rfl, H, hi, rfl⟩
      refine cw_seq ?_
      refine cw_rseq ?_
      first | refine ops_on rfl (op_moveI rfl ?_) | refine ops_on rfl (op_move ?_)
      refine ops_on rfl (op_fieldAddr of27_1 rfl ?_)
      refine ops_on rfl (op_load1 sh24 rfl (by first | exact H.own0 | exact H.own1 | exact H.own2 | exact H.own3 | exact H.own4 | exact H.own5 | exact H.ownA | assumption) rfl ?_)
      refine ops_on rfl (op_len un24 rfl rfl rfl ?_)
      refine ops_on rfl (op_lss rfl rfl (fun h => ?_) (fun h => ?_))
      · refine ops_nil ?_
        refine cw_then rfl ?_
        refine cw_skip ?_
        refine seq_norm ?_
        refine cw_seq ?_
        refine cw_block ?_
        refine cw_rseq ?_
        refine ops_on rfl (op_fieldAddr of27_2 rfl ?_)
        refine ops_on rfl (op_load1 sh23 rfl (by first | exact H.own0 | exact H.own1 | exact H.own2 | exact H.own3 | exact H.own4 | exact H.own5 | exact H.ownA | assumption) rfl ?_)
        first | refine ops_on rfl (op_moveI rfl ?_) | refine ops_on rfl (op_move ?_)
        refine ops_on rfl (op_call rfl fc26 rfl ?_)
        obtain ⟨_, _, hr, rfl, rfl⟩ := has_ok (s := _) (x := bad) (k := (i : Int)) hI
        refine ⟨_, _, hr, ?_⟩
        clear hr
        cases hb2 : (decide ((0 : Int) ≤ (i : Int)) && decide ((i : Int) ≤ 15) && bit bad ((i : Int)).toNat)
        · first | refine ops_on rfl (op_moveB rfl ?_) | refine ops_on rfl (op_move ?_)
          refine ops_off rfl ?_
          refine ops_off rfl ?_
          refine ops_off rfl ?_
          refine ops_off rfl ?_
          refine ops_on rfl (op_pick0C rfl ?_)
          refine ops_nil ?_
          refine cw_else rfl ?_
          refine cw_skip ?_
          refine blk_norm ?_
          refine seq_norm ?_
          refine cw_region ?_
          first | refine ops_on rfl (op_moveI rfl ?_) | refine ops_on rfl (op_move ?_)
          refine ops_on rfl (op_add rfl rfl (by unfold In64; omega) ?_)
          first | refine ops_on rfl (op_assignI rfl ?_) | refine ops_on rfl (op_assign ?_)
          refine ops_nil ?_
          refine loop_norm ?_
          exact ⟨js.length - (i + 1), by omega, _, i + 1, slots ⟨rfl, rfl, rfl, rfl, trivial⟩, H, by omega, rfl⟩
        · first | refine ops_on rfl (op_moveB rfl ?_) | refine ops_on rfl (op_move ?_)
          first | refine ops_on rfl (op_moveI rfl ?_) | refine ops_on rfl (op_move ?_)
          first | refine ops_on rfl (op_moveI rfl ?_) | refine ops_on rfl (op_move ?_)
          refine ops_on rfl (op_call rfl fc26 rfl ?_)
          obtain ⟨_, _, hr, rfl, rfl⟩ := has_ok (s := _) (x := brkZ (tk js bad may (w.toNat + 1) w) 0 js) (k := (i : Int)) hI
          refine ⟨_, _, hr, ?_⟩
          clear hr
          have hb3 : (decide ((0 : Int) ≤ (i : Int)) && decide ((i : Int) ≤ 15) && bit (brkZ (tk js bad may (w.toNat + 1) w) 0 js) ((i : Int)).toNat) = true := by
            simp only [Bool.and_eq_true, decide_eq_true_eq, Int.toNat_natCast] at hb2 ⊢
            refine ⟨hb2.1, ?_⟩
            rw [bit_brk (by omega) (by omega), List.any_eq_true]
            have hj2 := hjr _ (getD_mem (y := ((0 : Int), (0 : Int))) (show i < js.length by omega))
            refine tk_breaks hmay2 (fun j hj => (hjB j hj).1) (by omega) hb2.2 (w.toNat + 1) w (by omega) (by omega) hx1 ?_ ?_
            · rw [hn.2.2]; exact bit_whole (by omega)
            · rw [hn.2.2]; exact bit_whole (by omega)
          rw [hb3]
          refine ops_on rfl (op_not rfl ?_)
          first | refine ops_on rfl (op_pick1B rfl rfl ?_) | refine ops_on rfl (op_pick1 rfl ?_)
          refine ops_nil ?_
          refine cw_else rfl ?_
          refine cw_skip ?_
          refine blk_norm ?_
          refine seq_norm ?_
          refine cw_region ?_
          first | refine ops_on rfl (op_moveI rfl ?_) | refine ops_on rfl (op_move ?_)
          refine ops_on rfl (op_add rfl rfl (by unfold In64; omega) ?_)
          first | refine ops_on rfl (op_assignI rfl ?_) | refine ops_on rfl (op_assign ?_)
          refine ops_nil ?_
          refine loop_norm ?_
          exact ⟨js.length - (i + 1), by omega, _, i + 1, slots ⟨rfl, rfl, rfl, rfl, trivial⟩, H, by omega, rfl⟩
      · refine ops_nil ?_
        refine cw_else rfl ?_
        refine cw_exit ?_
        refine seq_exit ?_
        refine loop_exit ?_
        refine blk_here ?_
        refine seq_norm ?_
        refine cw_rseq ?_
        refine ops_on rfl (op_fieldAddr of27_0 rfl ?_)
        refine ops_on rfl (op_load1 sh23 rfl (by first | exact H.own0 | exact H.own1 | exact H.own2 | exact H.own3 | exact H.own4 | exact H.own5 | exact H.ownA | assumption) rfl ?_)
        refine ops_on rfl (op_fieldAddr of27_1 rfl ?_)
        refine ops_on rfl (op_load1 sh24 rfl (by first | exact H.own0 | exact H.own1 | exact H.own2 | exact H.own3 | exact H.own4 | exact H.own5 | exact H.ownA | assumption) rfl ?_)
        refine ops_on rfl (op_fieldAddr of27_3 rfl ?_)
        refine ops_on rfl (op_load1 sh25 rfl (by first | exact H.own0 | exact H.own1 | exact H.own2 | exact H.own3 | exact H.own4 | exact H.own5 | exact H.ownA | assumption) rfl ?_)
        refine ops_on rfl (op_call rfl fc12 rfl ?_)
        obtain ⟨_, s9, hr, hly⟩ := hL _ w 0 (.slice sja js.length sjc) (.slice sma may.length smc) js may H.fine (hjG.sl H (by intro p hp; (try simp only [List.mem_cons, List.mem_append, List.not_mem_nil, or_false] at hp ⊢); first | exact hp | simp only [hp, true_or, or_true])) (hmG.sl H (by intro p hp; (try simp only [List.mem_cons, List.mem_append, List.not_mem_nil, or_false] at hp ⊢); first | exact hp | simp only [hp, true_or, or_true])) hjB (by omega) hmay2 (by omega) (by omega) (by omega) (by omega) (by have := hbad.2; have := hbad.1; omega) (by have := H.most; omega)
        refine ⟨_, _, hr, ?_⟩
        clear hr
        rw [bb_nobad hmay2 (by omega)] at hly
        rcases hly with ⟨hy1, _⟩ | ⟨hy1, Dy, sy, py1, py2, rfl, Hc, hyG⟩
        · simp at hy1
        have hytk : tk js 0 may (w.toNat + 1) w = [] := by rw [tk, bb_nobad hmay2 (by omega)]; rfl
        rw [hytk] at hyG
        have hyn := hyG.slc
        have H := H.callE Hc
        clear Hc
        try simp only [List.cons_append, List.nil_append, List.append_assoc] at H
        first | refine ops_on rfl (op_moveT rfl ?_) | refine ops_on rfl (op_move ?_)
        refine ops_on rfl (op_extract rfl rfl ?_)
        refine ops_on rfl (op_extract rfl rfl ?_)
        refine ops_on rfl (op_extract rfl rfl ?_)
        refine ops_on rfl (op_extract rfl rfl ?_)
        refine ops_on rfl (op_alloc H zf36 (by omega) (fun b20 s11 H => ?_))
        first | refine ops_on rfl (op_assignS rfl ?_) | refine ops_on rfl (op_assign ?_)
        first | refine ops_on rfl (op_assignI rfl ?_) | refine ops_on rfl (op_assign ?_)
        first | refine ops_on rfl (op_store0 (vs := [.slice _ _ _, .slice _ _ _]) H sz36 rfl rfl rfl rfl rfl (by omega) (fun s12 H => ?_)) | refine ops_on rfl (op_store1 (vs := [.slice _ _ _, .slice _ _ _]) H sz36 rfl rfl rfl rfl rfl (by omega) (fun s12 H => ?_)) | refine ops_on rfl (op_store2 (vs := [.slice _ _ _, .slice _ _ _]) H sz36 rfl rfl rfl rfl rfl (by omega) (fun s12 H => ?_)) | refine ops_on rfl (op_store3 (vs := [.slice _ _ _, .slice _ _ _]) H sz36 rfl rfl rfl rfl rfl (by omega) (fun s12 H => ?_)) | refine ops_on rfl (op_store4 (vs := [.slice _ _ _, .slice _ _ _]) H sz36 rfl rfl rfl rfl rfl (by omega) (fun s12 H => ?_)) | refine ops_on rfl (op_store0 H sz36 rfl rfl rfl rfl rfl (by omega) (fun s12 H => ?_)) | refine ops_on rfl (op_store1 H sz36 rfl rfl rfl rfl rfl (by omega) (fun s12 H => ?_)) | refine ops_on rfl (op_store2 H sz36 rfl rfl rfl rfl rfl (by omega) (fun s12 H => ?_)) | refine ops_on rfl (op_store3 H sz36 rfl rfl rfl rfl rfl (by omega) (fun s12 H => ?_)) | refine ops_on rfl (op_store4 H sz36 rfl rfl rfl rfl rfl (by omega) (fun s12 H => ?_))
        first | refine ops_on rfl (op_assignI rfl ?_) | refine ops_on rfl (op_assign ?_)
        refine ops_nil ?_
        refine cw_rseq ?_
        refine ops_on rfl (op_fieldAddr of27_2 rfl ?_)
        refine ops_on rfl (op_load1 sh23 rfl (by first | exact H.own0 | exact H.own1 | exact H.own2 | exact H.own3 | exact H.own4 | exact H.own5 | exact H.ownA | assumption) rfl ?_)
        refine ops_on rfl (op_neq rfl rfl (fun h => ?_) (fun h => ?_))
        · first | refine ops_on rfl (op_moveB rfl ?_) | refine ops_on rfl (op_move ?_)
          refine ops_off rfl ?_
          refine ops_off rfl ?_
          refine ops_on rfl (op_pick1C rfl ?_)
          first | refine ops_on rfl (op_moveB rfl ?_) | refine ops_on rfl (op_move ?_)
          first | refine ops_on rfl (op_moveI rfl ?_) | refine ops_on rfl (op_move ?_)
          refine ops_on rfl (op_eql rfl rfl (fun h => ?_) (fun h => False.elim (by exact h rfl)))
          first | refine ops_on rfl (op_pick1B rfl rfl ?_) | refine ops_on rfl (op_pick1 rfl ?_)
          first | refine ops_on rfl (op_moveB rfl ?_) | refine ops_on rfl (op_move ?_)
          first | refine ops_on rfl (op_moveI rfl ?_) | refine ops_on rfl (op_move ?_)
          refine ops_on rfl (op_eql rfl rfl (fun h => ?_) (fun h => False.elim (by exact h rfl)))
          first | refine ops_on rfl (op_pick1B rfl rfl ?_) | refine ops_on rfl (op_pick1 rfl ?_)
          first | refine ops_on rfl (op_moveB rfl ?_) | refine ops_on rfl (op_move ?_)
          first | refine ops_on rfl (op_moveS rfl ?_) | refine ops_on rfl (op_move ?_)
          refine ops_on rfl (op_len un25 rfl rfl rfl ?_)
          refine ops_on rfl (op_eql rfl rfl (fun h => ?_) (fun h => False.elim (by simp at hyn; omega)))
          first | refine ops_on rfl (op_pick1B rfl rfl ?_) | refine ops_on rfl (op_pick1 rfl ?_)
          first | refine ops_on rfl (op_moveB rfl ?_) | refine ops_on rfl (op_move ?_)
          refine ops_on rfl (op_call rfl fc17 rfl ?_)
          obtain ⟨_, s9, hr, rfl, Hc⟩ := hV _ H.fine (by have := H.most; omega)
          refine ⟨_, _, hr, ?_⟩
          clear hr
          have H := H.call0 Hc
          clear Hc
          first | refine ops_on rfl (op_pick1B rfl rfl ?_) | refine ops_on rfl (op_pick1 rfl ?_)
          first | refine ops_on rfl (op_assignB rfl ?_) | refine ops_on rfl (op_assign ?_)
          refine ops_nil ?_
          refine cw_ret ?_
          refine ret_end ?_
          refine end_t ?_
          exact ⟨rfl, (H.sub (List.nil_sublist _)).up (by omega)⟩
        · first | refine ops_on rfl (op_moveB rfl ?_) | refine ops_on rfl (op_move ?_)
          first | refine ops_on rfl (op_moveI rfl ?_) | refine ops_on rfl (op_move ?_)
          refine ops_on rfl (op_eql rfl rfl (fun h => ?_) (fun h => False.elim (by exact h (by rw [show bad = 0 by omega, bb_nobad hmay2 (by omega)]))))
          first | refine ops_on rfl (op_pick0B rfl rfl ?_) | refine ops_on rfl (op_pick0 rfl ?_)
          first | refine ops_on rfl (op_moveB rfl ?_) | refine ops_on rfl (op_move ?_)
          first | refine ops_on rfl (op_moveI rfl ?_) | refine ops_on rfl (op_move ?_)
          refine ops_on rfl (op_eql rfl rfl (fun h => ?_) (fun h => False.elim (by exact h rfl)))
          first | refine ops_on rfl (op_pick1B rfl rfl ?_) | refine ops_on rfl (op_pick1 rfl ?_)
          first | refine ops_on rfl (op_moveB rfl ?_) | refine ops_on rfl (op_move ?_)
          first | refine ops_on rfl (op_moveI rfl ?_) | refine ops_on rfl (op_move ?_)
          refine ops_on rfl (op_eql rfl rfl (fun h => ?_) (fun h => False.elim (by exact h rfl)))
          first | refine ops_on rfl (op_pick1B rfl rfl ?_) | refine ops_on rfl (op_pick1 rfl ?_)
          first | refine ops_on rfl (op_moveB rfl ?_) | refine ops_on rfl (op_move ?_)
          first | refine ops_on rfl (op_moveS rfl ?_) | refine ops_on rfl (op_move ?_)
          refine ops_on rfl (op_len un25 rfl rfl rfl ?_)
          refine ops_on rfl (op_eql rfl rfl (fun h => ?_) (fun h => False.elim (by simp at hyn; omega)))
          first | refine ops_on rfl (op_pick1B rfl rfl ?_) | refine ops_on rfl (op_pick1 rfl ?_)
          first | refine ops_on rfl (op_moveB rfl ?_) | refine ops_on rfl (op_move ?_)
          refine ops_on rfl (op_call rfl fc17 rfl ?_)
          obtain ⟨_, s9, hr, rfl, Hc⟩ := hV _ H.fine (by have := H.most; omega)
          refine ⟨_, _, hr, ?_⟩
          clear hr
          have H := H.call0 Hc
          clear Hc
          first | refine ops_on rfl (op_pick1B rfl rfl ?_) | refine ops_on rfl (op_pick1 rfl ?_)
          first | refine ops_on rfl (op_assignB rfl ?_) | refine ops_on rfl (op_assign ?_)
          refine ops_nil ?_
          refine cw_ret ?_
          refine ret_end ?_
          refine end_t ?_
          exact ⟨rfl, (H.sub (List.nil_sublist _)).up (by omega)⟩
    · exact ⟨_, 0, slots ⟨rfl, rfl, rfl, rfl, trivial⟩, H, by omega, by omega⟩

end Go.Proofs.YtdejleegamcioaaGreat
namespace Go.Proofs.YtdejleegamcioaaGreat
open Go Go.M
section
def cntLe (S : Int) (l : List Sp) : Nat := (l.filter fun m => decide (m.w ≤ S)).length
def cntEq (S : Int) (l : List Sp) : Nat := (l.filter fun m => decide (m.w = S)).length
theorem cnt_step (S : Int) : ∀ l : List Sp, cntLe S l = cntLe (S - 1) l + cntEq S l
  | [] => rfl
  | m :: l => by
    have ih := cnt_step S l
    simp only [cntLe, cntEq, List.filter_cons] at ih ⊢
    by_cases h1 : m.w = S
    · rw [if_pos (by simp; omega), if_neg (by simp; omega), if_pos (by simp; omega)]
      simp only [List.length_cons]; omega
    · by_cases h2 : m.w ≤ S
      · rw [if_pos (by simp; omega), if_pos (by simp; omega), if_neg (by simp; omega)]
        simp only [List.length_cons]; omega
      · rw [if_neg (by simp; omega), if_neg (by simp; omega), if_neg (by simp; omega)]
        omega
theorem cntLe_mono {S T : Int} (h : S ≤ T) : ∀ l : List Sp, cntLe S l ≤ cntLe T l
  | [] => Nat.le_refl _
  | m :: l => by
    have ih := cntLe_mono h l
    simp only [cntLe, List.filter_cons] at ih ⊢
    by_cases h1 : m.w ≤ S
    · rw [if_pos (by simp; omega), if_pos (by simp; omega)]
      simp only [List.length_cons]; omega
    · rw [if_neg (by simp; omega)]
      split
      · simp only [List.length_cons]; omega
      · omega
theorem three_pow (a : Nat) : 1 + 2 * a ≤ 3 ^ a := by
  induction a with
  | zero => simp
  | succ a ih => rw [Nat.pow_succ]; omega
theorem tbs_bound {t : Int → Nat} {S : Int} {B : Nat} : ∀ (l : List Sp), (∀ m ∈ l, m.w = S → t m.p ≤ B ∧ t (andNotI S m.p) ≤ B) → tbs t S l ≤ cntEq S l * (2 * B)
  | [], _ => by simp [tbs]
  | m :: l, h => by
    have ih := tbs_bound l fun x hx => h x (by simp [hx])
    simp only [tbs, cntEq, List.filter_cons] at ih ⊢
    by_cases h1 : m.w = S
    · obtain ⟨q1, q2⟩ := h m (by simp) h1
      rw [if_pos h1, if_pos (by simp; omega), List.length_cons, Nat.add_mul]
      omega
    · rw [if_neg h1, if_neg (by simp; omega)]
      omega
theorem tb_bound {may : List Sp} (hm : MayOK may) : ∀ (f : Nat) (S : Int), tb may f S ≤ (60 + may.length) * 3 ^ cntLe S may
  | 0, S => by simp [tb]
  | f + 1, S => by
    rw [tb, cnt_step]
    have h1 := tbs_bound (t := tb may f) (S := S) (B := (60 + may.length) * 3 ^ cntLe (S - 1) may) may fun m hmm hw => by
      obtain ⟨hs, hp⟩ := hm m hmm
      obtain ⟨q1, q2, q3, q4, q5, q6⟩ := split_facts hs hp
      rw [hw] at q2 q4
      refine ⟨Nat.le_trans (tb_bound hm f m.p) ?_, Nat.le_trans (tb_bound hm f (andNotI S m.p)) ?_⟩
      · exact Nat.mul_le_mul_left _ (Nat.pow_le_pow_right (by decide) (cntLe_mono (by omega) may))
      · exact Nat.mul_le_mul_left _ (Nat.pow_le_pow_right (by decide) (cntLe_mono (by omega) may))
    have h2 := three_pow (cntEq S may)
    have h3 : 1 ≤ 3 ^ cntLe (S - 1) may := Nat.one_le_pow _ _ (by decide)
    rw [Nat.pow_add, ← Nat.mul_assoc]
    generalize 60 + may.length = C at *
    generalize 3 ^ cntLe (S - 1) may = X at *
    generalize 3 ^ cntEq S may = Y at *
    generalize cntEq S may = a at *
    calc C + tbs (tb may f) S may ≤ C + a * (2 * (C * X)) := by omega
      _ ≤ C * X + a * (2 * (C * X)) := by
        have : C * 1 ≤ C * X := Nat.mul_le_mul_left _ h3
        omega
      _ = (C * X) * (1 + 2 * a) := by
        rw [Nat.mul_add, Nat.mul_one, ← Nat.mul_assoc, Nat.mul_comm a 2, Nat.mul_comm (C * X) (2 * a)]
      _ ≤ (C * X) * Y := Nat.mul_le_mul_left _ h2
theorem tb_small {may : List Sp} (hm : MayOK may) (hl : may.length ≤ 15) (f : Nat) (S : Int) : tb may f S ≤ 1100000000 := by
  refine Nat.le_trans (tb_bound hm f S) ?_
  have h1 : cntLe S may ≤ 15 := Nat.le_trans (List.length_filter_le _ _) hl
  have h2 : 3 ^ cntLe S may ≤ 3 ^ 15 := Nat.pow_le_pow_right (by decide) h1
  calc (60 + may.length) * 3 ^ cntLe S may ≤ 75 * 3 ^ 15 := Nat.mul_le_mul (by omega) h2
    _ ≤ 1100000000 := by decide
end
section
variable {P : Program} {I : Table} {F : FF} {s : St} {Q : FF → St → Prop} {d : Option Tmp} {ty : TypeId} {pos : String} {af : Array Edge} {g : Option (Nat × Bool)} {W : List Nat} {s0 : St} {L : Hp'} {n : Nat}
theorem op_makeMap {t : TypeId} (H : HL W s0 s L n) (hr : s0.next + n < limit) (k : ∀ b s', HL W s0 s' ((b, mapO []) :: L) (n + 1) → Q (upd F d (.map (some b))) s') : OpW P I ⟨d, .makeMap t none, ty, pos, af, g⟩ F s Q := by
  refine op_val (v := .map (some s.next)) (s' := s.new (.map #[] 0)) ?_ (k _ _ (H.new _ hr))
  have hroom := H.room hr
  simp only [stepM, mapM, hroom]
  rfl
end
end Go.Proofs.YtdejleegamcioaaGreat
