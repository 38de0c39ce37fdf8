/- Digits: the reference of integers, as far as numbers of 64 bits reach. -/
/- The reference of integers: a number of 64 bits as digits. -/
/- The reference of integers: products with one, differences of equal numbers. -/
import Derived.Test.YtdejleegamcioaaGreatM14
namespace Go.Proofs.YtdejleegamcioaaGreat
open Go Go.M

theorem fb211 : funcB Tryz.f211 (Tryz.f211.body.getD .skip) 2 = true := by kernel_rfl
theorem bf56 : buildF Tryz.prog 56 = some ([.bool false, .slice none 0 0], [(0, 1), (1, 1)]) := by kernel_rfl
theorem fb167 : funcB Tryz.f167 (Tryz.f167.body.getD .skip) 2 = true := by kernel_rfl
theorem sh56 : shapeOf Tryz.prog 56 = some (some 2) := by kernel_rfl
theorem sl22 : sliceF Tryz.prog 22 = some (3, 1, 8, [.int .i64 0]) := by kernel_rfl
theorem sz56 : sizeF Tryz.prog 56 = some 2 := by kernel_rfl
theorem zf56 : zeroF Tryz.prog 56 = some [.bool false, .slice none 0 0] := by kernel_rfl
theorem fb169 : funcB Tryz.f169 (Tryz.f169.body.getD .skip) 2 = true := by kernel_rfl

def dc (x : Int) : List Value := [.int .i64 x]
abbrev SlD (s : St) (v : Value) (l : List Int) : Prop := Sl s 3 1 v (l.map dc)
theorem Sl.atD {s : St} {e : TypeId} {a : Option Addr} {len cap : Nat} {l : List Int} (h : Sl s e 1 (.slice a len cap) (l.map dc)) {i : Int} {k : Nat} (hi : i = (k : Int)) (hk : k < l.length) : ∃ b off c, a = some ⟨b, off, none⟩ ∧ s.get b = some (.cells c e) ∧ b < s.next ∧ lget c (off + i.toNat * 1) = some (.int .i64 (l.getD k 0)) := by
  obtain ⟨b, off, c, h1, h2, h3, h4⟩ := h.at hi (k := k) (by simpa using hk)
  refine ⟨b, off, c, h1, h2, h3, ?_⟩
  rw [getD_map (y := (0 : Int)) hk, ltake_eq, ldrop_eq] at h4
  split at h4
  · next hle =>
    rw [Option.some.injEq] at h4
    rw [List.length_drop] at hle
    have : ((c.drop (off + i.toNat * 1)).take 1)[0]? = (dc (l.getD k 0))[0]? := by rw [h4]
    rw [List.getElem?_take, if_pos (by omega), List.getElem?_drop] at this
    rw [lget_eq]
    simpa [dc] using this
  · cases h4
theorem Sl.take {s : St} {e : TypeId} {sz : Nat} {a : Option Addr} {len cap : Nat} {es : List (List Value)} (h : Sl s e sz (.slice a len cap) es) {m : Nat} (hm : m ≤ es.length) : Sl s e sz (.slice a m cap) (es.take m) := by
  cases h with
  | nil c hv hl =>
    subst hl
    cases hv
    simp only [List.length_nil, Nat.le_zero] at hm
    subst hm
    exact .nil _ rfl (by simp)
  | block b off cap c hv hg hb hcap hc =>
    cases hv
    have hlen : (es.take m).length = m := by simp; omega
    refine .block b off cap c (by rw [hlen]) hg hb (by omega) fun k hk => ?_
    rw [hlen] at hk
    rw [hc k (by omega)]
    simp [List.getD_eq_getElem?_getD, List.getElem?_take, hk]
theorem Sl.prot {s : St} {e : TypeId} {sz : Nat} {v : Value} {es : List (List Value)} (h : Sl s e sz v es) {X : List Nat} : Sl { s with prot := X ++ s.prot } e sz v es := by
  cases h with
  | nil c hv hl => exact .nil c hv hl
  | block b off cap c hv hg hb hcap hc => exact .block b off cap c hv hg hb hcap hc
/-- How many digits are left without the zeros at the end. -/
def nlen (l : List Int) : Nat → Nat
  | 0 => 0
  | n + 1 => if l.getD n 0 = 0 then nlen l n else n + 1
theorem nlen_le (l : List Int) : ∀ n, nlen l n ≤ n
  | 0 => Nat.le_refl _
  | n + 1 => by simp only [nlen]; split; { have := nlen_le l n; omega }; { omega }
def nv (a : Option Addr) (n cap : Nat) : Value := if n = 0 then .slice none 0 0 else .slice a n cap

set_option maxHeartbeats 4000000 in
set_option maxRecDepth 10000 in
theorem digit_ok {I : Table} (hI : Plain I) {s : St} {v : Value} {l : List Int} {i : Int} (hl : SlD s v l) (hi : 0 ≤ i) : ∃ v' s', Rets Tryz.prog I 211 #[v, .int .i64 i] s v' s' ∧ (v' = .int .i64 (l.getD i.toNat 0) ∧ s' = s) := by
  obtain ⟨a, len, cap, rfl, hn⟩ := hl.isSlice
  rw [List.length_map] at hn
  subst hn
  refine call_of 2 (hI 211 (by decide) (by decide)) Tryz.func211 rfl fb211 rfl ?_
  refine cw_rseq ?_
  refine ops_on rfl (op_assignC ?_)
  refine ops_nil ?_
  refine cw_seq ?_
  refine cw_rseq ?_
  first | refine ops_on rfl (op_moveI rfl ?_) | refine ops_on rfl (op_move ?_)
  first | refine ops_on rfl (op_moveS rfl ?_) | refine ops_on rfl (op_move ?_)
  refine ops_on rfl (op_len un22 rfl rfl rfl ?_)
  refine ops_on rfl (op_lss rfl rfl (fun h => ?_) (fun h => ?_))
  · refine ops_nil ?_
    refine cw_then rfl ?_
    refine cw_rseq ?_
    first | refine ops_on rfl (op_moveS rfl ?_) | refine ops_on rfl (op_move ?_)
    first | refine ops_on rfl (op_moveI rfl ?_) | refine ops_on rfl (op_move ?_)
    obtain ⟨b, off, c, rfl, hg, hb, hc⟩ := hl.atD (i := i) (k := i.toNat) (by omega) (by omega)
    refine ops_on rfl (op_indexS el22 rfl rfl (by omega) (by omega) ?_)
    refine ops_on rfl (op_load1 sh3 rfl hg hc ?_)
    first | refine ops_on rfl (op_assignI rfl ?_) | refine ops_on rfl (op_assign ?_)
    refine ops_nil ?_
    refine cw_ret ?_
    refine seq_ret ?_
    refine ret_end ?_
    refine end_t ?_
    exact ⟨rfl, rfl⟩
  · refine ops_nil ?_
    refine cw_else rfl ?_
    refine cw_skip ?_
    refine seq_norm ?_
    refine cw_rseq ?_
    refine ops_on rfl (op_assignC ?_)
    refine ops_nil ?_
    refine cw_ret ?_
    refine ret_end ?_
    refine end_t ?_
    refine ⟨congrArg (Value.int .i64) ?_, rfl⟩
    rw [List.getD_eq_getElem?_getD, List.getElem?_eq_none (by omega)]
    rfl

set_option maxHeartbeats 4000000 in
set_option maxRecDepth 10000 in
theorem normal_ok {I : Table} (hI : Plain I) {s : St} (hf : Fine s) {a : Option Addr} {cap : Nat} {neg : Bool} {l : List Int} (hl : SlD s (.slice a l.length cap) l) (hlen : l.length ≤ 1000) (hroom : s.next + 1 ≤ limit) :
    ∃ v' s', Rets Tryz.prog I 167 #[.bool neg, .slice a l.length cap] s v' s' ∧ (v' = .agg ⟨[.bool (if nlen l l.length = 0 then false else neg), nv a (nlen l l.length) cap]⟩ ∧ HL [] s s' [] 1) := by
  have H := hf.hl
  have hcap := hl.cap
  have hle := nlen_le l l.length
  refine call_of 2 (hI 167 (by decide) (by decide)) Tryz.func167 rfl fb167 rfl ?_
  refine cw_rseq ?_
  refine ops_on rfl (op_alloc H zf56 (by (unfold limit at *; omega)) (fun b4 s1 H => ?_))
  refine ops_nil ?_
  refine cw_rseq ?_
  first | refine ops_on rfl (op_moveS rfl ?_) | refine ops_on rfl (op_move ?_)
  refine ops_on rfl (op_len un22 rfl rfl rfl ?_)
  first | refine ops_on rfl (op_assignI rfl ?_) | refine ops_on rfl (op_assign ?_)
  refine ops_nil ?_
  refine cw_seq ?_
  refine cw_block ?_
  refine cw_loop (fun k F s1 => ∃ (G : FF) (m : Nat), F = lay G [(0, .bool neg), (1, .slice a l.length cap), (4, .pointer (some ⟨b4, 0, none⟩)), (5, .int .i64 (m : Int))] ∧ HL [] s s1 [(b4, .cells [.bool false, .slice none 0 0] 56)] 1 ∧ m ≤ l.length ∧ k = m ∧ nlen l l.length = nlen l m) ?_ l.length _ _ ?_
  · rintro k F s1 ⟨G, m, rfl, H, hm, rfl, hn⟩
    refine cw_seq ?_
    refine cw_rseq ?_
    first | refine ops_on rfl (op_moveI rfl ?_) | refine ops_on rfl (op_move ?_)
    refine ops_on rfl (op_gtr rfl rfl (fun h => ?_) (fun h => ?_))
    · first | refine ops_on rfl (op_moveB rfl ?_) | refine ops_on rfl (op_move ?_)
      first | refine ops_on rfl (op_moveS rfl ?_) | refine ops_on rfl (op_move ?_)
      first | refine ops_on rfl (op_moveI rfl ?_) | refine ops_on rfl (op_move ?_)
      refine ops_on rfl (op_sub rfl rfl (by unfold In64; (unfold limit at *; omega)) ?_)
      refine ops_on rfl (op_max rfl rfl rfl ?_)
      obtain ⟨b, off, c, rfl, hg, hb, hc⟩ := (hl.kept H).atD (i := max ((k : Int) - 1) 0) (k := k - 1) (by omega) (by omega)
      refine ops_on rfl (op_indexS el22 rfl rfl (by (unfold limit at *; omega)) (by (unfold limit at *; omega)) ?_)
      refine ops_on rfl (op_load1 sh3 rfl hg hc ?_)
      refine ops_on rfl (op_eql rfl rfl (fun h => ?_) (fun h => ?_))
      · first | refine ops_on rfl (op_pick1B rfl rfl ?_) | refine ops_on rfl (op_pick1 rfl ?_)
        refine ops_nil ?_
        refine cw_then rfl ?_
        refine cw_skip ?_
        refine seq_norm ?_
        refine cw_block ?_
        refine cw_region ?_
        first | refine ops_on rfl (op_moveI rfl ?_) | refine ops_on rfl (op_move ?_)
        refine ops_on rfl (op_sub rfl rfl (by unfold In64; (unfold limit at *; omega)) ?_)
        first | refine ops_on rfl (op_assignI rfl ?_) | refine ops_on rfl (op_assign ?_)
        refine ops_nil ?_
        refine blk_norm ?_
        refine loop_norm ?_
        obtain ⟨m, rfl⟩ : ∃ j, k = j + 1 := ⟨k - 1, by omega⟩
        simp only [Nat.add_sub_cancel] at h
        refine ⟨m, by omega, _, m, slots ⟨rfl, rfl, rfl, by show Value.int .i64 (((m + 1 : Nat) : Int) - 1) = _; congr 1; omega, trivial⟩, H, by omega, rfl, ?_⟩
        rw [hn, nlen, if_pos h]
      · first | refine ops_on rfl (op_pick1B rfl rfl ?_) | refine ops_on rfl (op_pick1 rfl ?_)
        refine ops_nil ?_
        refine cw_else rfl ?_
        refine cw_exit ?_
        refine seq_exit ?_
        refine loop_exit ?_
        refine blk_here ?_
        refine seq_norm ?_
        refine cw_seq ?_
        refine cw_rseq ?_
        first | refine ops_on rfl (op_moveI rfl ?_) | refine ops_on rfl (op_move ?_)
        refine ops_on rfl (op_eql rfl rfl (fun h => ?_) (fun h => ?_))
        · refine ops_nil ?_
          refine cw_then rfl ?_
          exfalso
          omega
        · refine ops_nil ?_
          refine cw_else rfl ?_
          refine cw_skip ?_
          refine seq_norm ?_
          refine cw_rseq ?_
          first | refine ops_on rfl (op_moveB rfl ?_) | refine ops_on rfl (op_move ?_)
          first | refine ops_on rfl (op_moveS rfl ?_) | refine ops_on rfl (op_move ?_)
          first | refine ops_on rfl (op_moveI rfl ?_) | refine ops_on rfl (op_move ?_)
          refine ops_on rfl (op_sliceHi sl22 rfl rfl rfl hg (by omega) ?_)
          first | refine ops_on rfl (op_build (c := [.bool _, .slice _ _ _]) bf56 rfl ?_) | refine ops_on rfl (op_build bf56 rfl ?_)
          first | refine ops_on rfl (op_store0 (vs := [.bool _, .slice _ _ _]) H sz56 rfl rfl rfl rfl rfl (by (unfold limit at *; omega)) (fun s2 H => ?_)) | refine ops_on rfl (op_store1 (vs := [.bool _, .slice _ _ _]) H sz56 rfl rfl rfl rfl rfl (by (unfold limit at *; omega)) (fun s2 H => ?_)) | refine ops_on rfl (op_store2 (vs := [.bool _, .slice _ _ _]) H sz56 rfl rfl rfl rfl rfl (by (unfold limit at *; omega)) (fun s2 H => ?_)) | refine ops_on rfl (op_store3 (vs := [.bool _, .slice _ _ _]) H sz56 rfl rfl rfl rfl rfl (by (unfold limit at *; omega)) (fun s2 H => ?_)) | refine ops_on rfl (op_store4 (vs := [.bool _, .slice _ _ _]) H sz56 rfl rfl rfl rfl rfl (by (unfold limit at *; omega)) (fun s2 H => ?_)) | refine ops_on rfl (op_store0 H sz56 rfl rfl rfl rfl rfl (by (unfold limit at *; omega)) (fun s2 H => ?_)) | refine ops_on rfl (op_store1 H sz56 rfl rfl rfl rfl rfl (by (unfold limit at *; omega)) (fun s2 H => ?_)) | refine ops_on rfl (op_store2 H sz56 rfl rfl rfl rfl rfl (by (unfold limit at *; omega)) (fun s2 H => ?_)) | refine ops_on rfl (op_store3 H sz56 rfl rfl rfl rfl rfl (by (unfold limit at *; omega)) (fun s2 H => ?_)) | refine ops_on rfl (op_store4 H sz56 rfl rfl rfl rfl rfl (by (unfold limit at *; omega)) (fun s2 H => ?_))
          refine ops_nil ?_
          refine cw_ret ?_
          refine ret_end ?_
          refine end_cell sh56 rfl (by first | exact H.own0 | exact H.own1 | exact H.own2 | exact H.own3 | exact H.own4 | exact H.own5 | exact H.ownA | assumption) rfl ?_
          refine ⟨?_, H.drop0⟩
          have hk : nlen l k = k := by
            obtain ⟨m, rfl⟩ : ∃ j, k = j + 1 := ⟨k - 1, by omega⟩
            rw [nlen, if_neg (by assumption)]
          rw [hn, hk, if_neg (by omega), nv, if_neg (by omega)]
    · first | refine ops_on rfl (op_moveB rfl ?_) | refine ops_on rfl (op_move ?_)
      refine ops_off rfl ?_
      refine ops_off rfl ?_
      refine ops_off rfl ?_
      refine ops_off rfl ?_
      refine ops_off rfl ?_
      refine ops_off rfl ?_
      refine ops_off rfl ?_
      refine ops_on rfl (op_pick0C rfl ?_)
      refine ops_nil ?_
      refine cw_else rfl ?_
      refine cw_exit ?_
      refine seq_exit ?_
      refine loop_exit ?_
      refine blk_here ?_
      refine seq_norm ?_
      refine cw_seq ?_
      refine cw_rseq ?_
      first | refine ops_on rfl (op_moveI rfl ?_) | refine ops_on rfl (op_move ?_)
      refine ops_on rfl (op_eql rfl rfl (fun h => ?_) (fun h => ?_))
      · refine ops_nil ?_
        refine cw_then rfl ?_
        refine cw_rseq ?_
        first | refine ops_on rfl (op_build (c := [.bool _, .slice _ _ _]) bf56 rfl ?_) | refine ops_on rfl (op_build bf56 rfl ?_)
        first | refine ops_on rfl (op_store0 (vs := [.bool _, .slice _ _ _]) H sz56 rfl rfl rfl rfl rfl (by (unfold limit at *; omega)) (fun s3 H => ?_)) | refine ops_on rfl (op_store1 (vs := [.bool _, .slice _ _ _]) H sz56 rfl rfl rfl rfl rfl (by (unfold limit at *; omega)) (fun s3 H => ?_)) | refine ops_on rfl (op_store2 (vs := [.bool _, .slice _ _ _]) H sz56 rfl rfl rfl rfl rfl (by (unfold limit at *; omega)) (fun s3 H => ?_)) | refine ops_on rfl (op_store3 (vs := [.bool _, .slice _ _ _]) H sz56 rfl rfl rfl rfl rfl (by (unfold limit at *; omega)) (fun s3 H => ?_)) | refine ops_on rfl (op_store4 (vs := [.bool _, .slice _ _ _]) H sz56 rfl rfl rfl rfl rfl (by (unfold limit at *; omega)) (fun s3 H => ?_)) | refine ops_on rfl (op_store0 H sz56 rfl rfl rfl rfl rfl (by (unfold limit at *; omega)) (fun s3 H => ?_)) | refine ops_on rfl (op_store1 H sz56 rfl rfl rfl rfl rfl (by (unfold limit at *; omega)) (fun s3 H => ?_)) | refine ops_on rfl (op_store2 H sz56 rfl rfl rfl rfl rfl (by (unfold limit at *; omega)) (fun s3 H => ?_)) | refine ops_on rfl (op_store3 H sz56 rfl rfl rfl rfl rfl (by (unfold limit at *; omega)) (fun s3 H => ?_)) | refine ops_on rfl (op_store4 H sz56 rfl rfl rfl rfl rfl (by (unfold limit at *; omega)) (fun s3 H => ?_))
        refine ops_nil ?_
        refine cw_ret ?_
        refine seq_ret ?_
        refine ret_end ?_
        refine end_cell sh56 rfl (by first | exact H.own0 | exact H.own1 | exact H.own2 | exact H.own3 | exact H.own4 | exact H.own5 | exact H.ownA | assumption) rfl ?_
        refine ⟨?_, H.drop0⟩
        have hz : k = 0 := by omega
        rw [hn, hz]
        rfl
      · refine ops_nil ?_
        refine cw_else rfl ?_
        refine cw_skip ?_
        refine seq_norm ?_
        exfalso
        omega
  · exact ⟨_, l.length, slots ⟨rfl, rfl, rfl, rfl, trivial⟩, H, by omega, rfl, rfl⟩

def cmpD (la lb : List Int) : Nat → Int
  | 0 => 0
  | n + 1 => if la.getD n 0 < lb.getD n 0 then -1 else if lb.getD n 0 < la.getD n 0 then 1 else cmpD la lb n
/-- sherdref03.compared -/
def cmpZ (la lb : List Int) : Int := if la.length < lb.length then -1 else if lb.length < la.length then 1 else cmpD la lb la.length

set_option maxHeartbeats 4000000 in
set_option maxRecDepth 10000 in
theorem compared_ok {I : Table} (hI : Plain I) {s : St} {va vb : Value} {la lb : List Int} (ha : SlD s va la) (hb : SlD s vb lb) (hlen : la.length ≤ 1000) (hroom : s.next ≤ limit) : ∃ v' s', Rets Tryz.prog I 169 #[va, vb] s v' s' ∧ (v' = .int .i64 (cmpZ la lb) ∧ s' = s) := by
  obtain ⟨a, len, cap, rfl, hn⟩ := ha.isSlice
  rw [List.length_map] at hn
  subst hn
  obtain ⟨a2, len2, cap2, rfl, hn2⟩ := hb.isSlice
  rw [List.length_map] at hn2
  subst hn2
  refine call_of 2 (hI 169 (by decide) (by decide)) Tryz.func169 rfl fb169 rfl ?_
  refine cw_rseq ?_
  refine ops_on rfl (op_assignC ?_)
  refine ops_nil ?_
  refine cw_seq ?_
  refine cw_rseq ?_
  first | refine ops_on rfl (op_moveS rfl ?_) | refine ops_on rfl (op_move ?_)
  refine ops_on rfl (op_len un22 rfl rfl rfl ?_)
  first | refine ops_on rfl (op_moveS rfl ?_) | refine ops_on rfl (op_move ?_)
  refine ops_on rfl (op_len un22 rfl rfl rfl ?_)
  refine ops_on rfl (op_lss rfl rfl (fun h => ?_) (fun h => ?_))
  · refine ops_nil ?_
    refine cw_then rfl ?_
    refine cw_rseq ?_
    refine ops_on rfl (op_assignC ?_)
    refine ops_nil ?_
    refine cw_ret ?_
    refine seq_ret ?_
    refine ret_end ?_
    refine end_t ?_
    refine ⟨congrArg (Value.int .i64) ?_, rfl⟩
    unfold cmpZ
    rw [if_pos (by omega)]
  · refine ops_nil ?_
    refine cw_else rfl ?_
    refine cw_skip ?_
    refine seq_norm ?_
    refine cw_seq ?_
    refine cw_rseq ?_
    first | refine ops_on rfl (op_moveS rfl ?_) | refine ops_on rfl (op_move ?_)
    refine ops_on rfl (op_len un22 rfl rfl rfl ?_)
    first | refine ops_on rfl (op_moveS rfl ?_) | refine ops_on rfl (op_move ?_)
    refine ops_on rfl (op_len un22 rfl rfl rfl ?_)
    refine ops_on rfl (op_gtr rfl rfl (fun h => ?_) (fun h => ?_))
    · refine ops_nil ?_
      refine cw_then rfl ?_
      refine cw_rseq ?_
      refine ops_on rfl (op_assignC ?_)
      refine ops_nil ?_
      refine cw_ret ?_
      refine seq_ret ?_
      refine ret_end ?_
      refine end_t ?_
      refine ⟨congrArg (Value.int .i64) ?_, rfl⟩
      unfold cmpZ
      rw [if_neg (by omega), if_pos (by omega)]
    · refine ops_nil ?_
      refine cw_else rfl ?_
      refine cw_skip ?_
      refine seq_norm ?_
      refine cw_seq ?_
      refine cw_rseq ?_
      first | refine ops_on rfl (op_moveS rfl ?_) | refine ops_on rfl (op_move ?_)
      refine ops_on rfl (op_len un22 rfl rfl rfl ?_)
      refine ops_on rfl (op_sub rfl rfl (by unfold In64; (unfold limit at *; omega)) ?_)
      first | refine ops_on rfl (op_assignI rfl ?_) | refine ops_on rfl (op_assign ?_)
      refine ops_nil ?_
      refine cw_block ?_
      refine cw_loop (fun k F s1 => ∃ (G : FF) (m : Nat), F = lay G [(0, .slice a la.length cap), (1, .slice a2 lb.length cap2), (5, .int .i64 ((m : Int) - 1))] ∧ s1 = s ∧ m ≤ la.length ∧ k = m ∧ cmpD la lb la.length = cmpD la lb m) ?_ la.length _ _ ?_
      · rintro k F s1 ⟨G, m, rfl, rfl, hm, rfl, hn⟩
        refine cw_seq ?_
        refine cw_rseq ?_
        first | refine ops_on rfl (op_moveI rfl ?_) | refine ops_on rfl (op_move ?_)
        refine ops_on rfl (op_geq rfl rfl (fun h => ?_) (fun h => ?_))
        · refine ops_nil ?_
          refine cw_then rfl ?_
          refine cw_skip ?_
          refine seq_norm ?_
          refine cw_seq ?_
          refine cw_block ?_
          refine cw_seq ?_
          obtain ⟨m, rfl⟩ : ∃ j, k = j + 1 := ⟨k - 1, by omega⟩
          obtain ⟨b1, off1, c1, rfl, hg1, hb1, hc1⟩ := ha.atD (i := ((m + 1 : Nat) : Int) - 1) (k := m) (by omega) (by omega)
          obtain ⟨b2, off2, c2, rfl, hg2, hb2, hc2⟩ := hb.atD (i := ((m + 1 : Nat) : Int) - 1) (k := m) (by omega) (by omega)
          have hl1 : b1 < limit := by omega
          have hl2 : b2 < limit := by omega
          refine cw_dseq [⟨0, 0, .light, [7]⟩, ⟨1, 0, .light, [7]⟩, ⟨2, 3, .light, [7]⟩, ⟨3, 7, .light, [7]⟩, ⟨4, 0, .light, [3]⟩, ⟨5, 0, .light, [3]⟩, ⟨6, 48, .light, [3]⟩, ⟨7, 112, .light, [3]⟩, ⟨8, 255, .light, []⟩] (by kernel_rfl) (by kernel_rfl) ?_
          first | refine draw_light rfl rfl (op_moveS rfl ⟨rfl, ?_⟩) | refine draw_light rfl rfl (op_move ⟨rfl, ?_⟩)
          first | refine draw_light rfl rfl (op_moveI rfl ⟨rfl, ?_⟩) | refine draw_light rfl rfl (op_move ⟨rfl, ?_⟩)
          refine draw_light rfl rfl (op_indexS el22 rfl rfl (by (unfold limit at *; omega)) (by (unfold limit at *; omega)) ⟨rfl, ?_⟩)
          refine dr_load1 rfl rfl sh3 rfl hg1 hl1 hc1 ?_
          first | refine draw_light rfl rfl (op_moveS rfl ⟨rfl, ?_⟩) | refine draw_light rfl rfl (op_move ⟨rfl, ?_⟩)
          first | refine draw_light rfl rfl (op_moveI rfl ⟨rfl, ?_⟩) | refine draw_light rfl rfl (op_move ⟨rfl, ?_⟩)
          refine draw_light rfl rfl (op_indexS el22 rfl rfl (by (unfold limit at *; omega)) (by (unfold limit at *; omega)) ⟨rfl, ?_⟩)
          refine dr_load1 rfl rfl sh3 rfl hg2 hl2 hc2 ?_
          refine draw_light rfl rfl (op_lss rfl rfl (fun h => ⟨rfl, ?_⟩) (fun h => ⟨rfl, ?_⟩))
          · refine draw_nil ?_
            refine cw_then rfl ?_
            refine cw_rseq ?_
            refine ops_on rfl (op_assignC ?_)
            refine ops_nil ?_
            refine cw_ret ?_
            refine seq_ret ?_
            refine blk_ret ?_
            refine seq_ret ?_
            refine loop_ret ?_
            refine blk_ret ?_
            refine seq_ret ?_
            refine ret_end ?_
            refine end_t ?_
            refine ⟨congrArg (Value.int .i64) ?_, rfl⟩
            unfold cmpZ
            rw [if_neg (by omega), if_neg (by omega), hn, cmpD, if_pos (by assumption)]
          · refine draw_nil ?_
            refine cw_else rfl ?_
            refine cw_skip ?_
            refine seq_norm ?_
            refine cw_dseq [⟨0, 0, .light, [7]⟩, ⟨1, 0, .light, [7]⟩, ⟨2, 3, .light, [7]⟩, ⟨3, 7, .light, [7]⟩, ⟨4, 0, .light, [3]⟩, ⟨5, 0, .light, [3]⟩, ⟨6, 48, .light, [3]⟩, ⟨7, 112, .light, [3]⟩, ⟨8, 255, .light, []⟩] (by kernel_rfl) (by kernel_rfl) ?_
            first | refine draw_light rfl rfl (op_moveS rfl ⟨rfl, ?_⟩) | refine draw_light rfl rfl (op_move ⟨rfl, ?_⟩)
            first | refine draw_light rfl rfl (op_moveI rfl ⟨rfl, ?_⟩) | refine draw_light rfl rfl (op_move ⟨rfl, ?_⟩)
            refine draw_light rfl rfl (op_indexS el22 rfl rfl (by (unfold limit at *; omega)) (by (unfold limit at *; omega)) ⟨rfl, ?_⟩)
            refine dr_load1 rfl rfl sh3 rfl hg1 hl1 hc1 ?_
            first | refine draw_light rfl rfl (op_moveS rfl ⟨rfl, ?_⟩) | refine draw_light rfl rfl (op_move ⟨rfl, ?_⟩)
            first | refine draw_light rfl rfl (op_moveI rfl ⟨rfl, ?_⟩) | refine draw_light rfl rfl (op_move ⟨rfl, ?_⟩)
            refine draw_light rfl rfl (op_indexS el22 rfl rfl (by (unfold limit at *; omega)) (by (unfold limit at *; omega)) ⟨rfl, ?_⟩)
            refine dr_load1 rfl rfl sh3 rfl hg2 hl2 hc2 ?_
            refine draw_light rfl rfl (op_gtr rfl rfl (fun h => ⟨rfl, ?_⟩) (fun h => ⟨rfl, ?_⟩))
            · refine draw_nil ?_
              refine cw_then rfl ?_
              refine cw_rseq ?_
              refine ops_on rfl (op_assignC ?_)
              refine ops_nil ?_
              refine cw_ret ?_
              refine blk_ret ?_
              refine seq_ret ?_
              refine loop_ret ?_
              refine blk_ret ?_
              refine seq_ret ?_
              refine ret_end ?_
              refine end_t ?_
              refine ⟨congrArg (Value.int .i64) ?_, rfl⟩
              unfold cmpZ
              rw [if_neg (by omega), if_neg (by omega), hn, cmpD, if_neg (by assumption), if_pos (by assumption)]
            · refine draw_nil ?_
              refine cw_else rfl ?_
              refine cw_skip ?_
              refine blk_norm ?_
              refine seq_norm ?_
              refine cw_region ?_
              first | refine ops_on rfl (op_moveI rfl ?_) | refine ops_on rfl (op_move ?_)
              refine ops_on rfl (op_sub rfl rfl (by unfold In64; (unfold limit at *; omega)) ?_)
              first | refine ops_on rfl (op_assignI rfl ?_) | refine ops_on rfl (op_assign ?_)
              refine ops_nil ?_
              refine loop_norm ?_
              refine ⟨m, by omega, _, m, slots ⟨rfl, rfl, by show Value.int .i64 (((m + 1 : Nat) : Int) - 1 - 1) = _; congr 1; omega, trivial⟩, rfl, by omega, rfl, ?_⟩
              rw [hn, cmpD, if_neg (by assumption), if_neg (by assumption)]
        · refine ops_nil ?_
          refine cw_else rfl ?_
          refine cw_exit ?_
          refine seq_exit ?_
          refine loop_exit ?_
          refine blk_here ?_
          refine seq_norm ?_
          refine cw_rseq ?_
          refine ops_on rfl (op_assignC ?_)
          refine ops_nil ?_
          refine cw_ret ?_
          refine ret_end ?_
          refine end_t ?_
          refine ⟨congrArg (Value.int .i64) ?_, rfl⟩
          unfold cmpZ
          rw [if_neg (by omega), if_neg (by omega), hn, show k = 0 by omega]
          rfl
      · exact ⟨_, la.length, slots ⟨rfl, rfl, rfl, trivial⟩, rfl, by omega, rfl, rfl⟩

/-- A slice in these blocks. -/
inductive SlIn (D : Hp') (v : Value) (l : List Int) : Prop
  | nil (c : Nat) (hv : v = .slice none 0 c) (hl : l = []) : SlIn D v l
  | block (b off cap : Nat) (c : List Value) (hv : v = .slice (some ⟨b, off, none⟩) l.length cap) (hg : (b, .cells c 3) ∈ D) (hcap : l.length ≤ cap / 2) (hc : ∀ k, k < l.length → ltake 1 (ldrop (off + k * 1) c) = some (dc (l.getD k 0))) : SlIn D v l
theorem SlIn.sl {D : Hp'} {v : Value} {l : List Int} (h : SlIn D v l) {W : List Nat} {s0 s : St} {L : Hp'} {n : Nat} (H : HL W s0 s L n) (hs : D ⊆ L) : SlD s v l := by
  cases h with
  | nil c hv hl => exact .nil c hv (by simp [hl])
  | block b off cap c hv hg hcap hc =>
    have ho := H.own _ (hs hg)
    exact .block b off cap c (by simpa using hv) ho.1 ho.2.1 (by simpa using hcap) fun k hk => by
      rw [List.length_map] at hk
      rw [hc k hk, getD_map hk]
theorem SlIn.mono {D D' : Hp'} {v : Value} {l : List Int} (h : SlIn D v l) (hs : D ⊆ D') : SlIn D' v l := by
  cases h with
  | nil c hv hl => exact .nil c hv hl
  | block b off cap c hv hg hcap hc => exact .block b off cap c hv (hs hg) hcap hc
theorem SlIn.take {D : Hp'} {a : Option Addr} {len cap : Nat} {l : List Int} (h : SlIn D (.slice a len cap) l) {m : Nat} (hm : m ≤ l.length) : SlIn D (nv a m cap) (l.take m) := by
  unfold nv
  by_cases hz : m = 0
  · rw [if_pos hz]; subst hz; exact .nil 0 rfl (by simp)
  · rw [if_neg hz]
    cases h with
    | nil c hv hl => rw [hl] at hm; simp at hm; omega
    | block b off cap c hv hg hcap hc =>
      cases hv
      have hlen : (l.take m).length = m := by simp; omega
      refine .block b off cap c (by rw [hlen]) hg (by omega) fun k hk => ?_
      rw [hlen] at hk
      rw [hc k (by omega)]
      simp [List.getD_eq_getElem?_getD, List.getElem?_take, hk]
theorem dc_flat {l : List Int} {k : Nat} (h : k < l.length) : ltake 1 (ldrop (0 + k * 1) (ints l)) = some (dc (l.getD k 0)) := by
  rw [ltake_eq, ldrop_eq, Nat.zero_add, Nat.mul_one]
  have hl : (ints l).length = l.length := by simp [ints]
  rw [if_pos (by rw [List.length_drop]; omega)]
  rw [List.drop_eq_getElem_cons (by omega), List.take_succ_cons, List.take_zero]
  simp [ints, dc, List.getD_eq_getElem?_getD, List.getElem?_eq_getElem h]
theorem Own.slIn {D : Hp'} {v : Value} {l : List Int} {len : Nat} (h : Own 3 1 D v (ints l) len) : len = l.length ∧ SlIn D v l := by
  have hi : (ints l).length = l.length := by simp [ints]
  generalize hc : ints l = c at h
  cases h with
  | nil =>
    have : l = [] := by simpa [ints] using hc
    subst this
    exact ⟨rfl, .nil 0 rfl rfl⟩
  | block b cap c len hl hcap =>
    subst hc
    have e : len = l.length := by omega
    subst e
    exact ⟨rfl, .block b 0 cap _ rfl (by simp) (by omega) fun k hk => dc_flat hk⟩

end Go.Proofs.YtdejleegamcioaaGreat
namespace Go.Proofs.YtdejleegamcioaaGreat
open Go Go.M

theorem fb113 : funcB Tryz.f113 (Tryz.f113.body.getD .skip) 1 = true := by kernel_rfl
theorem fc167 : funcF Tryz.prog 167 = true := by kernel_rfl

/-- The digits of a number. -/
def dgs : Nat → Nat → List Int
  | 0, _ => []
  | f + 1, n => if n = 0 then [] else ((n % 1000000000 : Nat) : Int) :: dgs f (n / 1000000000)
def Dig (l : List Int) : Prop := ∀ x ∈ l, 0 ≤ x ∧ x < 1000000000
theorem Dig.at {l : List Int} (h : Dig l) (k : Nat) : 0 ≤ l.getD k 0 ∧ l.getD k 0 < 1000000000 := by
  by_cases hk : k < l.length
  · exact h _ (getD_mem hk)
  · rw [List.getD_eq_getElem?_getD, List.getElem?_eq_none (by omega)]; simp
theorem dgs_dig : ∀ f n, Dig (dgs f n)
  | 0, n => by intro x hx; cases hx
  | f + 1, n => by
    intro x hx
    simp only [dgs] at hx
    split at hx
    · cases hx
    · rcases List.mem_cons.mp hx with rfl | hx
      · omega
      · exact dgs_dig f _ x hx
theorem dgs_len : ∀ f n, (dgs f n).length ≤ f
  | 0, n => Nat.le_refl _
  | f + 1, n => by
    simp only [dgs]
    split
    · simp
    · have := dgs_len f (n / 1000000000); simp; omega
theorem dgs_small {n f : Nat} (h : n < 1000000000) : dgs (f + 1) n = if n = 0 then [] else [(n : Int)] := by
  simp only [dgs]
  split
  · rfl
  · have e1 : n % 1000000000 = n := Nat.mod_eq_of_lt h
    have e2 : n / 1000000000 = 0 := Nat.div_eq_of_lt h
    rw [e1, e2]
    cases f <;> simp [dgs]
theorem dgs_last : ∀ f n, n < 1000000000 ^ f → dgs f n = [] ∨ (dgs f n).getD ((dgs f n).length - 1) 0 ≠ 0
  | 0, n, _ => .inl rfl
  | f + 1, n, h => by
    simp only [dgs]
    by_cases hn : n = 0
    · rw [if_pos hn]; exact .inl rfl
    · rw [if_neg hn]
      right
      have h2 : n / 1000000000 < 1000000000 ^ f := by
        rw [Nat.pow_succ] at h
        exact Nat.div_lt_of_lt_mul (by rw [Nat.mul_comm]; exact h)
      rcases dgs_last f (n / 1000000000) h2 with h3 | h3
      · rw [h3]
        have h4 : n / 1000000000 = 0 := by
          cases f with
          | zero => simpa using h2
          | succ f =>
            simp only [dgs] at h3
            split at h3
            · assumption
            · cases h3
        simp
        omega
      · have h5 : 0 < (dgs f (n / 1000000000)).length := by
          cases hq : dgs f (n / 1000000000) with
          | nil => rw [hq] at h3; simp at h3
          | cons a b => simp
        obtain ⟨m, hm⟩ : ∃ m, (dgs f (n / 1000000000)).length = m + 1 := ⟨(dgs f (n / 1000000000)).length - 1, by omega⟩
        rw [hm, Nat.add_sub_cancel] at h3
        simp only [List.length_cons, hm, Nat.add_sub_cancel, List.getD_cons_succ]
        exact h3
theorem dgs_nil {f n : Nat} (h : n < 1000000000 ^ f) (he : dgs f n = []) : n = 0 := by
  cases f with
  | zero => simpa using h
  | succ f =>
    simp only [dgs] at he
    split at he
    · assumption
    · cases he
theorem ints_append (l r : List Int) : ints (l ++ r) = ints l ++ ints r := by simp [ints]
theorem nlen_last {l : List Int} (h : l = [] ∨ l.getD (l.length - 1) 0 ≠ 0) : nlen l l.length = l.length := by
  cases hn : l.length with
  | zero => rfl
  | succ m =>
    rcases h with h | h
    · rw [h] at hn; simp at hn
    · rw [hn, Nat.add_sub_cancel] at h
      rw [nlen, if_neg h]
theorem nv_plain (a : Option Addr) (n c : Nat) : Go.M.plainCell (nv a n c) = true := by unfold nv; split <;> rfl
theorem tmod_abs {x : Int} (h : In64 x) : (0 ≤ x.tmod 1000000000 → x.tmod 1000000000 = ((x.natAbs % 1000000000 : Nat) : Int)) ∧ (x.tmod 1000000000 < 0 → IntKind.i64.wrap (0 - x.tmod 1000000000) = ((x.natAbs % 1000000000 : Nat) : Int)) := by
  have h1 : (x.tmod 1000000000).natAbs = x.natAbs % 1000000000 := by rw [Int.natAbs_tmod]; rfl
  constructor
  · intro h0; omega
  · intro h0; rw [wrap_in ⟨by omega, by omega⟩]; omega
theorem tdiv_abs (x : Int) : (x.tdiv 1000000000).natAbs = x.natAbs / 1000000000 := by rw [Int.natAbs_tdiv]; rfl

set_option maxHeartbeats 4000000 in
set_option maxRecDepth 10000 in
theorem of03_ok {I : Table} (hI : Plain I) {s : St} (hf : Fine s) {n : Int} (hn : In64 n) (hroom : s.next + 10 ≤ limit) :
    ∃ v' s', Rets Tryz.prog I 113 #[.int .i64 n] s v' s' ∧ (∃ D sl, v' = .agg ⟨[.bool (decide (n < 0)), sl]⟩ ∧ HL [] s s' D 10 ∧ SlIn D sl (dgs 3 n.natAbs)) := by
  have H := hf.hl
  have hn0 := hn
  obtain ⟨hn1, hn2⟩ := hn
  refine call_of 1 (hI 113 (by decide) (by decide)) Tryz.func113 rfl fb113 rfl ?_
  refine cw_rseq ?_
  refine ops_on rfl (op_alloc H zf56 (by (unfold limit at *; omega)) (fun b2 s1 H => ?_))
  refine ops_nil ?_
  refine cw_rseq ?_
  refine ops_on rfl (op_assignC ?_)
  refine ops_nil ?_
  refine cw_rseq ?_
  first | refine ops_on rfl (op_moveI rfl ?_) | refine ops_on rfl (op_move ?_)
  refine ops_on rfl (op_lss' rfl rfl ?_)
  first | refine ops_on rfl (op_assignB rfl ?_) | refine ops_on rfl (op_assign ?_)
  refine ops_nil ?_
  refine cw_seq ?_
  refine cw_block ?_
  refine cw_loop (fun k F s1 => ∃ (G : FF) (x : Int) (D : Hp') (v : Value) (l : List Int) (f : Nat), F = lay G [(0, .int .i64 x), (2, .pointer (some ⟨b2, 0, none⟩)), (3, v), (4, .bool (decide (n < 0)))] ∧ HL [] s s1 (D ++ [(b2, .cells [.bool false, .slice none 0 0] 56)]) (1 + 2 * l.length) ∧ Own 3 1 D v (ints l) l.length ∧ k = x.natAbs ∧ In64 x ∧ f + l.length = 3 ∧ dgs 3 n.natAbs = l ++ dgs f x.natAbs ∧ x.natAbs < 1000000000 ^ f) ?_ n.natAbs _ _ ?_
  · rintro k F s1 ⟨G, x, D, v, l, f, rfl, H, ho, rfl, hx, hfl, hdg, hlt⟩
    refine cw_seq ?_
    refine cw_rseq ?_
    first | refine ops_on rfl (op_moveI rfl ?_) | refine ops_on rfl (op_move ?_)
    refine ops_on rfl (op_neq rfl rfl (fun h => ?_) (fun h => ?_))
    · refine ops_nil ?_
      refine cw_then rfl ?_
      refine cw_skip ?_
      refine seq_norm ?_
      refine cw_block ?_
      refine cw_rseq ?_
      first | refine ops_on rfl (op_moveI rfl ?_) | refine ops_on rfl (op_move ?_)
      refine ops_on rfl (op_rem rfl rfl (by (unfold limit at *; omega)) ?_)
      first | refine ops_on rfl (op_assignI rfl ?_) | refine ops_on rfl (op_assign ?_)
      refine ops_nil ?_
      refine cw_seq ?_
      refine cw_rseq ?_
      first | refine ops_on rfl (op_moveI rfl ?_) | refine ops_on rfl (op_move ?_)
      refine ops_on rfl (op_lss rfl rfl (fun h => ?_) (fun h => ?_))
      · refine ops_nil ?_
        refine cw_then rfl ?_
        refine cw_region ?_
        first | refine ops_on rfl (op_moveI rfl ?_) | refine ops_on rfl (op_move ?_)
        refine ops_on rfl (op_neg rfl ?_)
        first | refine ops_on rfl (op_assignI rfl ?_) | refine ops_on rfl (op_assign ?_)
        refine ops_nil ?_
        refine seq_norm ?_
        refine cw_rseq ?_
        first | refine ops_on rfl (op_moveS rfl ?_) | refine ops_on rfl (op_move ?_)
        first | refine ops_on rfl (op_moveI rfl ?_) | refine ops_on rfl (op_move ?_)
        first | refine ops_on rfl (op_buildSlice (c := [.int _ _]) H sl22 rfl rfl (by (unfold limit at *; omega)) (fun b18 s2 H => ?_)) | refine ops_on rfl (op_buildSlice H sl22 rfl rfl (by (unfold limit at *; omega)) (fun b18 s2 H => ?_))
        have hgt := H.own0
        have H := H.drop0
        refine ops_on rfl (op_appendOwn H ho sl22 un22 rfl rfl rfl (elems_all hgt rfl) (by decide) rfl rfl (by omega) (by (unfold limit at *; omega)) (fun b19 s19 H ho => ?_))
        first | refine ops_on rfl (op_assignS rfl ?_) | refine ops_on rfl (op_assign ?_)
        refine ops_nil ?_
        refine cw_region ?_
        first | refine ops_on rfl (op_moveI rfl ?_) | refine ops_on rfl (op_move ?_)
        refine ops_on rfl (op_quo rfl rfl (by decide) (by have := tdiv_abs x; obtain ⟨hx1, hx2⟩ := hx; unfold In64; omega) ?_)
        first | refine ops_on rfl (op_assignI rfl ?_) | refine ops_on rfl (op_assign ?_)
        refine ops_nil ?_
        refine blk_norm ?_
        refine loop_norm ?_
        have hd := tmod_abs hx
        have hdv : IntKind.i64.wrap (0 - x.tmod 1000000000) = ((x.natAbs % 1000000000 : Nat) : Int) := hd.2 (by omega)
        have hq := tdiv_abs x
        obtain ⟨f, rfl⟩ : ∃ j, f = j + 1 := ⟨f - 1, by cases f with | zero => simp at hlt; omega | succ f => omega⟩
        have hne : x.natAbs ≠ 0 := by omega
        refine ⟨(x.tdiv 1000000000).natAbs, by omega, _, x.tdiv 1000000000, [(b19, .cells (ints l ++ [.int .i64 (IntKind.i64.wrap (0 - x.tmod 1000000000))]) 3)], .slice (some ⟨b19, 0, none⟩) (l.length + 1) (2 * (l.length + 1) + 1), l ++ [((x.natAbs % 1000000000 : Nat) : Int)], f, slots ⟨rfl, rfl, rfl, rfl, trivial⟩, ?_, ?_, rfl, ?_, by simp; omega, ?_, ?_⟩
        · rw [List.length_append, List.length_singleton]
          exact H.up (by omega)
        · rw [ints_append, List.length_append, ← hdv]
          exact ho
        · obtain ⟨hx1, hx2⟩ := hx
          unfold In64
          omega
        · rw [hdg, dgs, if_neg hne, hq]
          simp
        · rw [hq]
          rw [Nat.pow_succ] at hlt
          exact Nat.div_lt_of_lt_mul (by rw [Nat.mul_comm]; exact hlt)
      · refine ops_nil ?_
        refine cw_else rfl ?_
        refine cw_skip ?_
        refine seq_norm ?_
        refine cw_rseq ?_
        first | refine ops_on rfl (op_moveS rfl ?_) | refine ops_on rfl (op_move ?_)
        first | refine ops_on rfl (op_moveI rfl ?_) | refine ops_on rfl (op_move ?_)
        first | refine ops_on rfl (op_buildSlice (c := [.int _ _]) H sl22 rfl rfl (by (unfold limit at *; omega)) (fun b18 s3 H => ?_)) | refine ops_on rfl (op_buildSlice H sl22 rfl rfl (by (unfold limit at *; omega)) (fun b18 s3 H => ?_))
        have hgt := H.own0
        have H := H.drop0
        refine ops_on rfl (op_appendOwn H ho sl22 un22 rfl rfl rfl (elems_all hgt rfl) (by decide) rfl rfl (by omega) (by (unfold limit at *; omega)) (fun b19 s19 H ho => ?_))
        first | refine ops_on rfl (op_assignS rfl ?_) | refine ops_on rfl (op_assign ?_)
        refine ops_nil ?_
        refine cw_region ?_
        first | refine ops_on rfl (op_moveI rfl ?_) | refine ops_on rfl (op_move ?_)
        refine ops_on rfl (op_quo rfl rfl (by decide) (by have := tdiv_abs x; obtain ⟨hx1, hx2⟩ := hx; unfold In64; omega) ?_)
        first | refine ops_on rfl (op_assignI rfl ?_) | refine ops_on rfl (op_assign ?_)
        refine ops_nil ?_
        refine blk_norm ?_
        refine loop_norm ?_
        have hd := tmod_abs hx
        have hdv : x.tmod 1000000000 = ((x.natAbs % 1000000000 : Nat) : Int) := hd.1 (by omega)
        have hq := tdiv_abs x
        obtain ⟨f, rfl⟩ : ∃ j, f = j + 1 := ⟨f - 1, by cases f with | zero => simp at hlt; omega | succ f => omega⟩
        have hne : x.natAbs ≠ 0 := by omega
        refine ⟨(x.tdiv 1000000000).natAbs, by omega, _, x.tdiv 1000000000, [(b19, .cells (ints l ++ [.int .i64 (x.tmod 1000000000)]) 3)], .slice (some ⟨b19, 0, none⟩) (l.length + 1) (2 * (l.length + 1) + 1), l ++ [((x.natAbs % 1000000000 : Nat) : Int)], f, slots ⟨rfl, rfl, rfl, rfl, trivial⟩, ?_, ?_, rfl, ?_, by simp; omega, ?_, ?_⟩
        · rw [List.length_append, List.length_singleton]
          exact H.up (by omega)
        · rw [ints_append, List.length_append, ← hdv]
          exact ho
        · obtain ⟨hx1, hx2⟩ := hx
          unfold In64
          omega
        · rw [hdg, dgs, if_neg hne, hq]
          simp
        · rw [hq]
          rw [Nat.pow_succ] at hlt
          exact Nat.div_lt_of_lt_mul (by rw [Nat.mul_comm]; exact hlt)
    · refine ops_nil ?_
      refine cw_else rfl ?_
      refine cw_exit ?_
      refine seq_exit ?_
      refine loop_exit ?_
      refine blk_here ?_
      refine seq_norm ?_
      refine cw_rseq ?_
      first | refine ops_on rfl (op_moveB rfl ?_) | refine ops_on rfl (op_move ?_)
      first | refine ops_on rfl (op_moveS rfl ?_) | refine ops_on rfl (op_move ?_)
      obtain ⟨_, hsl⟩ := Own.slIn ho
      have hx0 : x = 0 := by omega
      subst hx0
      have hlq : l = dgs 3 n.natAbs := by rw [hdg]; cases f <;> simp [dgs]
      have hlast := nlen_last (dgs_last 3 n.natAbs (by omega))
      obtain ⟨a, len, cap, rfl, hle⟩ := (hsl.sl H (by simp)).isSlice
      rw [List.length_map] at hle
      subst hle
      refine ops_on rfl (op_call rfl fc167 rfl ?_)
      obtain ⟨_, s9, hr, rfl, Hc⟩ := normal_ok (neg := decide (n < 0)) hI H.fine (hsl.sl H (by simp)) (by omega) (by have := H.most; unfold limit at *; omega)
      refine ⟨_, _, hr, ?_⟩
      clear hr
      have H := H.call0 Hc
      clear Hc
      rw [← hlq] at hlast
      rw [hlast]
      refine ops_on rfl (op_storeA (A := D) H sz56 rfl rfl rfl (by show List.all [_, _] Go.M.plainCell = true; simp only [List.all_cons, List.all_nil, nv_plain]; rfl) rfl (by (unfold limit at *; omega)) (fun s20 H => ?_))
      refine ops_nil ?_
      refine cw_ret ?_
      refine ret_end ?_
      refine end_cell sh56 rfl (by first | exact H.own0 | exact H.own1 | exact H.own2 | exact H.own3 | exact H.own4 | exact H.own5 | exact H.ownA | assumption) rfl ?_
      have hneg : (if l.length = 0 then false else decide (n < 0)) = decide (n < 0) := by
        split
        · next h0 =>
          have := dgs_nil (f := 3) (n := n.natAbs) (by omega) (by rw [← hlq]; exact List.length_eq_zero_iff.mp h0)
          have : n = 0 := by omega
          subst this
          rfl
        · rfl
      refine ⟨D, nv a l.length cap, ?_, H.left.up (by omega), ?_⟩
      · rw [hneg]
      · rw [← hlq]
        have := hsl.take (m := l.length) (Nat.le_refl _)
        rwa [List.take_length] at this
  · exact ⟨_, n, [], _, [], 3, slots ⟨rfl, rfl, rfl, rfl, trivial⟩, H, .nil, rfl, hn0, rfl, rfl, by omega⟩

end Go.Proofs.YtdejleegamcioaaGreat
namespace Go.Proofs.YtdejleegamcioaaGreat
open Go Go.M

theorem fb209 : funcB Tryz.f209 (Tryz.f209.body.getD .skip) 1 = true := by kernel_rfl
theorem fc211 : funcF Tryz.prog 211 = true := by kernel_rfl
theorem fb170 : funcB Tryz.f170 (Tryz.f170.body.getD .skip) 2 = true := by kernel_rfl

set_option maxHeartbeats 4000000 in
set_option maxRecDepth 10000 in
theorem tiny_ok {I : Table} (hI : Plain I) {s : St} {v : Value} {l : List Int} (hl : SlD s v l) (hd : Dig l) : ∃ v' s', Rets Tryz.prog I 209 #[v] s v' s' ∧ (v' = .int .i64 (l.getD 1 0 * 1000000000 + l.getD 0 0) ∧ s' = s) := by
  have h0 := hd.at 0
  have h1 := hd.at 1
  refine call_of 1 (hI 209 (by decide) (by decide)) Tryz.func209 rfl fb209 rfl ?_
  refine cw_rseq ?_
  refine ops_on rfl (op_assignC ?_)
  refine ops_nil ?_
  refine cw_rseq ?_
  first | refine ops_on rfl (op_moveS rfl ?_) | refine ops_on rfl (op_move ?_)
  refine ops_on rfl (op_call rfl fc211 rfl ?_)
  obtain ⟨_, _, hr, rfl, rfl⟩ := digit_ok (i := 1) hI hl (by decide)
  refine ⟨_, _, hr, ?_⟩
  clear hr
  refine ops_on rfl (op_mul rfl rfl (by show In64 (l.getD 1 0 * 1000000000); unfold In64; omega) ?_)
  first | refine ops_on rfl (op_moveS rfl ?_) | refine ops_on rfl (op_move ?_)
  refine ops_on rfl (op_call rfl fc211 rfl ?_)
  obtain ⟨_, _, hr, rfl, rfl⟩ := digit_ok (i := 0) hI hl (by decide)
  refine ⟨_, _, hr, ?_⟩
  clear hr
  refine ops_on rfl (op_add rfl rfl (by show In64 (l.getD 1 0 * 1000000000 + l.getD 0 0); unfold In64; omega) ?_)
  first | refine ops_on rfl (op_assignI rfl ?_) | refine ops_on rfl (op_assign ?_)
  refine ops_nil ?_
  refine cw_ret ?_
  refine ret_end ?_
  refine end_t ?_
  exact ⟨rfl, rfl⟩

theorem ints_rep (n : Nat) : ints (List.replicate (n + 1) 0) = ints (List.replicate n 0) ++ [.int .i64 0] := by
  rw [List.replicate_succ', ints_append]; rfl

set_option maxHeartbeats 4000000 in
set_option maxRecDepth 10000 in
theorem minus_ok {I : Table} (hI : Plain I) {s : St} (hf : Fine s) {va vb : Value} {l : List Int} (ha : SlD s va l) (hb : SlD s vb l) (hd : Dig l) (hlen : l.length ≤ 4) (hroom : s.next + 10 ≤ limit) :
    ∃ v' s', Rets Tryz.prog I 170 #[va, vb] s v' s' ∧ (∃ D, HL [] s s' D 10 ∧ SlIn D v' (List.replicate l.length 0)) := by
  have H := hf.hl
  obtain ⟨a, len, cap, rfl, hn⟩ := ha.isSlice
  rw [List.length_map] at hn
  subst hn
  obtain ⟨a2, len, cap2, rfl, hn⟩ := hb.isSlice
  rw [List.length_map] at hn
  subst hn
  refine call_of 2 (hI 170 (by decide) (by decide)) Tryz.func170 rfl fb170 rfl ?_
  refine cw_rseq ?_
  refine ops_on rfl (op_assignC ?_)
  refine ops_nil ?_
  refine cw_rseq ?_
  refine ops_on rfl (op_assignC ?_)
  refine ops_nil ?_
  refine cw_rseq ?_
  refine ops_on rfl (op_assignC ?_)
  refine ops_nil ?_
  refine cw_seq ?_
  refine cw_rseq ?_
  refine ops_on rfl (op_assignC ?_)
  refine ops_nil ?_
  refine cw_block ?_
  refine cw_loop (fun k F s1 => ∃ (G : FF) (D : Hp') (v : Value) (i : Nat), F = lay G [(0, .slice a l.length cap), (1, .slice a2 l.length cap2), (5, v), (6, .int .i64 0), (7, .int .i64 (i : Int))] ∧ HL [] s s1 D (2 * i) ∧ Own 3 1 D v (ints (List.replicate i 0)) i ∧ i ≤ l.length ∧ k = l.length - i) ?_ l.length _ _ ?_
  · rintro k F s1 ⟨G, D, v, i, rfl, H, ho, hi, rfl⟩
    have hdi := hd.at i
    refine cw_seq ?_
    refine cw_rseq ?_
    first | refine ops_on rfl (op_moveI rfl ?_) | refine ops_on rfl (op_move ?_)
    first | refine ops_on rfl (op_moveS rfl ?_) | refine ops_on rfl (op_move ?_)
    refine ops_on rfl (op_len un22 rfl rfl rfl ?_)
    refine ops_on rfl (op_lss rfl rfl (fun h => ?_) (fun h => ?_))
    · refine ops_nil ?_
      refine cw_then rfl ?_
      refine cw_skip ?_
      refine seq_norm ?_
      refine cw_seq ?_
      refine cw_block ?_
      obtain ⟨b1, off1, c1, rfl, hg1, hb1, hc1⟩ := (ha.kept H).atD (i := (i : Int)) (k := i) rfl (by omega)
      have hl1 : b1 < limit := by have := H.most; unfold limit at *; omega
      refine cw_dseq [⟨0, 0, .light, []⟩, ⟨1, 0, .light, []⟩, ⟨2, 3, .light, []⟩, ⟨3, 7, .light, []⟩, ⟨4, 0, .light, [3]⟩, ⟨5, 0, .light, [3]⟩, ⟨8, 0, .light, [3]⟩, ⟨6, 48, .whole, [3]⟩, ⟨7, 127, .light, []⟩, ⟨9, 511, .light, []⟩, ⟨10, 1023, .light, []⟩] (by kernel_rfl) (by kernel_rfl) ?_
      first | refine draw_light rfl rfl (op_moveS rfl ⟨rfl, ?_⟩) | refine draw_light rfl rfl (op_move ⟨rfl, ?_⟩)
      first | refine draw_light rfl rfl (op_moveI rfl ⟨rfl, ?_⟩) | refine draw_light rfl rfl (op_move ⟨rfl, ?_⟩)
      refine draw_light rfl rfl (op_indexS el22 rfl rfl (by (unfold limit at *; omega)) (by (unfold limit at *; omega)) ⟨rfl, ?_⟩)
      refine dr_load1 rfl rfl sh3 rfl hg1 hl1 hc1 ?_
      first | refine draw_light rfl rfl (op_moveS rfl ⟨rfl, ?_⟩) | refine draw_light rfl rfl (op_move ⟨rfl, ?_⟩)
      first | refine draw_light rfl rfl (op_moveI rfl ⟨rfl, ?_⟩) | refine draw_light rfl rfl (op_move ⟨rfl, ?_⟩)
      first | refine draw_light rfl rfl (op_moveI rfl ⟨rfl, ?_⟩) | refine draw_light rfl rfl (op_move ⟨rfl, ?_⟩)
      refine draw_whole rfl rfl (op_call rfl fc211 rfl ?_)
      obtain ⟨_, _, hr, rfl, rfl⟩ := digit_ok (s := _) (i := (i : Int)) hI ((hb.kept H).prot (X := [b1])) (by omega)
      rw [Int.toNat_natCast] at hr
      refine ⟨_, _, hr, ?_⟩
      clear hr
      refine draw_light rfl rfl (op_sub rfl rfl (by show In64 (l.getD i 0 - l.getD i 0); unfold In64; omega) ⟨rfl, ?_⟩)
      refine draw_light rfl rfl (op_sub rfl rfl (by show In64 (l.getD i 0 - l.getD i 0 - 0); unfold In64; omega) ⟨rfl, ?_⟩)
      first | refine draw_light rfl rfl (op_assignI rfl ⟨rfl, ?_⟩) | refine draw_light rfl rfl (op_assign ⟨rfl, ?_⟩)
      refine draw_nil ?_
      refine cw_rseq ?_
      refine ops_on rfl (op_assignC ?_)
      refine ops_nil ?_
      refine cw_seq ?_
      refine cw_rseq ?_
      first | refine ops_on rfl (op_moveI rfl ?_) | refine ops_on rfl (op_move ?_)
      refine ops_on rfl (op_lss rfl rfl (fun h => False.elim (by have h2 : l.getD i 0 - l.getD i 0 - 0 < 0 := h; omega)) (fun h => ?_))
      refine ops_nil ?_
      refine cw_else rfl ?_
      refine cw_skip ?_
      refine seq_norm ?_
      refine cw_region ?_
      first | refine ops_on rfl (op_moveS rfl ?_) | refine ops_on rfl (op_move ?_)
      first | refine ops_on rfl (op_moveI rfl ?_) | refine ops_on rfl (op_move ?_)
      first | refine ops_on rfl (op_buildSlice (c := [.int _ _]) H sl22 rfl rfl (by (unfold limit at *; omega)) (fun b31 s1 H => ?_)) | refine ops_on rfl (op_buildSlice H sl22 rfl rfl (by (unfold limit at *; omega)) (fun b31 s1 H => ?_))
      have hgt := H.own0
      have H := H.drop0
      refine ops_on rfl (op_appendOwn (L := []) (D := D) (by rw [List.append_nil]; exact H) ho sl22 un22 rfl rfl rfl (elems_all hgt rfl) (by decide) rfl rfl (by omega) (by (unfold limit at *; omega)) (fun b32 s32 H ho => ?_))
      first | refine ops_on rfl (op_assignS rfl ?_) | refine ops_on rfl (op_assign ?_)
      refine ops_nil ?_
      refine blk_norm ?_
      refine seq_norm ?_
      refine cw_region ?_
      first | refine ops_on rfl (op_moveI rfl ?_) | refine ops_on rfl (op_move ?_)
      refine ops_on rfl (op_add rfl rfl (by unfold In64; (unfold limit at *; omega)) ?_)
      first | refine ops_on rfl (op_assignI rfl ?_) | refine ops_on rfl (op_assign ?_)
      refine ops_nil ?_
      refine loop_norm ?_
      refine ⟨l.length - (i + 1), by omega, _, _, .slice (some ⟨b32, 0, none⟩) (i + 1) (2 * (i + 1) + 1), i + 1, slots ⟨rfl, rfl, rfl, rfl, rfl, trivial⟩, H.up (by omega), ?_, by omega, rfl⟩
      rw [ints_rep]
      have hz : l.getD i 0 - l.getD i 0 - 0 = 0 := by omega
      rw [hz] at ho
      rw [hz]
      exact ho
    · refine ops_nil ?_
      refine cw_else rfl ?_
      refine cw_exit ?_
      refine seq_exit ?_
      refine loop_exit ?_
      refine blk_here ?_
      refine seq_norm ?_
      refine cw_rseq ?_
      first | refine ops_on rfl (op_moveS rfl ?_) | refine ops_on rfl (op_move ?_)
      first | refine ops_on rfl (op_assignS rfl ?_) | refine ops_on rfl (op_assign ?_)
      refine ops_nil ?_
      refine cw_ret ?_
      refine ret_end ?_
      refine end_t ?_
      have hi2 : i = l.length := by omega
      subst hi2
      obtain ⟨_, hsl⟩ := Own.slIn ho
      exact ⟨D, H.up (by omega), hsl⟩
  · exact ⟨_, [], _, 0, slots ⟨rfl, rfl, rfl, rfl, rfl, trivial⟩, H, .nil, by omega, by omega⟩

end Go.Proofs.YtdejleegamcioaaGreat
