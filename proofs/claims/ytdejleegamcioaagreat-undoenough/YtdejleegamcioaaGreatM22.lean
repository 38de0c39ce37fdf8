/- The recursion of the least cleaning: what it returns and what it keeps. -/
/- The splits of the least cleaning, one after the other. -/
/- The splits of the least cleaning: the closure that takes them. -/
import Derived.Test.YtdejleegamcioaaGreatM21
namespace Go.Proofs.YtdejleegamcioaaGreat
open Go Go.M

theorem bf99 : buildF Tryz.prog 99 = some ([.int .i64 0, .int .i64 0, .int .i64 0, .bool false, .slice none 0 0, .bool false, .slice none 0 0, .bool false, .slice none 0 0, .bool false, .slice none 0 0], [(0, 1), (1, 10)]) := by kernel_rfl
theorem fb41 : funcB Tryz.f41 (Tryz.f41.body.getD .skip) 6 = true := by kernel_rfl
theorem fc41 : funcF Tryz.prog 41 = true := by kernel_rfl
theorem fc42 : funcF Tryz.prog 42 = true := by kernel_rfl
theorem of99_0 : offF Tryz.prog 99 0 = some 0 := by kernel_rfl
theorem sh96 : shapeOf Tryz.prog 96 = some (none) := by kernel_rfl
theorem sh97 : shapeOf Tryz.prog 97 = some (none) := by kernel_rfl
theorem sh99 : shapeOf Tryz.prog 99 = some (some 11) := by kernel_rfl
theorem sz99 : sizeF Tryz.prog 99 = some 11 := by kernel_rfl
theorem un23 : Tryz.prog.underlying 23 = some (.int .i64) := by kernel_rfl
theorem un96 : Tryz.prog.underlying 96 = some (.map 23 99) := by kernel_rfl
theorem zf99 : zeroF Tryz.prog 99 = some [.int .i64 0, .int .i64 0, .int .i64 0, .bool false, .slice none 0 0, .bool false, .slice none 0 0, .bool false, .slice none 0 0, .bool false, .slice none 0 0] := by kernel_rfl
theorem zv99 : zeroV Tryz.prog 99 = some (.agg ⟨[.int .i64 0, .int .i64 0, .int .i64 0, .bool false, .slice none 0 0, .bool false, .slice none 0 0, .bool false, .slice none 0 0, .bool false, .slice none 0 0]⟩) := by kernel_rfl

/-- What is asked of the recursion, for sets less than f. -/
def OfC (I : Table) (js : List (Int × Int)) (bad : Int) (may : List Sp) (r bK bJ bB bM bF : Nat) (vj vm : Value) (f : Nat) : Prop :=
  ∀ (S : Int), 0 < S → S.toNat < f → ∀ (s : St) (E : List Ent), Fine s → OfSt s r bK bJ bB bM bF vj bad vm js may E → Good js bad may E → s.next + tb may f S ≤ limit →
    ∃ v' s', Rets Tryz.prog I 41 #[.int .i64 S, ptr bK, ptr bJ, ptr bB, ptr bM, ptr bF] s v' s' ∧ (∃ E', v' = .int .i64 (bb js bad may S).1 ∧ HL [r] s s' [(r, mapO E')] (tb may f S) ∧ Good js bad may E' ∧ S ∈ keysE E' ∧ ∃ X, E' = E ++ X ∧ (∀ e ∈ X, 0 < e.k ∧ e.k ≤ S) ∧ X.length ≤ tb may f S)
theorem keys_app (E X : List Ent) : keysE (E ++ X) = keysE E ++ keysE X := by simp [keysE]
theorem key_of_find {E : List Ent} {k : Int} {e : Ent} (h : findE E k = some e) : k ∈ keysE E := by
  obtain ⟨h1, rfl⟩ := of_find h
  exact List.mem_map.mpr ⟨e, h1, rfl⟩
theorem foldl_take {may : List Sp} {v : Int → Int} {S : Int} {i : Nat} {a : Int × Sp} (h : i < may.length) : (may.take (i + 1)).foldl (stepB v S) a = stepB v S ((may.take i).foldl (stepB v S) a) (may.getD i default) := by
  rw [List.take_succ_eq_append_getElem h, List.foldl_append]
  simp [List.getD_eq_getElem?_getD, List.getElem?_eq_getElem h]
theorem mem_take_succ {may : List Sp} {i : Nat} {m : Sp} (h : i < may.length) (hm : m ∈ may.take (i + 1)) : m ∈ may.take i ∨ m = may.getD i default := by
  rw [List.take_succ_eq_append_getElem h, List.mem_append, List.mem_singleton] at hm
  rcases hm with hm | hm
  · exact .inl hm
  · right; rw [hm]; simp [List.getD_eq_getElem?_getD, List.getElem?_eq_getElem h]
theorem tbs_take {may : List Sp} {t : Int → Nat} {S : Int} {i : Nat} (h : i < may.length) : tbs t S (may.take (i + 1)) = tbs t S (may.take i) + (if (may.getD i default).w = S then t (may.getD i default).p + t (andNotI S (may.getD i default).p) else 0) := by
  rw [List.take_succ_eq_append_getElem h, tbs_append]
  simp [tbs, List.getD_eq_getElem?_getD, List.getElem?_eq_getElem h]
theorem tbs_le {may : List Sp} {t : Int → Nat} {S : Int} (i : Nat) : tbs t S (may.take i) ≤ tbs t S may := by
  conv => rhs; rw [← List.take_append_drop i may]
  rw [tbs_append]
  omega

set_option maxHeartbeats 4000000 in
set_option maxRecDepth 10000 in
theorem of_step {I : Table} (hI : Plain I) {js : List (Int × Int)} {bad : Int} {may : List Sp} (hj : ∀ j ∈ js, joinB j) (hjl : js.length ≤ 16) (hm : MayOK may) (hml : may.length ≤ 4096) {r bK bJ bB bM bF : Nat} {vj vm : Value} {f : Nat} (ih : OfC I js bad may r bK bJ bB bM bF vj vm f) : OfC I js bad may r bK bJ bB bM bF vj vm (f + 1) := by
  intro S hS hSf s E hf hst hg hroom
  have H := hst.hl hf
  have htb : tb may (f + 1) S = 60 + may.length + tbs (tb may f) S may := rfl
  rw [htb] at hroom
  rw [htb]
  obtain ⟨am, lenm, cm, rfl, hlm⟩ := hst.sM.isSlice
  rw [List.length_map] at hlm
  subst hlm
  refine call_of 6 (hI 41 (by decide) (by decide)) Tryz.func41 rfl fb41 rfl ?_
  refine cw_rseq ?_
  refine ops_on rfl (op_assignC ?_)
  refine ops_nil ?_
  refine cw_seq ?_
  rcases hfe : findE E S with _ | e
  · refine cw_rseq ?_
    refine ops_on rfl (op_load1 sh96 rfl (by first | exact H.own0 | exact H.own1 | exact H.own2 | exact H.own3 | exact H.own4 | exact H.own5 | exact oldW H hst.gR hst.lK hst.gK | exact oldW H hst.gR hst.lJ hst.gJ | exact oldW H hst.gR hst.lB hst.gB | exact oldW H hst.gR hst.lM hst.gM | exact oldW H hst.gR hst.lF hst.gF | exact H.ownA | assumption) rfl ?_)
    first | refine ops_on rfl (op_moveI rfl ?_) | refine ops_on rfl (op_move ?_)
    refine ops_on rfl (op_lookupNone un96 un23 zv99 rfl rfl H.own0 hfe ?_)
    first | refine ops_on rfl (op_moveT rfl ?_) | refine ops_on rfl (op_move ?_)
    refine ops_on rfl (op_extract rfl rfl ?_)
    refine ops_on rfl (op_extract rfl rfl ?_)
    refine ops_on rfl (op_alloc H zf99 (by omega) (fun b8 s1 H => ?_))
    first | refine ops_on rfl (op_store0 (vs := [.int _ _, .int _ _, .int _ _, .bool _, .slice _ _ _, .bool _, .slice _ _ _, .bool _, .slice _ _ _, .bool _, .slice _ _ _]) H sz99 rfl rfl rfl rfl rfl (by omega) (fun s2 H => ?_)) | refine ops_on rfl (op_store1 (vs := [.int _ _, .int _ _, .int _ _, .bool _, .slice _ _ _, .bool _, .slice _ _ _, .bool _, .slice _ _ _, .bool _, .slice _ _ _]) H sz99 rfl rfl rfl rfl rfl (by omega) (fun s2 H => ?_)) | refine ops_on rfl (op_store2 (vs := [.int _ _, .int _ _, .int _ _, .bool _, .slice _ _ _, .bool _, .slice _ _ _, .bool _, .slice _ _ _, .bool _, .slice _ _ _]) H sz99 rfl rfl rfl rfl rfl (by omega) (fun s2 H => ?_)) | refine ops_on rfl (op_store3 (vs := [.int _ _, .int _ _, .int _ _, .bool _, .slice _ _ _, .bool _, .slice _ _ _, .bool _, .slice _ _ _, .bool _, .slice _ _ _]) H sz99 rfl rfl rfl rfl rfl (by omega) (fun s2 H => ?_)) | refine ops_on rfl (op_store4 (vs := [.int _ _, .int _ _, .int _ _, .bool _, .slice _ _ _, .bool _, .slice _ _ _, .bool _, .slice _ _ _, .bool _, .slice _ _ _]) H sz99 rfl rfl rfl rfl rfl (by omega) (fun s2 H => ?_)) | refine ops_on rfl (op_store0 H sz99 rfl rfl rfl rfl rfl (by omega) (fun s2 H => ?_)) | refine ops_on rfl (op_store1 H sz99 rfl rfl rfl rfl rfl (by omega) (fun s2 H => ?_)) | refine ops_on rfl (op_store2 H sz99 rfl rfl rfl rfl rfl (by omega) (fun s2 H => ?_)) | refine ops_on rfl (op_store3 H sz99 rfl rfl rfl rfl rfl (by omega) (fun s2 H => ?_)) | refine ops_on rfl (op_store4 H sz99 rfl rfl rfl rfl rfl (by omega) (fun s2 H => ?_))
    first | refine ops_on rfl (op_assignB rfl ?_) | refine ops_on rfl (op_assign ?_)
    refine ops_nil ?_
    refine cw_rseq ?_
    first | refine ops_on rfl (op_moveB rfl ?_) | refine ops_on rfl (op_move ?_)
    refine ops_nil ?_
    refine cw_else rfl ?_
    refine cw_skip ?_
    refine seq_norm ?_
    refine cw_rseq ?_
    first | refine ops_on rfl (op_build (c := [.int _ _, .int _ _, .int _ _, .bool _, .slice _ _ _, .bool _, .slice _ _ _, .bool _, .slice _ _ _, .bool _, .slice _ _ _]) bf99 rfl ?_) | refine ops_on rfl (op_build bf99 rfl ?_)
    refine ops_on rfl (op_alloc H zf99 (by omega) (fun b10 s3 H => ?_))
    first | refine ops_on rfl (op_store0 (vs := [.int _ _, .int _ _, .int _ _, .bool _, .slice _ _ _, .bool _, .slice _ _ _, .bool _, .slice _ _ _, .bool _, .slice _ _ _]) H sz99 rfl rfl rfl rfl rfl (by omega) (fun s4 H => ?_)) | refine ops_on rfl (op_store1 (vs := [.int _ _, .int _ _, .int _ _, .bool _, .slice _ _ _, .bool _, .slice _ _ _, .bool _, .slice _ _ _, .bool _, .slice _ _ _]) H sz99 rfl rfl rfl rfl rfl (by omega) (fun s4 H => ?_)) | refine ops_on rfl (op_store2 (vs := [.int _ _, .int _ _, .int _ _, .bool _, .slice _ _ _, .bool _, .slice _ _ _, .bool _, .slice _ _ _, .bool _, .slice _ _ _]) H sz99 rfl rfl rfl rfl rfl (by omega) (fun s4 H => ?_)) | refine ops_on rfl (op_store3 (vs := [.int _ _, .int _ _, .int _ _, .bool _, .slice _ _ _, .bool _, .slice _ _ _, .bool _, .slice _ _ _, .bool _, .slice _ _ _]) H sz99 rfl rfl rfl rfl rfl (by omega) (fun s4 H => ?_)) | refine ops_on rfl (op_store4 (vs := [.int _ _, .int _ _, .int _ _, .bool _, .slice _ _ _, .bool _, .slice _ _ _, .bool _, .slice _ _ _, .bool _, .slice _ _ _]) H sz99 rfl rfl rfl rfl rfl (by omega) (fun s4 H => ?_)) | refine ops_on rfl (op_store0 H sz99 rfl rfl rfl rfl rfl (by omega) (fun s4 H => ?_)) | refine ops_on rfl (op_store1 H sz99 rfl rfl rfl rfl rfl (by omega) (fun s4 H => ?_)) | refine ops_on rfl (op_store2 H sz99 rfl rfl rfl rfl rfl (by omega) (fun s4 H => ?_)) | refine ops_on rfl (op_store3 H sz99 rfl rfl rfl rfl rfl (by omega) (fun s4 H => ?_)) | refine ops_on rfl (op_store4 H sz99 rfl rfl rfl rfl rfl (by omega) (fun s4 H => ?_))
    refine ops_nil ?_
    refine cw_seq ?_
    refine cw_rseq ?_
    first | refine ops_on rfl (op_moveI rfl ?_) | refine ops_on rfl (op_move ?_)
    refine ops_on rfl (op_load1 sh24 rfl (by first | exact H.own0 | exact H.own1 | exact H.own2 | exact H.own3 | exact H.own4 | exact H.own5 | exact oldW H hst.gR hst.lK hst.gK | exact oldW H hst.gR hst.lJ hst.gJ | exact oldW H hst.gR hst.lB hst.gB | exact oldW H hst.gR hst.lM hst.gM | exact oldW H hst.gR hst.lF hst.gF | exact H.ownA | assumption) rfl ?_)
    refine ops_on rfl (op_load1 sh23 rfl (by first | exact H.own0 | exact H.own1 | exact H.own2 | exact H.own3 | exact H.own4 | exact H.own5 | exact oldW H hst.gR hst.lK hst.gK | exact oldW H hst.gR hst.lJ hst.gJ | exact oldW H hst.gR hst.lB hst.gB | exact oldW H hst.gR hst.lM hst.gM | exact oldW H hst.gR hst.lF hst.gF | exact H.ownA | assumption) rfl ?_)
    refine ops_on rfl (op_call rfl fc42 rfl ?_)
    obtain ⟨_, s9, hr, rfl, Hc⟩ := needs_ok (x := S) (bad := bad) hI H.fine (hst.sJ.keptW H hst.gR) hj hjl (by have := H.most; omega)
    refine ⟨_, _, hr, ?_⟩
    clear hr
    have H := H.call0 Hc
    clear Hc
    cases hnd : needsB S bad 0 js
    · refine ops_on rfl (op_not rfl ?_)
      refine ops_nil ?_
      refine cw_then rfl ?_
      refine cw_rseq ?_
      refine ops_on rfl (op_fieldAddr of99_0 rfl ?_)
      refine ops_on rfl (op_store0 (vs := [.int _ _]) H sz3 rfl rfl rfl rfl rfl (by omega) (fun s5 H => ?_))
      refine ops_nil ?_
      refine cw_rseq ?_
      refine ops_on rfl (op_load1 sh96 rfl (by first | exact H.own0 | exact H.own1 | exact H.own2 | exact H.own3 | exact H.own4 | exact H.own5 | exact oldW H hst.gR hst.lK hst.gK | exact oldW H hst.gR hst.lJ hst.gJ | exact oldW H hst.gR hst.lB hst.gB | exact oldW H hst.gR hst.lM hst.gM | exact oldW H hst.gR hst.lF hst.gF | exact H.ownA | assumption) rfl ?_)
      first | refine ops_on rfl (op_moveI rfl ?_) | refine ops_on rfl (op_move ?_)
      refine ops_on rfl (op_loadN sh99 rfl (by first | exact H.own0 | exact H.own1 | exact H.own2 | exact H.own3 | exact H.own4 | exact H.own5 | exact oldW H hst.gR hst.lK hst.gK | exact oldW H hst.gR hst.lJ hst.gJ | exact oldW H hst.gR hst.lB hst.gB | exact oldW H hst.gR hst.lM hst.gM | exact oldW H hst.gR hst.lF hst.gF | exact H.ownA | assumption) rfl ?_)
      refine ops_on rfl (op_update2 (e := ⟨S, 0, default⟩) H un96 un23 rfl rfl rfl hfe (by omega) (fun s34 H => ?_))
      refine ops_nil ?_
      refine cw_rseq ?_
      refine ops_on rfl (op_assignC ?_)
      refine ops_nil ?_
      refine cw_ret ?_
      refine seq_ret ?_
      refine ret_end ?_
      refine end_t ?_
      have hv : ((0 : Int), (default : Sp)) = bb js bad may S := by rw [bb_eq hm hS, if_neg (by rw [hnd]; simp)]
      refine ⟨E ++ [⟨S, 0, default⟩], ?_, (H.drop0.drop0).up (by omega), hg.add (e := ⟨S, 0, default⟩) (not_key hfe) hv (fun h => by rw [hnd] at h; cases h), by rw [keys_app]; simp [keysE], [⟨S, 0, default⟩], rfl, ?_, by simp; omega⟩
      · rw [← hv]
        rfl
      · intro e he
        rw [List.mem_singleton] at he
        subst he
        exact ⟨hS, Int.le_refl _⟩
    · refine ops_on rfl (op_not rfl ?_)
      refine ops_nil ?_
      refine cw_else rfl ?_
      refine cw_skip ?_
      refine seq_norm ?_
      refine cw_seq ?_
      refine cw_rseq ?_
      refine ops_on rfl (op_load1 sh25 rfl (by first | exact H.own0 | exact H.own1 | exact H.own2 | exact H.own3 | exact H.own4 | exact H.own5 | exact oldW H hst.gR hst.lK hst.gK | exact oldW H hst.gR hst.lJ hst.gJ | exact oldW H hst.gR hst.lB hst.gB | exact oldW H hst.gR hst.lM hst.gM | exact oldW H hst.gR hst.lF hst.gF | exact H.ownA | assumption) rfl ?_)
      refine ops_on rfl (op_len un25 rfl rfl rfl ?_)
      refine ops_on rfl (op_moveC ?_)
      refine ops_nil ?_
      refine cw_block ?_
      refine cw_loop (fun k F s1 => ∃ (G : FF) (i : Nat) (E1 X1 : List Ent) (acc : Int × Sp) (cnt : Nat), F = lay G [(0, .int .i64 S), (1, ptr bK), (2, ptr bJ), (3, ptr bB), (4, ptr bM), (5, ptr bF), (10, ptr b10), (35, .slice am may.length cm), (36, .int .i64 (may.length : Int)), (37, .int .i64 (i : Int))] ∧ HL [r] s s1 [(b10, .cells (.int .i64 acc.1 :: acc.2.cells) 99), (r, mapO E1)] cnt ∧ cnt ≤ 50 + i + tbs (tb may f) S (may.take i) ∧ Good js bad may E1 ∧ E1 = E ++ X1 ∧ (∀ e ∈ X1, 0 < e.k ∧ e.k < S) ∧ X1.length ≤ tbs (tb may f) S (may.take i) ∧ acc = (may.take i).foldl (stepB (fun y => (bb js bad may y).1) S) (65536, default) ∧ (∀ m ∈ may.take i, m.w = S → m.p ∈ keysE E1 ∧ andNotI S m.p ∈ keysE E1) ∧ i ≤ may.length ∧ k = may.length - i) ?_ may.length _ _ ?_
      · rintro k F s1 ⟨G, i, E1, X1, acc, cnt, rfl, H, hcnt, hg1, hE1, hX1, hXl, hacc, hcl, hi, rfl⟩
        have htk0 := tbs_le (may := may) (t := tb may f) (S := S) i
        refine cw_rseq ?_
        refine ops_on rfl (op_lss rfl rfl (fun h => ?_) (fun h => ?_))
        · refine ops_nil ?_
          refine cw_seq ?_
          refine cw_then rfl ?_
          refine cw_skip ?_
          refine seq_norm ?_
          refine cw_seq ?_
          refine cw_block ?_
          obtain ⟨bm, ofm, cmm, rfl, hgm, hbm, hcm⟩ := (hst.sM.keptW H hst.gR).atS rfl (show i < may.length by omega)
          refine cw_rseq ?_
          refine ops_on rfl (op_indexS el25 rfl rfl (by omega) (by omega) ?_)
          refine ops_on rfl (op_loadN sh62 rfl hgm hcm ?_)
          refine ops_on rfl (op_alloc H zf62 (by omega) (fun b12 s6 H => ?_))
          first | refine ops_on rfl (op_store0 (vs := [.int _ _, .int _ _, .bool _, .slice _ _ _, .bool _, .slice _ _ _, .bool _, .slice _ _ _, .bool _, .slice _ _ _]) H sz62 rfl rfl rfl rfl rfl (by omega) (fun s7 H => ?_)) | refine ops_on rfl (op_store1 (vs := [.int _ _, .int _ _, .bool _, .slice _ _ _, .bool _, .slice _ _ _, .bool _, .slice _ _ _, .bool _, .slice _ _ _]) H sz62 rfl rfl rfl rfl rfl (by omega) (fun s7 H => ?_)) | refine ops_on rfl (op_store2 (vs := [.int _ _, .int _ _, .bool _, .slice _ _ _, .bool _, .slice _ _ _, .bool _, .slice _ _ _, .bool _, .slice _ _ _]) H sz62 rfl rfl rfl rfl rfl (by omega) (fun s7 H => ?_)) | refine ops_on rfl (op_store3 (vs := [.int _ _, .int _ _, .bool _, .slice _ _ _, .bool _, .slice _ _ _, .bool _, .slice _ _ _, .bool _, .slice _ _ _]) H sz62 rfl rfl rfl rfl rfl (by omega) (fun s7 H => ?_)) | refine ops_on rfl (op_store4 (vs := [.int _ _, .int _ _, .bool _, .slice _ _ _, .bool _, .slice _ _ _, .bool _, .slice _ _ _, .bool _, .slice _ _ _]) H sz62 rfl rfl rfl rfl rfl (by omega) (fun s7 H => ?_)) | refine ops_on rfl (op_store0 H sz62 rfl rfl rfl rfl rfl (by omega) (fun s7 H => ?_)) | refine ops_on rfl (op_store1 H sz62 rfl rfl rfl rfl rfl (by omega) (fun s7 H => ?_)) | refine ops_on rfl (op_store2 H sz62 rfl rfl rfl rfl rfl (by omega) (fun s7 H => ?_)) | refine ops_on rfl (op_store3 H sz62 rfl rfl rfl rfl rfl (by omega) (fun s7 H => ?_)) | refine ops_on rfl (op_store4 H sz62 rfl rfl rfl rfl rfl (by omega) (fun s7 H => ?_))
          refine ops_nil ?_
          refine cw_seq ?_
          refine cw_rseq ?_
          refine ops_on rfl (op_fieldAddr of62_0 rfl ?_)
          refine ops_on rfl (op_load1 sh23 rfl (by first | exact H.own0 | exact H.own1 | exact H.own2 | exact H.own3 | exact H.own4 | exact H.own5 | exact oldW H hst.gR hst.lK hst.gK | exact oldW H hst.gR hst.lJ hst.gJ | exact oldW H hst.gR hst.lB hst.gB | exact oldW H hst.gR hst.lM hst.gM | exact oldW H hst.gR hst.lF hst.gF | exact H.ownA | assumption) rfl ?_)
          first | refine ops_on rfl (op_moveI rfl ?_) | refine ops_on rfl (op_move ?_)
          refine ops_on rfl (op_neq rfl rfl (fun h => ?_) (fun h => ?_))
          · refine ops_nil ?_
            refine cw_then rfl ?_
            refine cw_exit ?_
            refine seq_exit ?_
            refine blk_here ?_
            refine seq_norm ?_
            refine cw_region ?_
            refine ops_on rfl (op_add rfl rfl (by unfold In64; omega) ?_)
            first | refine ops_on rfl (op_moveI rfl ?_) | refine ops_on rfl (op_move ?_)
            refine ops_nil ?_
            refine loop_norm ?_
            refine ⟨may.length - (i + 1), by omega, _, i + 1, E1, X1, acc, _, slots ⟨rfl, rfl, rfl, rfl, rfl, rfl, rfl, rfl, rfl, rfl, trivial⟩, H.drop0, ?_, hg1, hE1, hX1, by rw [tbs_take (show i < may.length by omega), if_neg h]; omega, ?_, ?_, by omega, rfl⟩
            · rw [tbs_take (show i < may.length by omega), if_neg h]
              omega
            · rw [foldl_take (show i < may.length by omega), ← hacc, stepB, if_pos h]
            · intro m hmm hw
              rcases mem_take_succ (show i < may.length by omega) hmm with hmm | hmm
              · exact hcl m hmm hw
              · subst hmm; exact absurd hw h
          · refine ops_nil ?_
            refine cw_else rfl ?_
            refine cw_skip ?_
            refine seq_norm ?_
            have hxS : (may.getD i default).w = S := by simpa using h
            obtain ⟨hsp, hpb⟩ := hm (may.getD i default) (getD_mem (by omega))
            obtain ⟨hf1, hf2, hf3, hf4, hf5, hf6⟩ := split_facts hsp hpb
            rw [hxS] at hf2 hf3 hf4 hf5
            have htk := tbs_le (may := may) (t := tb may f) (S := S) (i + 1)
            rw [tbs_take (show i < may.length by omega), if_pos hxS] at htk
            have hr1 := bb_range (js := js) (bad := bad) (may := may) (may.getD i default).p
            have hr2 := bb_range (js := js) (bad := bad) (may := may) (andNotI S (may.getD i default).p)
            refine cw_dseq [⟨0, 0, .light, [2, 4, 7]⟩, ⟨1, 0, .light, [0, 4, 7]⟩, ⟨2, 2, .light, [0, 4, 7]⟩, ⟨4, 0, .light, [0, 2, 7]⟩, ⟨5, 0, .light, [0, 2, 4, 7]⟩, ⟨6, 0, .light, [0, 2, 4]⟩, ⟨7, 64, .light, [0, 2, 4]⟩, ⟨8, 224, .light, [0, 2, 4]⟩, ⟨3, 7, .whole, [4, 7]⟩, ⟨9, 511, .whole, []⟩, ⟨10, 1023, .light, []⟩, ⟨11, 2047, .light, []⟩] (by kernel_rfl) (by kernel_rfl) ?_
            refine dr_load1 rfl rfl sh97 rfl (by first | exact H.own0 | exact H.own1 | exact H.own2 | exact H.own3 | exact H.own4 | exact H.own5 | exact oldW H hst.gR hst.lK hst.gK | exact oldW H hst.gR hst.lJ hst.gJ | exact oldW H hst.gR hst.lB hst.gB | exact oldW H hst.gR hst.lM hst.gM | exact oldW H hst.gR hst.lF hst.gF | exact H.ownA | assumption) (by first | exact H.lim0 (by omega) | exact H.lim1 (by omega) | exact H.lim2 (by omega) | exact H.lim3 (by omega) | exact H.lim4 (by omega) | exact H.lim5 (by omega) | (have := hst.lF; omega) | (have := H.most; omega)) rfl ?_
            refine draw_light rfl rfl (op_fieldAddr of62_1 rfl ⟨rfl, ?_⟩)
            refine dr_load1 rfl rfl sh23 rfl (by first | exact H.own0 | exact H.own1 | exact H.own2 | exact H.own3 | exact H.own4 | exact H.own5 | exact oldW H hst.gR hst.lK hst.gK | exact oldW H hst.gR hst.lJ hst.gJ | exact oldW H hst.gR hst.lB hst.gB | exact oldW H hst.gR hst.lM hst.gM | exact oldW H hst.gR hst.lF hst.gF | exact H.ownA | assumption) (by first | exact H.lim0 (by omega) | exact H.lim1 (by omega) | exact H.lim2 (by omega) | exact H.lim3 (by omega) | exact H.lim4 (by omega) | exact H.lim5 (by omega) | (have := hst.lF; omega) | (have := H.most; omega)) rfl ?_
            refine dr_load1 rfl rfl sh97 rfl (by first | exact H.own0 | exact H.own1 | exact H.own2 | exact H.own3 | exact H.own4 | exact H.own5 | exact oldW H hst.gR hst.lK hst.gK | exact oldW H hst.gR hst.lJ hst.gJ | exact oldW H hst.gR hst.lB hst.gB | exact oldW H hst.gR hst.lM hst.gM | exact oldW H hst.gR hst.lF hst.gF | exact H.ownA | assumption) (by first | exact H.lim0 (by omega) | exact H.lim1 (by omega) | exact H.lim2 (by omega) | exact H.lim3 (by omega) | exact H.lim4 (by omega) | exact H.lim5 (by omega) | (have := hst.lF; omega) | (have := H.most; omega)) rfl ?_
            first | refine draw_light rfl rfl (op_moveI rfl ⟨rfl, ?_⟩) | refine draw_light rfl rfl (op_move ⟨rfl, ?_⟩)
            refine draw_light rfl rfl (op_fieldAddr of62_1 rfl ⟨rfl, ?_⟩)
            refine dr_load1 rfl rfl sh23 rfl (by first | exact H.own0 | exact H.own1 | exact H.own2 | exact H.own3 | exact H.own4 | exact H.own5 | exact oldW H hst.gR hst.lK hst.gK | exact oldW H hst.gR hst.lJ hst.gJ | exact oldW H hst.gR hst.lB hst.gB | exact oldW H hst.gR hst.lM hst.gM | exact oldW H hst.gR hst.lF hst.gF | exact H.ownA | assumption) (by first | exact H.lim0 (by omega) | exact H.lim1 (by omega) | exact H.lim2 (by omega) | exact H.lim3 (by omega) | exact H.lim4 (by omega) | exact H.lim5 (by omega) | (have := hst.lF; omega) | (have := H.most; omega)) rfl ?_
            refine draw_light rfl rfl (op_andNot rfl rfl ⟨rfl, ?_⟩)
            refine draw_whole rfl rfl (op_call rfl fc41 rfl ?_)
            have hrF : r ≠ bF := fun e => by have h1 := hst.gR; have h2 := hst.gF; rw [e, h2] at h1; cases h1
            have hd := H.dist
            simp only [List.pairwise_cons, List.mem_cons, List.not_mem_nil, or_false, forall_eq_or_imp, forall_eq, false_imp_iff, implies_true] at hd
            have h12 := H.lt0
            have hlF := hst.lF
            have hle := H.le
            obtain ⟨_, s9, hr, E2, rfl, Hc, hg2, hk2, X2, hX2, hX2b, hX2l⟩ := ih (may.getD i default).p hf1 (by omega) _ E1 (Fine.narrow (X := [bF, b12]) H.fine (by intro p hp; simp only [List.mem_cons, List.not_mem_nil, or_false] at hp; omega)) (OfSt.narrow (X := [bF, b12]) (hst.later H (by simp)) (by simp only [List.mem_cons, List.not_mem_nil, or_false]; omega)) hg1 (by have := H.most; show _ + _ ≤ _; simp only; omega)
            refine ⟨_, _, hr, ?_⟩
            clear hr
            have H := HL.callW (A := [(r, mapO E1)]) (L := [_, _]) (HL.swap (A := [_, _]) (B := [_]) H) (HL.wider H.fine (Nat.le_refl _) (fun _ h => List.mem_append_right _ h) Hc) (by intro b hb; rw [List.mem_singleton] at hb; subst hb; exact ⟨_, List.mem_singleton.mpr rfl⟩) (by intro p hp; rw [List.mem_singleton] at hp; subst hp; simp)
            clear Hc
            simp only [List.cons_append, List.nil_append] at H
            refine draw_whole rfl rfl (op_call rfl fc41 rfl ?_)
            obtain ⟨_, s9, hr, E3, rfl, Hc, hg3, hk3, X3, hX3, hX3b, hX3l⟩ := ih (andNotI S (may.getD i default).p) hf3 (by omega) _ E2 H.fine (hst.later H (by simp)) hg2 (by have := H.most; omega)
            refine ⟨_, _, hr, ?_⟩
            clear hr
            have H := HL.callW (A := [(r, mapO E2)]) (L := [_, _]) H (HL.wider H.fine (Nat.le_refl _) (fun _ h => h) Hc) (by intro b hb; rw [List.mem_singleton] at hb; subst hb; exact ⟨_, List.mem_singleton.mpr rfl⟩) (by intro p hp; rw [List.mem_singleton] at hp; subst hp; simp)
            clear Hc
            simp only [List.cons_append, List.nil_append] at H
            subst hX3
            subst hX2
            subst hE1
            rw [List.append_assoc, List.append_assoc] at H hg3 hk3
            first | refine draw_light rfl rfl (op_assignI rfl ⟨rfl, ?_⟩) | refine draw_light rfl rfl (op_assign ⟨rfl, ?_⟩)
            first | refine draw_light rfl rfl (op_assignI rfl ⟨rfl, ?_⟩) | refine draw_light rfl rfl (op_assign ⟨rfl, ?_⟩)
            refine draw_nil ?_
            refine cw_rseq ?_
            first | refine ops_on rfl (op_moveI rfl ?_) | refine ops_on rfl (op_move ?_)
            refine ops_on rfl (op_add rfl rfl (by unfold In64; omega) ?_)
            first | refine ops_on rfl (op_moveI rfl ?_) | refine ops_on rfl (op_move ?_)
            refine ops_on rfl (op_add rfl rfl (by unfold In64; omega) ?_)
            first | refine ops_on rfl (op_assignI rfl ?_) | refine ops_on rfl (op_assign ?_)
            refine ops_nil ?_
            refine cw_rseq ?_
            first | refine ops_on rfl (op_moveI rfl ?_) | refine ops_on rfl (op_move ?_)
            refine ops_on rfl (op_lss rfl rfl (fun h => ?_) (fun h => ?_))
            · first | refine ops_on rfl (op_moveB rfl ?_) | refine ops_on rfl (op_move ?_)
              first | refine ops_on rfl (op_moveI rfl ?_) | refine ops_on rfl (op_move ?_)
              refine ops_on rfl (op_lss rfl rfl (fun h => ?_) (fun h => ?_))
              · first | refine ops_on rfl (op_pick1B rfl rfl ?_) | refine ops_on rfl (op_pick1 rfl ?_)
                first | refine ops_on rfl (op_moveB rfl ?_) | refine ops_on rfl (op_move ?_)
                first | refine ops_on rfl (op_moveI rfl ?_) | refine ops_on rfl (op_move ?_)
                refine ops_on rfl (op_fieldAddr of99_0 rfl ?_)
                refine ops_on rfl (op_load1 sh3 rfl (by first | exact H.own0 | exact H.own1 | exact H.own2 | exact H.own3 | exact H.own4 | exact H.own5 | exact oldW H hst.gR hst.lK hst.gK | exact oldW H hst.gR hst.lJ hst.gJ | exact oldW H hst.gR hst.lB hst.gB | exact oldW H hst.gR hst.lM hst.gM | exact oldW H hst.gR hst.lF hst.gF | exact H.ownA | assumption) rfl ?_)
                refine ops_on rfl (op_lss rfl rfl (fun h => ?_) (fun h => ?_))
                · first | refine ops_on rfl (op_pick1B rfl rfl ?_) | refine ops_on rfl (op_pick1 rfl ?_)
                  refine ops_nil ?_
                  refine cw_then rfl ?_
                  refine cw_region ?_
                  first | refine ops_on rfl (op_moveI rfl ?_) | refine ops_on rfl (op_move ?_)
                  refine ops_on rfl (op_loadN sh62 rfl (by first | exact H.own0 | exact H.own1 | exact H.own2 | exact H.own3 | exact H.own4 | exact H.own5 | exact oldW H hst.gR hst.lK hst.gK | exact oldW H hst.gR hst.lJ hst.gJ | exact oldW H hst.gR hst.lB hst.gB | exact oldW H hst.gR hst.lM hst.gM | exact oldW H hst.gR hst.lF hst.gF | exact H.ownA | assumption) rfl ?_)
                  first | refine ops_on rfl (op_build (c := [.int _ _, .int _ _, .int _ _, .bool _, .slice _ _ _, .bool _, .slice _ _ _, .bool _, .slice _ _ _, .bool _, .slice _ _ _]) bf99 rfl ?_) | refine ops_on rfl (op_build bf99 rfl ?_)
                  refine ops_on rfl (op_store2 (vs := [.int _ _, .int _ _, .int _ _, .bool _, .slice _ _ _, .bool _, .slice _ _ _, .bool _, .slice _ _ _, .bool _, .slice _ _ _]) H sz99 rfl rfl rfl rfl rfl (by omega) (fun s8 H => ?_))
                  refine ops_nil ?_
                  refine blk_norm ?_
                  refine seq_norm ?_
                  refine cw_region ?_
                  refine ops_on rfl (op_add rfl rfl (by unfold In64; omega) ?_)
                  first | refine ops_on rfl (op_moveI rfl ?_) | refine ops_on rfl (op_move ?_)
                  refine ops_nil ?_
                  refine loop_norm ?_
                  refine ⟨may.length - (i + 1), by omega, _, i + 1, E ++ (X1 ++ (X2 ++ X3)), X1 ++ (X2 ++ X3), (1 + (bb js bad may (may.getD i default).p).1 + (bb js bad may (andNotI S (may.getD i default).p)).1, (may.getD i default)), _, slots ⟨rfl, rfl, rfl, rfl, rfl, rfl, rfl, rfl, rfl, rfl, trivial⟩, (HL.swap (A := [_]) (B := [_]) H.drop1), ?_, hg3, rfl, ?_, by rw [tbs_take (show i < may.length by omega), if_pos hxS]; simp only [List.length_append]; omega, ?_, ?_, by omega, rfl⟩
                  · rw [tbs_take (show i < may.length by omega), if_pos hxS]
                    omega
                  · intro e he
                    rcases List.mem_append.mp he with he | he
                    · exact hX1 e he
                    · rcases List.mem_append.mp he with he | he
                      · have := hX2b e he; omega
                      · have := hX3b e he; omega
                  · rw [foldl_take (show i < may.length by omega), ← hacc, stepB, if_neg (by simpa using hxS)]
                    rw [if_pos ⟨by assumption, by assumption, by assumption⟩]
                  · intro m hmm hw
                    rcases mem_take_succ (show i < may.length by omega) hmm with hmm | hmm
                    · obtain ⟨q1, q2⟩ := hcl m hmm hw
                      rw [← List.append_assoc, keys_app]
                      exact ⟨List.mem_append_left _ q1, List.mem_append_left _ q2⟩
                    · subst hmm
                      refine ⟨?_, hk3⟩
                      rw [← List.append_assoc, ← List.append_assoc, keys_app]
                      exact List.mem_append_left _ hk2
                · first | refine ops_on rfl (op_pick1B rfl rfl ?_) | refine ops_on rfl (op_pick1 rfl ?_)
                  refine ops_nil ?_
                  refine cw_else rfl ?_
                  refine cw_skip ?_
                  refine blk_norm ?_
                  refine seq_norm ?_
                  refine cw_region ?_
                  refine ops_on rfl (op_add rfl rfl (by unfold In64; omega) ?_)
                  first | refine ops_on rfl (op_moveI rfl ?_) | refine ops_on rfl (op_move ?_)
                  refine ops_nil ?_
                  refine loop_norm ?_
                  refine ⟨may.length - (i + 1), by omega, _, i + 1, E ++ (X1 ++ (X2 ++ X3)), X1 ++ (X2 ++ X3), acc, _, slots ⟨rfl, rfl, rfl, rfl, rfl, rfl, rfl, rfl, rfl, rfl, trivial⟩, (HL.swap (A := [_]) (B := [_]) H.drop1), ?_, hg3, rfl, ?_, by rw [tbs_take (show i < may.length by omega), if_pos hxS]; simp only [List.length_append]; omega, ?_, ?_, by omega, rfl⟩
                  · rw [tbs_take (show i < may.length by omega), if_pos hxS]
                    omega
                  · intro e he
                    rcases List.mem_append.mp he with he | he
                    · exact hX1 e he
                    · rcases List.mem_append.mp he with he | he
                      · have := hX2b e he; omega
                      · have := hX3b e he; omega
                  · rw [foldl_take (show i < may.length by omega), ← hacc, stepB, if_neg (by simpa using hxS)]
                    rw [if_neg (fun hh => by first | exact absurd hh.1 (by assumption) | exact absurd hh.2.1 (by assumption) | exact absurd hh.2.2 (by assumption))]
                  · intro m hmm hw
                    rcases mem_take_succ (show i < may.length by omega) hmm with hmm | hmm
                    · obtain ⟨q1, q2⟩ := hcl m hmm hw
                      rw [← List.append_assoc, keys_app]
                      exact ⟨List.mem_append_left _ q1, List.mem_append_left _ q2⟩
                    · subst hmm
                      refine ⟨?_, hk3⟩
                      rw [← List.append_assoc, ← List.append_assoc, keys_app]
                      exact List.mem_append_left _ hk2
              · first | refine ops_on rfl (op_pick1B rfl rfl ?_) | refine ops_on rfl (op_pick1 rfl ?_)
                first | refine ops_on rfl (op_moveB rfl ?_) | refine ops_on rfl (op_move ?_)
                refine ops_off rfl ?_
                refine ops_off rfl ?_
                refine ops_off rfl ?_
                refine ops_off rfl ?_
                refine ops_on rfl (op_pick0C rfl ?_)
                refine ops_nil ?_
                refine cw_else rfl ?_
                refine cw_skip ?_
                refine blk_norm ?_
                refine seq_norm ?_
                refine cw_region ?_
                refine ops_on rfl (op_add rfl rfl (by unfold In64; omega) ?_)
                first | refine ops_on rfl (op_moveI rfl ?_) | refine ops_on rfl (op_move ?_)
                refine ops_nil ?_
                refine loop_norm ?_
                refine ⟨may.length - (i + 1), by omega, _, i + 1, E ++ (X1 ++ (X2 ++ X3)), X1 ++ (X2 ++ X3), acc, _, slots ⟨rfl, rfl, rfl, rfl, rfl, rfl, rfl, rfl, rfl, rfl, trivial⟩, (HL.swap (A := [_]) (B := [_]) H.drop1), ?_, hg3, rfl, ?_, by rw [tbs_take (show i < may.length by omega), if_pos hxS]; simp only [List.length_append]; omega, ?_, ?_, by omega, rfl⟩
                · rw [tbs_take (show i < may.length by omega), if_pos hxS]
                  omega
                · intro e he
                  rcases List.mem_append.mp he with he | he
                  · exact hX1 e he
                  · rcases List.mem_append.mp he with he | he
                    · have := hX2b e he; omega
                    · have := hX3b e he; omega
                · rw [foldl_take (show i < may.length by omega), ← hacc, stepB, if_neg (by simpa using hxS)]
                  rw [if_neg (fun hh => by first | exact absurd hh.1 (by assumption) | exact absurd hh.2.1 (by assumption) | exact absurd hh.2.2 (by assumption))]
                · intro m hmm hw
                  rcases mem_take_succ (show i < may.length by omega) hmm with hmm | hmm
                  · obtain ⟨q1, q2⟩ := hcl m hmm hw
                    rw [← List.append_assoc, keys_app]
                    exact ⟨List.mem_append_left _ q1, List.mem_append_left _ q2⟩
                  · subst hmm
                    refine ⟨?_, hk3⟩
                    rw [← List.append_assoc, ← List.append_assoc, keys_app]
                    exact List.mem_append_left _ hk2
            · first | refine ops_on rfl (op_moveB rfl ?_) | refine ops_on rfl (op_move ?_)
              refine ops_off rfl ?_
              refine ops_off rfl ?_
              refine ops_on rfl (op_pick0C rfl ?_)
              first | refine ops_on rfl (op_moveB rfl ?_) | refine ops_on rfl (op_move ?_)
              refine ops_off rfl ?_
              refine ops_off rfl ?_
              refine ops_off rfl ?_
              refine ops_off rfl ?_
              refine ops_on rfl (op_pick0C rfl ?_)
              refine ops_nil ?_
              refine cw_else rfl ?_
              refine cw_skip ?_
              refine blk_norm ?_
              refine seq_norm ?_
              refine cw_region ?_
              refine ops_on rfl (op_add rfl rfl (by unfold In64; omega) ?_)
              first | refine ops_on rfl (op_moveI rfl ?_) | refine ops_on rfl (op_move ?_)
              refine ops_nil ?_
              refine loop_norm ?_
              refine ⟨may.length - (i + 1), by omega, _, i + 1, E ++ (X1 ++ (X2 ++ X3)), X1 ++ (X2 ++ X3), acc, _, slots ⟨rfl, rfl, rfl, rfl, rfl, rfl, rfl, rfl, rfl, rfl, trivial⟩, (HL.swap (A := [_]) (B := [_]) H.drop1), ?_, hg3, rfl, ?_, by rw [tbs_take (show i < may.length by omega), if_pos hxS]; simp only [List.length_append]; omega, ?_, ?_, by omega, rfl⟩
              · rw [tbs_take (show i < may.length by omega), if_pos hxS]
                omega
              · intro e he
                rcases List.mem_append.mp he with he | he
                · exact hX1 e he
                · rcases List.mem_append.mp he with he | he
                  · have := hX2b e he; omega
                  · have := hX3b e he; omega
              · rw [foldl_take (show i < may.length by omega), ← hacc, stepB, if_neg (by simpa using hxS)]
                rw [if_neg (fun hh => by first | exact absurd hh.1 (by assumption) | exact absurd hh.2.1 (by assumption) | exact absurd hh.2.2 (by assumption))]
              · intro m hmm hw
                rcases mem_take_succ (show i < may.length by omega) hmm with hmm | hmm
                · obtain ⟨q1, q2⟩ := hcl m hmm hw
                  rw [← List.append_assoc, keys_app]
                  exact ⟨List.mem_append_left _ q1, List.mem_append_left _ q2⟩
                · subst hmm
                  refine ⟨?_, hk3⟩
                  rw [← List.append_assoc, ← List.append_assoc, keys_app]
                  exact List.mem_append_left _ hk2
        · refine ops_nil ?_
          refine cw_seq ?_
          refine cw_else rfl ?_
          refine cw_exit ?_
          refine seq_exit ?_
          refine loop_exit ?_
          refine blk_here ?_
          refine seq_norm ?_
          have hnf : findE E1 S = none := by
            refine find_none_of fun hk => ?_
            rw [hE1, keys_app, List.mem_append] at hk
            rcases hk with hk | hk
            · exact not_key hfe hk
            · obtain ⟨e, he, hek⟩ := List.mem_map.mp hk
              have := hX1 e he
              omega
          refine cw_rseq ?_
          refine ops_on rfl (op_load1 sh96 rfl (by first | exact H.own0 | exact H.own1 | exact H.own2 | exact H.own3 | exact H.own4 | exact H.own5 | exact oldW H hst.gR hst.lK hst.gK | exact oldW H hst.gR hst.lJ hst.gJ | exact oldW H hst.gR hst.lB hst.gB | exact oldW H hst.gR hst.lM hst.gM | exact oldW H hst.gR hst.lF hst.gF | exact H.ownA | assumption) rfl ?_)
          first | refine ops_on rfl (op_moveI rfl ?_) | refine ops_on rfl (op_move ?_)
          refine ops_on rfl (op_loadN sh99 rfl (by first | exact H.own0 | exact H.own1 | exact H.own2 | exact H.own3 | exact H.own4 | exact H.own5 | exact oldW H hst.gR hst.lK hst.gK | exact oldW H hst.gR hst.lJ hst.gJ | exact oldW H hst.gR hst.lB hst.gB | exact oldW H hst.gR hst.lM hst.gM | exact oldW H hst.gR hst.lF hst.gF | exact H.ownA | assumption) rfl ?_)
          refine ops_on rfl (op_update1 (e := ⟨S, acc.1, acc.2⟩) H un96 un23 rfl rfl rfl hnf (by have := tbs_le (may := may) (t := tb may f) (S := S) i; omega) (fun s77 H => ?_))
          refine ops_nil ?_
          refine cw_rseq ?_
          refine ops_on rfl (op_fieldAddr of99_0 rfl ?_)
          refine ops_on rfl (op_load1 sh3 rfl (by first | exact H.own0 | exact H.own1 | exact H.own2 | exact H.own3 | exact H.own4 | exact H.own5 | exact oldW H hst.gR hst.lK hst.gK | exact oldW H hst.gR hst.lJ hst.gJ | exact oldW H hst.gR hst.lB hst.gB | exact oldW H hst.gR hst.lM hst.gM | exact oldW H hst.gR hst.lF hst.gF | exact H.ownA | assumption) rfl ?_)
          first | refine ops_on rfl (op_assignI rfl ?_) | refine ops_on rfl (op_assign ?_)
          refine ops_nil ?_
          refine cw_ret ?_
          refine ret_end ?_
          refine end_t ?_
          have hi2 : i = may.length := by omega
          rw [hi2, List.take_length] at hacc hcl
          have hv : (acc.1, acc.2) = bb js bad may S := by rw [bb_eq hm hS, if_pos hnd, ← hacc]
          refine ⟨E1 ++ [⟨S, acc.1, acc.2⟩], ?_, H.drop0.up (by have := tbs_le (may := may) (t := tb may f) (S := S) i; omega), hg1.add (e := ⟨S, acc.1, acc.2⟩) (not_key hnf) hv (fun _ m hmm hw => hcl m hmm hw), by rw [keys_app]; simp [keysE], X1 ++ [⟨S, acc.1, acc.2⟩], by rw [hE1, List.append_assoc], ?_, by have := tbs_le (may := may) (t := tb may f) (S := S) i; simp only [List.length_append, List.length_singleton]; omega⟩
          · rw [← hv]
            rfl
          · intro e he
            rcases List.mem_append.mp he with he | he
            · have := hX1 e he; omega
            · rw [List.mem_singleton] at he
              subst he
              exact ⟨hS, Int.le_refl _⟩
      · refine ⟨_, 0, E, [], (65536, default), _, slots ⟨rfl, rfl, rfl, rfl, rfl, rfl, rfl, rfl, rfl, rfl, trivial⟩, H.drop1, by simp [tbs], hg, by simp, (by intro e he; cases he), by simp, rfl, (by intro m hmm; simp at hmm), by omega, by omega⟩
  · refine cw_rseq ?_
    refine ops_on rfl (op_load1 sh96 rfl (by first | exact H.own0 | exact H.own1 | exact H.own2 | exact H.own3 | exact H.own4 | exact H.own5 | exact oldW H hst.gR hst.lK hst.gK | exact oldW H hst.gR hst.lJ hst.gJ | exact oldW H hst.gR hst.lB hst.gB | exact oldW H hst.gR hst.lM hst.gM | exact oldW H hst.gR hst.lF hst.gF | exact H.ownA | assumption) rfl ?_)
    first | refine ops_on rfl (op_moveI rfl ?_) | refine ops_on rfl (op_move ?_)
    refine ops_on rfl (op_lookupSome (e := e) un96 un23 rfl rfl H.own0 hfe ?_)
    first | refine ops_on rfl (op_moveT rfl ?_) | refine ops_on rfl (op_move ?_)
    refine ops_on rfl (op_extract rfl rfl ?_)
    refine ops_on rfl (op_extract rfl rfl ?_)
    refine ops_on rfl (op_alloc H zf99 (by omega) (fun b8 s9 H => ?_))
    first | refine ops_on rfl (op_store0 (vs := [.int _ _, .int _ _, .int _ _, .bool _, .slice _ _ _, .bool _, .slice _ _ _, .bool _, .slice _ _ _, .bool _, .slice _ _ _]) H sz99 rfl rfl rfl rfl rfl (by omega) (fun s10 H => ?_)) | refine ops_on rfl (op_store1 (vs := [.int _ _, .int _ _, .int _ _, .bool _, .slice _ _ _, .bool _, .slice _ _ _, .bool _, .slice _ _ _, .bool _, .slice _ _ _]) H sz99 rfl rfl rfl rfl rfl (by omega) (fun s10 H => ?_)) | refine ops_on rfl (op_store2 (vs := [.int _ _, .int _ _, .int _ _, .bool _, .slice _ _ _, .bool _, .slice _ _ _, .bool _, .slice _ _ _, .bool _, .slice _ _ _]) H sz99 rfl rfl rfl rfl rfl (by omega) (fun s10 H => ?_)) | refine ops_on rfl (op_store3 (vs := [.int _ _, .int _ _, .int _ _, .bool _, .slice _ _ _, .bool _, .slice _ _ _, .bool _, .slice _ _ _, .bool _, .slice _ _ _]) H sz99 rfl rfl rfl rfl rfl (by omega) (fun s10 H => ?_)) | refine ops_on rfl (op_store4 (vs := [.int _ _, .int _ _, .int _ _, .bool _, .slice _ _ _, .bool _, .slice _ _ _, .bool _, .slice _ _ _, .bool _, .slice _ _ _]) H sz99 rfl rfl rfl rfl rfl (by omega) (fun s10 H => ?_)) | refine ops_on rfl (op_store0 H sz99 rfl rfl rfl rfl rfl (by omega) (fun s10 H => ?_)) | refine ops_on rfl (op_store1 H sz99 rfl rfl rfl rfl rfl (by omega) (fun s10 H => ?_)) | refine ops_on rfl (op_store2 H sz99 rfl rfl rfl rfl rfl (by omega) (fun s10 H => ?_)) | refine ops_on rfl (op_store3 H sz99 rfl rfl rfl rfl rfl (by omega) (fun s10 H => ?_)) | refine ops_on rfl (op_store4 H sz99 rfl rfl rfl rfl rfl (by omega) (fun s10 H => ?_))
    first | refine ops_on rfl (op_assignB rfl ?_) | refine ops_on rfl (op_assign ?_)
    refine ops_nil ?_
    refine cw_rseq ?_
    first | refine ops_on rfl (op_moveB rfl ?_) | refine ops_on rfl (op_move ?_)
    refine ops_nil ?_
    refine cw_then rfl ?_
    refine cw_rseq ?_
    refine ops_on rfl (op_fieldAddr of99_0 rfl ?_)
    refine ops_on rfl (op_load1 sh3 rfl (by first | exact H.own0 | exact H.own1 | exact H.own2 | exact H.own3 | exact H.own4 | exact H.own5 | exact oldW H hst.gR hst.lK hst.gK | exact oldW H hst.gR hst.lJ hst.gJ | exact oldW H hst.gR hst.lB hst.gB | exact oldW H hst.gR hst.lM hst.gM | exact oldW H hst.gR hst.lF hst.gF | exact H.ownA | assumption) rfl ?_)
    first | refine ops_on rfl (op_assignI rfl ?_) | refine ops_on rfl (op_assign ?_)
    refine ops_nil ?_
    refine cw_ret ?_
    refine seq_ret ?_
    refine ret_end ?_
    refine end_t ?_
    obtain ⟨he1, he2⟩ := of_find hfe
    have hv := hg.val e he1
    rw [he2] at hv
    refine ⟨E, ?_, H.drop0.up (by omega), hg, key_of_find hfe, [], by simp, (by intro e he; cases he), by simp⟩
    show Value.int .i64 e.n = _
    rw [← hv]

theorem of_ok {I : Table} (hI : Plain I) {js : List (Int × Int)} {bad : Int} {may : List Sp} (hj : ∀ j ∈ js, joinB j) (hjl : js.length ≤ 16) (hm : MayOK may) (hml : may.length ≤ 4096) {r bK bJ bB bM bF : Nat} {vj vm : Value} : ∀ f, OfC I js bad may r bK bJ bB bM bF vj vm f
  | 0 => fun S _ h => by omega
  | f + 1 => of_step hI hj hjl hm hml (of_ok hI hj hjl hm hml f)

end Go.Proofs.YtdejleegamcioaaGreat
namespace Go.Proofs.YtdejleegamcioaaGreat
open Go Go.M
section
variable {js : List (Int × Int)} {bad : Int} {may : List Sp}
theorem fold_from {v : Int → Int} {S : Int} : ∀ (l : List Sp) (acc : Int × Sp), l.foldl (stepB v S) acc = acc ∨ ∃ m ∈ l, m.w = S ∧ v m.p < 65536 ∧ v (andNotI S m.p) < 65536 ∧ l.foldl (stepB v S) acc = (1 + v m.p + v (andNotI S m.p), m)
  | [], acc => .inl rfl
  | m :: l, acc => by
    simp only [List.foldl_cons]
    rcases fold_from l (stepB v S acc m) with h | ⟨x, hx, h⟩
    · rw [h]
      unfold stepB
      by_cases hw : m.w = S
      · rw [if_neg (by simpa using hw)]
        split
        · next hc => exact .inr ⟨m, by simp, hw, hc.1, hc.2.1, rfl⟩
        · exact .inl rfl
      · rw [if_pos hw]; exact .inl rfl
    · exact .inr ⟨x, by simp [hx], h⟩
theorem bb_split (hm : MayOK may) {S : Int} (h0 : 0 < S) (h1 : 0 < (bb js bad may S).1) (h2 : (bb js bad may S).1 < 65536) : needsB S bad 0 js = true ∧ (bb js bad may S).2 ∈ may ∧ (bb js bad may S).2.w = S ∧ (bb js bad may (bb js bad may S).2.p).1 < 65536 ∧ (bb js bad may (andNotI S (bb js bad may S).2.p)).1 < 65536 ∧
    (bb js bad may S).1 = 1 + (bb js bad may (bb js bad may S).2.p).1 + (bb js bad may (andNotI S (bb js bad may S).2.p)).1 := by
  have he := bb_eq (js := js) (bad := bad) hm h0
  by_cases hn : needsB S bad 0 js = true
  · rw [if_pos hn] at he
    rcases fold_from (v := fun x => (bb js bad may x).1) (S := S) may (65536, default) with h | ⟨m, hmm, hw, ha, hb, h⟩
    · rw [he, h] at h2; simp at h2
    · rw [h] at he
      rw [he]
      exact ⟨hn, hmm, hw, ha, hb, rfl⟩
  · rw [if_neg hn] at he
    rw [he] at h1
    simp at h1
/-- The splits, one after the other. -/
def tk (js : List (Int × Int)) (bad : Int) (may : List Sp) : Nat → Int → List Sp
  | 0, _ => []
  | f + 1, S => if 0 < (bb js bad may S).1 then (bb js bad may S).2 :: (tk js bad may f (bb js bad may S).2.p ++ tk js bad may f (andNotI S (bb js bad may S).2.p)) else []
end
abbrev keysH (D : Hp') : List Nat := D.map (·.1)
/-- What 'take' sees. -/
structure TkSt (s : St) (r bK bO bT : Nat) (E : List Ent) (D : Hp') (so : Slc) (l : List Sp) : Prop where
  gK : s.get bK = some (.cells [.map (some r)] 96)
  lK : bK < s.next
  gT : s.get bT = some (.cells [.func (.func 44) #[] #[ptr bK, ptr bO, ptr bT]] 103)
  lT : bT < s.next
  gR : s.get r = some (mapO E)
  lR : r < s.next
  own : ∀ p, p ∈ ((bO, .cells [so.v] 25) :: D : Hp') → s.get p.1 = some p.2 ∧ p.1 < s.next ∧ s.may p.1 = true
  dist : ((bO, .cells [so.v] 25) :: D : Hp').Pairwise fun p q => p.1 ≠ q.1
  isO : Own 62 10 D so.v (spsC l) l.length
section
variable {s s' : St} {r bK bO bT : Nat} {E : List Ent} {D D' : Hp'} {so so' : Slc} {l l' : List Sp} {L : Hp'} {n : Nat}
theorem TkSt.elem (h : TkSt s r bK bO bT E D so l) {p : Nat × MObj} (hp : p ∈ ((bO, .cells [so.v] 25) :: D : Hp')) : ∃ c e, p.2 = .cells c e ∧ (e = 25 ∨ e = 62) := by
  rcases List.mem_cons.mp hp with rfl | hp
  · exact ⟨_, _, rfl, .inl rfl⟩
  · have ho := h.isO
    generalize spsC l = cc at ho
    generalize l.length = ll at ho
    generalize so.v = vv at ho
    cases ho with
    | nil => cases hp
    | block b cap c len hl hcap =>
      rw [List.mem_singleton] at hp
      subst hp
      exact ⟨_, _, rfl, .inr rfl⟩
theorem TkSt.notin (h : TkSt s r bK bO bT E D so l) {b : Nat} {o : MObj} (hg : s.get b = some o) (ho : ∀ c, o ≠ .cells c 25 ∧ o ≠ .cells c 62) : b ∉ bO :: keysH D := by
  intro hb
  have : b ∈ keysH ((bO, .cells [so.v] 25) :: D) := by simpa using hb
  obtain ⟨p, hp, rfl⟩ := List.mem_map.mp this
  have h1 := (h.own p hp).1
  rw [hg, Option.some.injEq] at h1
  obtain ⟨c, e, h2, h3⟩ := h.elem hp
  rw [h2] at h1
  rcases h3 with rfl | rfl
  · exact (ho c).1 h1
  · exact (ho c).2 h1
theorem TkSt.oldK (h : TkSt s r bK bO bT E D so l) (H : HL (bO :: keysH D) s s' L n) : s'.get bK = some (.cells [.map (some r)] 96) := by
  rw [H.kept _ h.lK (h.notin h.gK (by intro c; constructor <;> simp))]; exact h.gK
theorem TkSt.oldT (h : TkSt s r bK bO bT E D so l) (H : HL (bO :: keysH D) s s' L n) : s'.get bT = some (.cells [.func (.func 44) #[] #[ptr bK, ptr bO, ptr bT]] 103) := by
  rw [H.kept _ h.lT (h.notin h.gT (by intro c; constructor <;> simp))]; exact h.gT
theorem TkSt.oldR (h : TkSt s r bK bO bT E D so l) (H : HL (bO :: keysH D) s s' L n) : s'.get r = some (mapO E) := by
  rw [H.kept _ h.lR (h.notin h.gR (by intro c; constructor <;> simp [mapO]))]; exact h.gR
theorem TkSt.hl (h : TkSt s r bK bO bT E D so l) (hf : Fine s) : HL (bO :: keysH D) s s ((bO, .cells [so.v] 25) :: D) 0 :=
  ⟨rfl, rfl, hf.wfb, hf.wfp, Nat.le_refl _, Nat.le_refl _, fun p hp => ⟨(h.own p hp).1, (h.own p hp).2.1, (h.own p hp).2.2, .inr (by
    have : p.1 ∈ keysH ((bO, .cells [so.v] 25) :: D) := List.mem_map.mpr ⟨p, hp, rfl⟩
    simpa using this)⟩, h.dist, fun _ _ _ => rfl⟩
theorem TkSt.later (h : TkSt s r bK bO bT E D so l) (H : HL (bO :: keysH D) s s' L n) (hs : ((bO, .cells [so'.v] 25) :: D').Sublist L) (ho : Own 62 10 D' so'.v (spsC l') l'.length) : TkSt s' r bK bO bT E D' so' l' := by
  have hle := H.le
  refine ⟨h.oldK H, by have := h.lK; omega, h.oldT H, by have := h.lT; omega, h.oldR H, by have := h.lR; omega, fun p hp => ?_, H.dist.sublist hs, ho⟩
  obtain ⟨h1, h2, h3, _⟩ := H.own p (hs.subset hp)
  exact ⟨h1, h2, h3⟩
end
end Go.Proofs.YtdejleegamcioaaGreat
namespace Go.Proofs.YtdejleegamcioaaGreat
open Go Go.M

theorem fb44 : funcB Tryz.f44 (Tryz.f44.body.getD .skip) 4 = true := by kernel_rfl
theorem fc44 : funcF Tryz.prog 44 = true := by kernel_rfl
theorem of99_1 : offF Tryz.prog 99 1 = some 1 := by kernel_rfl
theorem sh103 : shapeOf Tryz.prog 103 = some (none) := by kernel_rfl

def TkC (I : Table) (js : List (Int × Int)) (bad : Int) (may : List Sp) (r bK bO bT : Nat) (E : List Ent) (f : Nat) : Prop :=
  ∀ (S : Int), 0 < S → S.toNat < f → S ∈ keysE E → (bb js bad may S).1 < 65536 → ∀ (s : St) (D : Hp') (so : Slc) (l : List Sp), Fine s → TkSt s r bK bO bT E D so l → (l.length : Int) + (bb js bad may S).1 ≤ 70000 → s.next + 3 * (2 * (bb js bad may S).1.toNat + 1) ≤ limit →
    ∃ v' s', Rets Tryz.prog I 44 #[.int .i64 S, ptr bK, ptr bO, ptr bT] s v' s' ∧ (∃ D' so', v' = .tuple ⟨[]⟩ ∧ HL (bO :: keysH D) s s' ((bO, .cells [Slc.v so'] 25) :: D') (3 * (2 * (bb js bad may S).1.toNat + 1)) ∧ Own 62 10 D' so'.v (spsC (l ++ tk js bad may f S)) (l ++ tk js bad may f S).length)
theorem tk_len {js : List (Int × Int)} {bad : Int} {may : List Sp} (hm : MayOK may) : ∀ (f : Nat) (S : Int), 0 < S → S.toNat < f → (bb js bad may S).1 < 65536 → ((tk js bad may f S).length : Int) = (bb js bad may S).1
  | 0, S, _, h, _ => by omega
  | f + 1, S, h0, h1, h2 => by
    have hr := bb_range (js := js) (bad := bad) (may := may) S
    simp only [tk]
    split
    · next hp =>
      obtain ⟨hn, hx, hw, ha, hb, he⟩ := bb_split hm h0 hp h2
      obtain ⟨hs, hpb⟩ := hm _ hx
      obtain ⟨q1, q2, q3, q4, q5, q6⟩ := split_facts hs hpb
      rw [hw] at q2 q3 q4
      have i1 := tk_len hm f (bb js bad may S).2.p q1 (by omega) ha
      have i2 := tk_len hm f (andNotI S (bb js bad may S).2.p) q3 (by omega) hb
      simp only [List.length_cons, List.length_append]
      omega
    · simp only [List.length_nil]; omega
theorem ptr_ne {s : St} {b b' : Nat} {o o' : MObj} (h1 : s.get b = some o) (h2 : s.get b' = some o') (hne : o ≠ o') : b ≠ b' := fun e => by
  rw [e, h2, Option.some.injEq] at h1
  exact hne h1.symm

set_option maxHeartbeats 4000000 in
set_option maxRecDepth 10000 in
theorem take_step {I : Table} (hI : Plain I) {js : List (Int × Int)} {bad : Int} {may : List Sp} (hm : MayOK may) {r bK bO bT : Nat} {E : List Ent} (hg : Good js bad may E) {f : Nat} (ih : TkC I js bad may r bK bO bT E f) : TkC I js bad may r bK bO bT E (f + 1) := by
  intro S hS hSf hSE hS6 s D so l hf hst hln hroom
  have H := hst.hl hf
  have hrg := bb_range (js := js) (bad := bad) (may := may) S
  obtain ⟨e, hfe⟩ := find_of_key hSE
  obtain ⟨he1, he2⟩ := of_find hfe
  have hv := hg.val e he1
  rw [he2] at hv
  have hvn : e.n = (bb js bad may S).1 := by rw [← hv]
  have hvx : e.x = (bb js bad may S).2 := by rw [← hv]
  obtain ⟨soa, son, soc⟩ := so
  refine call_of 4 (hI 44 (by decide) (by decide)) Tryz.func44 rfl fb44 rfl ?_
  refine cw_rseq ?_
  refine ops_on rfl (op_load1 sh96 rfl (by first | exact H.own0 | exact H.own1 | exact H.own2 | exact H.own3 | exact H.own4 | exact H.own5 | exact hst.oldK H | exact hst.oldT H | exact hst.oldR H | exact H.ownA | assumption) rfl ?_)
  first | refine ops_on rfl (op_moveI rfl ?_) | refine ops_on rfl (op_move ?_)
  refine ops_on rfl (op_lookupSome (e := e) un96 un23 rfl rfl (hst.oldR H) hfe ?_)
  refine ops_on rfl (op_alloc H zf99 (by omega) (fun b5 s1 H => ?_))
  first | refine ops_on rfl (op_store0 (vs := [.int _ _, .int _ _, .int _ _, .bool _, .slice _ _ _, .bool _, .slice _ _ _, .bool _, .slice _ _ _, .bool _, .slice _ _ _]) H sz99 rfl rfl rfl rfl rfl (by omega) (fun s2 H => ?_)) | refine ops_on rfl (op_store1 (vs := [.int _ _, .int _ _, .int _ _, .bool _, .slice _ _ _, .bool _, .slice _ _ _, .bool _, .slice _ _ _, .bool _, .slice _ _ _]) H sz99 rfl rfl rfl rfl rfl (by omega) (fun s2 H => ?_)) | refine ops_on rfl (op_store2 (vs := [.int _ _, .int _ _, .int _ _, .bool _, .slice _ _ _, .bool _, .slice _ _ _, .bool _, .slice _ _ _, .bool _, .slice _ _ _]) H sz99 rfl rfl rfl rfl rfl (by omega) (fun s2 H => ?_)) | refine ops_on rfl (op_store3 (vs := [.int _ _, .int _ _, .int _ _, .bool _, .slice _ _ _, .bool _, .slice _ _ _, .bool _, .slice _ _ _, .bool _, .slice _ _ _]) H sz99 rfl rfl rfl rfl rfl (by omega) (fun s2 H => ?_)) | refine ops_on rfl (op_store4 (vs := [.int _ _, .int _ _, .int _ _, .bool _, .slice _ _ _, .bool _, .slice _ _ _, .bool _, .slice _ _ _, .bool _, .slice _ _ _]) H sz99 rfl rfl rfl rfl rfl (by omega) (fun s2 H => ?_)) | refine ops_on rfl (op_store0 H sz99 rfl rfl rfl rfl rfl (by omega) (fun s2 H => ?_)) | refine ops_on rfl (op_store1 H sz99 rfl rfl rfl rfl rfl (by omega) (fun s2 H => ?_)) | refine ops_on rfl (op_store2 H sz99 rfl rfl rfl rfl rfl (by omega) (fun s2 H => ?_)) | refine ops_on rfl (op_store3 H sz99 rfl rfl rfl rfl rfl (by omega) (fun s2 H => ?_)) | refine ops_on rfl (op_store4 H sz99 rfl rfl rfl rfl rfl (by omega) (fun s2 H => ?_))
  refine ops_nil ?_
  refine cw_rseq ?_
  refine ops_on rfl (op_fieldAddr of99_0 rfl ?_)
  refine ops_on rfl (op_load1 sh3 rfl (by first | exact H.own0 | exact H.own1 | exact H.own2 | exact H.own3 | exact H.own4 | exact H.own5 | exact hst.oldK H | exact hst.oldT H | exact hst.oldR H | exact H.ownA | assumption) rfl ?_)
  refine ops_on rfl (op_gtr rfl rfl (fun h => ?_) (fun h => ?_))
  · refine ops_nil ?_
    refine cw_then rfl ?_
    obtain ⟨hn, hx, hw, ha, hb, hbe⟩ := bb_split hm hS (by omega) hS6
    obtain ⟨hs1, hpb⟩ := hm _ hx
    obtain ⟨q1, q2, q3, q4, q5, q6⟩ := split_facts hs1 hpb
    rw [hw] at q2 q3 q4
    rw [← hvx] at q1 q2 q3 q4
    obtain ⟨k1, k2⟩ := hg.clo e he1 (by rw [he2]; exact hn) e.x (by rw [hvx]; exact hx) (by rw [hvx, he2]; exact hw)
    rw [he2] at k2
    have hra := bb_range (js := js) (bad := bad) (may := may) (bb js bad may S).2.p
    have hrb := bb_range (js := js) (bad := bad) (may := may) (andNotI S (bb js bad may S).2.p)
    refine cw_rseq ?_
    refine ops_on rfl (op_load1 sh25 rfl (by first | exact H.own0 | exact H.own1 | exact H.own2 | exact H.own3 | exact H.own4 | exact H.own5 | exact hst.oldK H | exact hst.oldT H | exact hst.oldR H | exact H.ownA | assumption) rfl ?_)
    refine ops_on rfl (op_fieldAddr of99_1 rfl ?_)
    refine ops_on rfl (op_loadN sh62 rfl (by first | exact H.own0 | exact H.own1 | exact H.own2 | exact H.own3 | exact H.own4 | exact H.own5 | exact hst.oldK H | exact hst.oldT H | exact hst.oldR H | exact H.ownA | assumption) rfl ?_)
    first | refine ops_on rfl (op_buildSlice (c := [.int _ _, .int _ _, .bool _, .slice _ _ _, .bool _, .slice _ _ _, .bool _, .slice _ _ _, .bool _, .slice _ _ _]) H sl25 rfl rfl (by omega) (fun b15 s3 H => ?_)) | refine ops_on rfl (op_buildSlice H sl25 rfl rfl (by omega) (fun b15 s3 H => ?_))
    have hgt := H.own0
    have H := HL.swap (A := [_, _]) (B := D) H.drop0
    refine ops_on rfl (op_appendOwn H hst.isO sl25 un25 rfl rfl rfl (elems_all hgt rfl) (by decide) rfl rfl (by omega) (by omega) (fun b16 s16 H ho => ?_))
    first | refine ops_on rfl (op_store0 (vs := [.slice _ _ _]) H sz25 rfl rfl rfl rfl rfl (by omega) (fun s4 H => ?_)) | refine ops_on rfl (op_store1 (vs := [.slice _ _ _]) H sz25 rfl rfl rfl rfl rfl (by omega) (fun s4 H => ?_)) | refine ops_on rfl (op_store2 (vs := [.slice _ _ _]) H sz25 rfl rfl rfl rfl rfl (by omega) (fun s4 H => ?_)) | refine ops_on rfl (op_store3 (vs := [.slice _ _ _]) H sz25 rfl rfl rfl rfl rfl (by omega) (fun s4 H => ?_)) | refine ops_on rfl (op_store4 (vs := [.slice _ _ _]) H sz25 rfl rfl rfl rfl rfl (by omega) (fun s4 H => ?_)) | refine ops_on rfl (op_store0 H sz25 rfl rfl rfl rfl rfl (by omega) (fun s4 H => ?_)) | refine ops_on rfl (op_store1 H sz25 rfl rfl rfl rfl rfl (by omega) (fun s4 H => ?_)) | refine ops_on rfl (op_store2 H sz25 rfl rfl rfl rfl rfl (by omega) (fun s4 H => ?_)) | refine ops_on rfl (op_store3 H sz25 rfl rfl rfl rfl rfl (by omega) (fun s4 H => ?_)) | refine ops_on rfl (op_store4 H sz25 rfl rfl rfl rfl rfl (by omega) (fun s4 H => ?_))
    refine ops_nil ?_
    have hoo : Own 62 10 [(b16, .cells (spsC l ++ e.x.cells) 62)] (Slc.v ⟨some ⟨b16, 0, none⟩, l.length + 1, 2 * (l.length + 1) + 1⟩) (spsC (l ++ [e.x])) (l ++ [e.x]).length := by
      rw [show spsC (l ++ [e.x]) = spsC l ++ e.x.cells from flat_snoc, List.length_append]
      exact ho
    have H : HL (bO :: keysH D) s _ [(b5, _), (bO, .cells [Slc.v ⟨some ⟨b16, 0, none⟩, l.length + 1, 2 * (l.length + 1) + 1⟩] 25), (b16, .cells (spsC l ++ e.x.cells) 62)] _ := HL.swap (A := [_]) (B := [_, _]) H
    refine cw_rseq ?_
    refine ops_on rfl (op_load1 sh103 rfl (by first | exact H.own0 | exact H.own1 | exact H.own2 | exact H.own3 | exact H.own4 | exact H.own5 | exact hst.oldK H | exact hst.oldT H | exact hst.oldR H | exact H.ownA | assumption) rfl ?_)
    refine ops_on rfl (op_fieldAddr of99_1 rfl ?_)
    refine ops_on rfl (op_fieldAddr of62_1 rfl ?_)
    refine ops_on rfl (op_load1 sh23 rfl (by first | exact H.own0 | exact H.own1 | exact H.own2 | exact H.own3 | exact H.own4 | exact H.own5 | exact hst.oldK H | exact hst.oldT H | exact hst.oldR H | exact H.ownA | assumption) rfl ?_)
    refine ops_on rfl (op_call rfl fc44 rfl ?_)
    obtain ⟨_, s9, hr, D2, so2, rfl, Hc, ho2⟩ := ih e.x.p q1 (by omega) k1 (by rw [hvx]; exact ha) _ [(b16, .cells (spsC l ++ e.x.cells) 62)] ⟨some ⟨b16, 0, none⟩, l.length + 1, 2 * (l.length + 1) + 1⟩ (l ++ [e.x]) H.fine (hst.later H (.cons _ (List.Sublist.refl _)) hoo) (by simp only [List.length_append, List.length_singleton]; rw [hvx]; omega) (by have := H.most; rw [hvx]; omega)
    refine ⟨_, _, hr, ?_⟩
    clear hr
    have H := HL.callW (A := [_, _]) (L := [_]) (HL.swap (A := [_]) (B := [_, _]) H) Hc (by intro b hb; simp only [List.mem_cons, List.map_cons, List.map_nil, List.not_mem_nil, or_false] at hb; rcases hb with rfl | rfl; { exact ⟨_, List.mem_cons_self⟩ }; { exact ⟨_, List.mem_cons_of_mem _ List.mem_cons_self⟩ }) (by intro p hp; have := List.mem_map_of_mem (f := Prod.fst) hp; exact this)
    clear Hc
    have H := HL.swap (A := _ :: D2) (B := [_]) H
    refine ops_nil ?_
    refine cw_region ?_
    refine ops_on rfl (op_load1 sh103 rfl (by first | exact H.own0 | exact H.own1 | exact H.own2 | exact H.own3 | exact H.own4 | exact H.own5 | exact hst.oldK H | exact hst.oldT H | exact hst.oldR H | exact H.ownA | assumption) rfl ?_)
    first | refine ops_on rfl (op_moveI rfl ?_) | refine ops_on rfl (op_move ?_)
    refine ops_on rfl (op_fieldAddr of99_1 rfl ?_)
    refine ops_on rfl (op_fieldAddr of62_1 rfl ?_)
    refine ops_on rfl (op_load1 sh23 rfl (by first | exact H.own0 | exact H.own1 | exact H.own2 | exact H.own3 | exact H.own4 | exact H.own5 | exact hst.oldK H | exact hst.oldT H | exact hst.oldR H | exact H.ownA | assumption) rfl ?_)
    refine ops_on rfl (op_andNot rfl rfl ?_)
    refine ops_on rfl (op_call rfl fc44 rfl ?_)
    obtain ⟨_, s9, hr, D3, so3, rfl, Hc, ho3⟩ := ih (andNotI S e.x.p) q3 (by omega) k2 (by rw [hvx]; exact hb) _ D2 so2 ((l ++ [e.x]) ++ tk js bad may f e.x.p) H.fine (hst.later H (.cons _ (List.Sublist.refl _)) ho2) (by simp only [List.length_append, List.length_singleton]; have := tk_len hm f e.x.p q1 (by omega) (by rw [hvx]; exact ha); rw [hvx] at this ⊢; omega) (by have := H.most; rw [hvx] at this ⊢; omega)
    refine ⟨_, _, hr, ?_⟩
    clear hr
    have H := HL.callW (A := _ :: D2) (L := [_]) (HL.swap (A := [_]) (B := _ :: D2) H) Hc (by intro b hb; obtain ⟨p, hp, rfl⟩ := List.mem_map.mp (show b ∈ keysH ((bO, .cells [Slc.v so2] 25) :: D2) from hb); exact ⟨p.2, hp⟩) (by intro p hp; have := List.mem_map_of_mem (f := Prod.fst) hp; exact this)
    clear Hc
    refine ops_nil ?_
    refine nrm_end ?_
    refine end_nil ?_
    refine ⟨D3, so3, rfl, H.left.up (by rw [hvx] at *; omega), ?_⟩
    rw [tk, if_pos (by omega)]
    rw [hvx, List.append_assoc, List.append_assoc] at ho3
    exact ho3
  · refine ops_nil ?_
    refine cw_else rfl ?_
    refine cw_skip ?_
    refine nrm_end ?_
    refine end_nil ?_
    refine ⟨D, ⟨soa, son, soc⟩, rfl, H.drop0.up (by omega), ?_⟩
    rw [tk, if_neg (by omega), List.append_nil]
    exact hst.isO

theorem take_ok {I : Table} (hI : Plain I) {js : List (Int × Int)} {bad : Int} {may : List Sp} (hm : MayOK may) {r bK bO bT : Nat} {E : List Ent} (hg : Good js bad may E) : ∀ f, TkC I js bad may r bK bO bT E f
  | 0 => fun S _ h => by omega
  | f + 1 => take_step hI hm hg (take_ok hI hm hg f)

end Go.Proofs.YtdejleegamcioaaGreat
